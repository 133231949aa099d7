/-
What is known of the field's functions: words' sums, products, and less, fold.
What is known of the field's functions: less, fold, sums, differences, products.
What is known of the field's functions: products, differences, squares.
Bytes as numbers: digits of eight bits in words, words cut into digits.
What is known of the field's functions: bytes, comparisons, choices.
What is known of the field's functions: powers.
What is known of the field's functions: powers, inverses, roots.
What is known of the field's functions: which bytes are numbers.
-/
import Derived.Test.YtahkpabndfaoiaaProg
import Derived.Test.YtahkpabndfaoiaaUD
import Derived.Laws.Externs
import Derived.Lib.Hide

/- What is known of the field's functions: words' sums, products, and less, fold. -/
namespace Go.Proofs.Ytahkpabndfaoiaa
open Eng Go Go.RowKit Go.Proofs

theorem mixed : Try.prog.follows .mixedOrders = true := by kernel_rfl

/-- a call of a function without a body, by its entry -/
theorem specOK_ext {P : Program} {f : FuncId} {g : FnSpec} (h : ∀ ps sv pre, g ps = some (sv, pre) → AllP pre → ∀ ρ vals, denPs ρ ps = some vals → ∃ v, relS ρ sv v ∧ ∀ w : World, (callFunc f vals.toArray).run P w = .ok (.value v) w) : SpecOK P f g := by
  intro ps sv pre hg hp ρ vals hd w
  obtain ⟨v, h1, h2⟩ := h ps sv pre hg hp ρ vals hd
  exact ⟨v, h1, .inl (h2 w)⟩

def sub64Entry : Array Value → Sem Value := fun args => do
  let (x, y, b) ← Extern.MathBitsCarry.three "Sub64" args
  pure (Extern.MathBitsCarry.pair ((x + Extern.MathBitsCarry.m64 - y - b) % Extern.MathBitsCarry.m64) (if x < y + b then 1 else 0))
def add64Ent : Array Value → Sem Value := fun args => do
  let (x, y, c) ← Extern.MathBitsCarry.three "Add64" args
  pure (Extern.MathBitsCarry.pair ((x + y + c) % Extern.MathBitsCarry.m64) ((x + y + c) / Extern.MathBitsCarry.m64))

theorem run_sub (x y b : Int) (hb : b.toNat ≤ 1) (w : World) : (callFunc 83 #[.int .u64 x, .int .u64 y, .int .u64 b]).run Try.prog w = .ok (.value (.tuple #[.int .u64 (Fw.subS x y b), .int .u64 (Fw.subB x y b)])) w := by
  rw [run_callFunc_extern Try.func83 (by kernel_rfl) (by kernel_rfl) (by kernel_rfl) (e := sub64Entry) (by kernel_rfl)]
  cases b with
  | ofNat n =>
    have : n = 0 ∨ n = 1 := by simp at hb; omega
    rcases this with rfl | rfl <;> rfl
  | negSucc n => rfl
theorem run_add (x y c : Int) (hc : c.toNat ≤ 1) (w : World) : (callFunc 65 #[.int .u64 x, .int .u64 y, .int .u64 c]).run Try.prog w = .ok (.value (.tuple #[.int .u64 (Fw.addS x y c), .int .u64 (Fw.addC x y c)])) w := by
  rw [run_callFunc_extern Try.func65 (by kernel_rfl) (by kernel_rfl) (by kernel_rfl) (e := add64Ent) (by kernel_rfl)]
  cases c with
  | ofNat n =>
    have : n = 0 ∨ n = 1 := by simp at hc; omega
    rcases this with rfl | rfl <;> rfl
  | negSucc n => rfl

/-- three words in, two out -/
def specW (f g : Int → Int → Int → Int) : FnSpec
  | [x, y, b] => match x.int?, y.int?, b.int? with
    | some (kx, x), some (ky, y), some (kb, b) => cond (ikEq kx .u64 && (ikEq ky .u64 && ikEq kb .u64)) (some (.tup [u64 (f x y b), u64 (g x y b)], [b.toNat ≤ 1])) none
    | _, _, _ => none
  | _ => none

theorem specW_ok {f : FuncId} {s g : Int → Int → Int → Int} (h : ∀ x y b : Int, b.toNat ≤ 1 → ∀ w : World, (callFunc f #[.int .u64 x, .int .u64 y, .int .u64 b]).run Try.prog w = .ok (.value (.tuple #[.int .u64 (s x y b), .int .u64 (g x y b)])) w) : SpecOK Try.prog f (specW s g) := by
  refine specOK_ext ?_
  intro ps sv pre hg hp ρ vals hd
  unfold specW at hg
  split at hg
  · rename_i px py pb
    split at hg
    · rename_i kx x ky y kb b e1 e2 e3
      by_cases hk : (ikEq kx .u64 && (ikEq ky .u64 && ikEq kb .u64)) = true
      · rw [hk] at hg
        cases hg
        simp only [Bool.and_eq_true] at hk
        obtain ⟨k1, k2, k3⟩ := hk
        have k1 := ikEq_spec k1
        have k2 := ikEq_spec k2
        have k3 := ikEq_spec k3
        subst k1; subst k2; subst k3
        obtain ⟨v1, l1, d1, d1', rfl⟩ := denPs_cons hd
        obtain ⟨v2, l2, d2, d2', rfl⟩ := denPs_cons d1'
        obtain ⟨v3, l3, d3, d3', rfl⟩ := denPs_cons d2'
        have := denPs_nil d3'
        subst this
        have a1 := PV.int?_spec e1 d1
        have a2 := PV.int?_spec e2 d2
        have a3 := PV.int?_spec e3 d3
        subst a1; subst a2; subst a3
        exact ⟨_, ⟨_, rfl, rfl⟩, fun w => h x y b hp.1 w⟩
      · rw [Bool.eq_false_iff.2 hk] at hg
        cases hg
    · cases hg
  · cases hg

theorem sub_ok : SpecOK Try.prog 83 (specW Fw.subS Fw.subB) := specW_ok run_sub
theorem add_ok : SpecOK Try.prog 65 (specW Fw.addS Fw.addC) := specW_ok run_add

def primeL : List Int := [18446744073709551597, 18446744073709551615, 18446744073709551615, 9223372036854775807]
def spec0 (res : SV) : FnSpec := fun ps => match ps with
    | [] => some (res, [])
    | _ => none
def specPrime : FnSpec := spec0 (.pv (.agg (intsC .u64 primeL)))
theorem prime_ok : SpecOK Try.prog 82 specPrime :=
  spec0_ok (n := 100) Try.func82 (by decide +kernel) (by kernel_rfl) (tableOK_nil _) mixed (.of (sv := .pv (.agg (intsC .u64 primeL))) (ob := []) (by kernel_rfl) trivial rfl)

def R1 : List (FuncId × FnSpec) := [(83, specW Fw.subS Fw.subB), (65, specW Fw.addS Fw.addC), (82, specPrime)]
theorem R1_ok : TableOK Try.prog (lookT R1) := tableOK_cons sub_ok (tableOK_cons add_ok (tableOK_cons prime_ok (tableOK_nil _)))

end Go.Proofs.Ytahkpabndfaoiaa

/- What is known of the field's functions: less, fold, sums, differences, products. -/
namespace Go.Proofs.Ytahkpabndfaoiaa
open Eng Go Go.RowKit Go.Proofs

/-- Mul64 -/
def specMul : FnSpec := spec2 (dI .u64) (dI .u64) fun x y => (.tup [u64 (Fw.mulH x y), u64 (Fw.mulL x y)], [Fw.W x, Fw.W y])

theorem mul_x (x y : Int) : callX Try.prog (lookT R1) 200 Try.f66 [u64 x, u64 y] = some (.tup [u64 (Fw.mulX x y), u64 (Fw.wr (x * y))], []) := by kernel_rfl

theorem mul_ok : SpecOK Try.prog 66 specMul :=
  spec2_ok Try.func66 (by decide +kernel) (by kernel_rfl) R1_ok mixed (by kernel_rfl) fun x y h => by
    obtain ⟨hx, hy, _⟩ := h
    refine ⟨_, _, _, mul_x x y, trivial, rfl, ?_⟩
    rw [Fw.mulX_eq hx hy, Fw.wr_mod]
    rfl

/-- less -/
def num4 (l : List Int) : Int := match l with
  | [a, b, c, d] => Fw.val4 a b c d
  | _ => 0
def W4L (l : List Int) : Prop := ∃ a b c d, l = [a, b, c, d] ∧ Fw.W a ∧ Fw.W b ∧ Fw.W c ∧ Fw.W d

def specLess : FnSpec := spec1 (dL .u64) fun l => (.pv (feP (toF (num4 l).toNat)), [W4L l ∧ num4 l < 2 * Ec.P])

theorem less_x (a b c d : Int) : callX Try.prog (lookT R1) 400 Try.f64 [.agg (intsC .u64 [a, b, c, d])] =
    let c0 := Fw.subB a 18446744073709551597 0
    let c1 := Fw.subB b 18446744073709551615 c0
    let c2 := Fw.subB c 18446744073709551615 c1
    let ob := [c2.toNat ≤ 1, c1.toNat ≤ 1, c0.toNat ≤ 1, (0 : Int).toNat ≤ 1]
    cond ((Fw.lessR a b c d).2 == 0) (some (.pv (.agg (intsC .u64 (Fw.lessR a b c d).1)), ob)) (some (.pv (.agg (intsC .u64 [a, b, c, d])), ob)) := by kernel_rfl

theorem less_ok : SpecOK Try.prog 64 specLess :=
  spec1_ok Try.func64 (by decide +kernel) (by kernel_rfl) R1_ok mixed (by kernel_rfl) fun l h => by
    obtain ⟨⟨⟨a, b, c, d, rfl, ha, hb, hc, hd⟩, hN⟩, _⟩ := h
    have hl := Fw.less_mod ha hb hc hd hN
    have h0 := Fw.subS_spec ha (Fw.W_lit (n := 18446744073709551597) (by decide) (by decide)) Fw.B0
    have h1 := Fw.subS_spec hb (Fw.W_lit (n := 18446744073709551615) (by decide) (by decide)) h0.2.2
    have h2 := Fw.subS_spec hc (Fw.W_lit (n := 18446744073709551615) (by decide) (by decide)) h1.2.2
    have hx := less_x a b c d
    have hob : AllP [(Fw.subB c 18446744073709551615 (Fw.subB b 18446744073709551615 (Fw.subB a 18446744073709551597 0))).toNat ≤ 1, (Fw.subB b 18446744073709551615 (Fw.subB a 18446744073709551597 0)).toNat ≤ 1, (Fw.subB a 18446744073709551597 0).toNat ≤ 1, (0 : Int).toNat ≤ 1] :=
      ⟨Fw.b_toNat h2.2.2, Fw.b_toNat h1.2.2, Fw.b_toNat h0.2.2, by decide, trivial⟩
    cases hg : (Fw.lessR a b c d).2 == 0 with
    | true =>
      simp only [hg, cond_true] at hx
      refine ⟨_, _, _, hx, hob, intsS_val _ _, ?_⟩
      exact congrArg (fun l => some (intsV .u64 l)) (hl.1 (by simpa using hg))
    | false =>
      simp only [hg, cond_false] at hx
      refine ⟨_, _, _, hx, hob, intsS_val _ _, ?_⟩
      exact congrArg (fun l => some (intsV .u64 l)) (hl.2 (by simpa using hg))

def R2 : List (FuncId × FnSpec) := (66, specMul) :: (64, specLess) :: R1
theorem R2_ok : TableOK Try.prog (lookT R2) := tableOK_cons mul_ok (tableOK_cons less_ok R1_ok)

/-- fold -/
def specFold : FnSpec := spec2 (dL .u64) (dI .u64) fun l k => (.pv (feP (toF (num4 l + 115792089237316195423570985008687907853269984665640564039457584007913129639936 * k).toNat)), [W4L l ∧ Fw.W k])

theorem fold_x (a b c d k : Int) : callX Try.prog (lookT R2) 600 Try.f67 [.agg (intsC .u64 [a, b, c, d]), u64 k] =
    let lo := Fw.mulL k 38
    let hi := Fw.mulH k 38
    let c0 := Fw.addC a lo 0
    let c1 := Fw.addC b hi c0
    match Fw.foldU a b c d k with
    | [u0, u1, u2, u3] =>
      let t := Fw.wr (19 * Fw.shrI d 63)
      let s0 := Fw.addS a lo 0
      let s1 := Fw.addS b hi c0
      let s2 := Fw.addS c 0 c1
      let e0 := Fw.addC s0 t 0
      let e1 := Fw.addC s1 0 e0
      let e2 := Fw.addC s2 0 e1
      let t2 := Fw.wr (19 * Fw.shrI u3 63)
      let f0 := Fw.addC u0 t2 0
      let f1 := Fw.addC u1 0 f0
      let f2 := Fw.addC u2 0 f1
      some (.pv (feP (toF (num4 (Fw.foldV u0 u1 u2 u3)).toNat)), [W4L (Fw.foldV u0 u1 u2 u3) ∧ num4 (Fw.foldV u0 u1 u2 u3) < 2 * Ec.P, f2.toNat ≤ 1, f1.toNat ≤ 1, f0.toNat ≤ 1, (0 : Int).toNat ≤ 1,
        e2.toNat ≤ 1, e1.toNat ≤ 1, e0.toNat ≤ 1, (0 : Int).toNat ≤ 1, c1.toNat ≤ 1, c0.toNat ≤ 1, (0 : Int).toNat ≤ 1, Fw.W k, Fw.W 38])
    | _ => none := by kernel_rfl

theorem fold_ok : SpecOK Try.prog 67 specFold :=
  spec2_ok Try.func67 (by decide +kernel) (by kernel_rfl) R2_ok mixed (by kernel_rfl) fun l k h => by
    obtain ⟨⟨⟨a, b, c, d, rfl, ha, hb, hc, hd⟩, hk⟩, _⟩ := h
    obtain ⟨u0, u1, u2, u3, eu, w0, w1, w2, w3, hu⟩ := Fw.foldU_spec ha hb hc hd hk
    obtain ⟨v0, v1, v2, v3, ev, x0, x1, x2, x3, hv, hle⟩ := Fw.foldV_spec w0 w1 w2 w3
    have hx := fold_x a b c d k
    simp only [eu, ev] at hx
    have m := Fw.mulH_spec hk (Fw.W_lit (n := 38) (by decide) (by decide))
    have mh : Fw.W (Fw.mulH k 38) := by unfold Fw.W; omega
    have h0 := Fw.addS_spec ha m.2.1 Fw.B0
    have h1 := Fw.addS_spec hb mh h0.2.2
    have h2 := Fw.addS_spec hc Fw.W0 h1.2.2
    have wt := Fw.wr_W (19 * Fw.shrI d 63)
    have g0 := Fw.addS_spec h0.2.1 wt Fw.B0
    have g1 := Fw.addS_spec h1.2.1 Fw.W0 g0.2.2
    have g2 := Fw.addS_spec h2.2.1 Fw.W0 g1.2.2
    have wt2 := Fw.wr_W (19 * Fw.shrI u3 63)
    have q0 := Fw.addS_spec w0 wt2 Fw.B0
    have q1 := Fw.addS_spec w1 Fw.W0 q0.2.2
    have q2 := Fw.addS_spec w2 Fw.W0 q1.2.2
    have hP : (Ec.P : Int) = 57896044618658097711785492504343953926634992332820282019728792003956564819949 := Fw.P_lit
    have hn := Fw.val4_nn ha hb hc hd
    have hvn := Fw.val4_nn x0 x1 x2 x3
    refine ⟨_, _, _, hx, ⟨⟨⟨v0, v1, v2, v3, rfl, x0, x1, x2, x3⟩, ?_⟩, Fw.b_toNat q2.2.2, Fw.b_toNat q1.2.2, Fw.b_toNat q0.2.2, by decide, Fw.b_toNat g2.2.2, Fw.b_toNat g1.2.2, Fw.b_toNat g0.2.2, by decide, Fw.b_toNat h1.2.2, Fw.b_toNat h0.2.2, by decide, hk, Fw.W_lit (by decide) (by decide), trivial⟩, feP_val _, ?_⟩
    · show Fw.val4 v0 v1 v2 v3 < 2 * Ec.P
      omega
    · have hq := Fw.shr63_W hd
      have hq2 := Fw.shr63_W w3
      have key := Fw.fold_mod (N := Fw.val4 a b c d + 115792089237316195423570985008687907853269984665640564039457584007913129639936 * k) (V := Fw.val4 v0 v1 v2 v3) (q := Fw.shrI d 63 + 2 * k + Fw.shrI u3 63) (by rw [hu, hv, hP]; omega) (by unfold Fw.W at hk; omega) hvn.1 (by unfold Fw.W Fw.B at *; omega)
      have : toF (Fw.val4 a b c d + 115792089237316195423570985008687907853269984665640564039457584007913129639936 * k).toNat = toF (Fw.val4 v0 v1 v2 v3).toNat := Fin.ext key
      show (SV.pv (feP (toF (Fw.val4 a b c d + 115792089237316195423570985008687907853269984665640564039457584007913129639936 * k).toNat))).val? = _
      rw [this]
      rfl

def R3 : List (FuncId × FnSpec) := (67, specFold) :: R2
theorem R3_ok : TableOK Try.prog (lookT R3) := tableOK_cons fold_ok R2_ok

/-- Small: a number below 2^64 -/
def specSmall : FnSpec := spec1 (dI .u64) fun n => (.pv (feP (toF n.toNat)), [Fw.W n])
theorem small_x (n : Int) : callX Try.prog (lookT R3) 100 Try.f34 [u64 n] = some (.pv (.agg (intsC .u64 [n, 0, 0, 0])), []) := by kernel_rfl
theorem small_dig {n : Int} (h : Fw.W n) : digI 64 (toF n.toNat).val 4 = [n, 0, 0, 0] := by
  have hP : (Ec.P : Int) = 57896044618658097711785492504343953926634992332820282019728792003956564819949 := Fw.P_lit
  have hv : Fw.val4 n 0 0 0 = n := by unfold Fw.val4; omega
  have := feL_of (a := n) (b := 0) (c := 0) (d := 0) ⟨h, Fw.W0, Fw.W0, Fw.W0⟩ (by rw [hv]; unfold Fw.W at h; omega)
  rw [hv] at this
  exact this
theorem small_ok : SpecOK Try.prog 34 specSmall :=
  spec1_ok Try.func34 (by decide +kernel) (by kernel_rfl) R3_ok mixed (by kernel_rfl) fun n h => by
    exact ⟨_, _, _, small_x n, trivial, intsS_val _ _, congrArg (fun l => some (intsV .u64 l)) (small_dig h.1)⟩

/-- the words of a number, its value -/
def wd (x : Fin Ec.P) (i : Nat) : Int := dg 64 x.val i
theorem val4_fe (x : Fin Ec.P) : Fw.val4 (wd x 0) (wd x 1) (wd x 2) (wd x 3) = x.val := by
  have := Fw.words_dg x.val (by have := x.isLt; have hP : Ec.P = 57896044618658097711785492504343953926634992332820282019728792003956564819949 := rfl; omega)
  exact this.symm
theorem wd_W (x : Fin Ec.P) (i : Nat) : Fw.W (wd x i) := Fw.dg_W _ _

theorem toF_gen {m : Nat} (h : 0 < m) (z : Fin m) (a b : Nat) (hz : z.val = a % m) (e : b = a) : z = ⟨b % m, Nat.mod_lt _ h⟩ := by
  subst e
  exact Fin.ext hz
theorem toF_add (x y : Fin Ec.P) {n : Nat} (e : n = x.val + y.val) : x + y = toF n := toF_gen (by decide) _ _ _ (Fin.val_add x y) e
theorem neg_gen {m : Nat} [NeZero m] (x : Fin m) : (-x).val = (m - x.val) % m := by
  cases m with
  | zero => exact x.elim0
  | succ m => rfl
theorem toF_neg (x : Fin Ec.P) {n : Nat} (e : n = Ec.P - x.val) : -x = toF n := toF_gen (by decide) _ _ _ (neg_gen x) e

/-- Add -/
def specAdd : FnSpec := spec2 dE dE fun x y => (.pv (feP (x + y)), [])
theorem addE_x (x y : Fin Ec.P) : callX Try.prog (lookT R3) 600 Try.f35 [feP x, feP y] =
    let c0 := Fw.addC (wd x 0) (wd y 0) 0
    let c1 := Fw.addC (wd x 1) (wd y 1) c0
    let c2 := Fw.addC (wd x 2) (wd y 2) c1
    let l := (Fw.addW (wd x 0) (wd x 1) (wd x 2) (wd x 3) (wd y 0) (wd y 1) (wd y 2) (wd y 3)).1
    some (.pv (feP (toF (num4 l).toNat)), [W4L l ∧ num4 l < 2 * Ec.P, c2.toNat ≤ 1, c1.toNat ≤ 1, c0.toNat ≤ 1, (0 : Int).toNat ≤ 1]) := by kernel_rfl
theorem addE_ok : SpecOK Try.prog 35 specAdd :=
  spec2_ok Try.func35 (by decide +kernel) (by kernel_rfl) R3_ok mixed (by kernel_rfl) fun x y _ => by
    obtain ⟨s0, s1, s2, s3, k, ek, w0, w1, w2, w3, hk, hv⟩ := Fw.addW_spec (wd_W x 0) (wd_W x 1) (wd_W x 2) (wd_W x 3) (wd_W y 0) (wd_W y 1) (wd_W y 2) (wd_W y 3)
    have h0 := Fw.addS_spec (wd_W x 0) (wd_W y 0) Fw.B0
    have h1 := Fw.addS_spec (wd_W x 1) (wd_W y 1) h0.2.2
    have h2 := Fw.addS_spec (wd_W x 2) (wd_W y 2) h1.2.2
    have hx := addE_x x y
    simp only [ek] at hx
    rw [val4_fe, val4_fe] at hv
    have hP : (Ec.P : Int) = 57896044618658097711785492504343953926634992332820282019728792003956564819949 := Fw.P_lit
    have hn := Fw.val4_nn w0 w1 w2 w3
    have lx := x.isLt
    have ly := y.isLt
    have hk0 : k = 0 := by unfold Fw.B at hk; omega
    subst hk0
    refine ⟨_, _, _, hx, ⟨⟨⟨s0, s1, s2, s3, rfl, w0, w1, w2, w3⟩, ?_⟩, Fw.b_toNat h2.2.2, Fw.b_toNat h1.2.2, Fw.b_toNat h0.2.2, by decide, trivial⟩, feP_val _, ?_⟩
    · show Fw.val4 s0 s1 s2 s3 < 2 * Ec.P
      omega
    · have : x + y = toF (Fw.val4 s0 s1 s2 s3).toNat := toF_add x y (by omega)
      show (SV.pv (feP (x + y))).val? = _
      rw [this]
      rfl

/-- Neg -/
def specNeg : FnSpec := spec1 dE fun x => (.pv (feP (-x)), [])
theorem negE_x (x : Fin Ec.P) : callX Try.prog (lookT R3) 600 Try.f59 [feP x] =
    let c0 := Fw.subB 18446744073709551597 (wd x 0) 0
    let c1 := Fw.subB 18446744073709551615 (wd x 1) c0
    let c2 := Fw.subB 18446744073709551615 (wd x 2) c1
    let l := (Fw.negW (wd x 0) (wd x 1) (wd x 2) (wd x 3)).1
    some (.pv (feP (toF (num4 l).toNat)), [W4L l ∧ num4 l < 2 * Ec.P, c2.toNat ≤ 1, c1.toNat ≤ 1, c0.toNat ≤ 1, (0 : Int).toNat ≤ 1]) := by kernel_rfl
theorem negE_ok : SpecOK Try.prog 59 specNeg :=
  spec1_ok Try.func59 (by decide +kernel) (by kernel_rfl) R3_ok mixed (by kernel_rfl) fun x _ => by
    obtain ⟨s0, s1, s2, s3, k, ek, w0, w1, w2, w3, hk, hv⟩ := Fw.negW_spec (wd_W x 0) (wd_W x 1) (wd_W x 2) (wd_W x 3)
    have h0 := Fw.subS_spec (Fw.W_lit (n := 18446744073709551597) (by decide) (by decide)) (wd_W x 0) Fw.B0
    have h1 := Fw.subS_spec (Fw.W_lit (n := 18446744073709551615) (by decide) (by decide)) (wd_W x 1) h0.2.2
    have h2 := Fw.subS_spec (Fw.W_lit (n := 18446744073709551615) (by decide) (by decide)) (wd_W x 2) h1.2.2
    have hx := negE_x x
    simp only [ek] at hx
    rw [val4_fe] at hv
    have hP : (Ec.P : Int) = 57896044618658097711785492504343953926634992332820282019728792003956564819949 := Fw.P_lit
    have hn := Fw.val4_nn w0 w1 w2 w3
    have lx := x.isLt
    have hk0 : k = 0 := by unfold Fw.B at hk; omega
    subst hk0
    refine ⟨_, _, _, hx, ⟨⟨⟨s0, s1, s2, s3, rfl, w0, w1, w2, w3⟩, ?_⟩, Fw.b_toNat h2.2.2, Fw.b_toNat h1.2.2, Fw.b_toNat h0.2.2, by decide, trivial⟩, feP_val _, ?_⟩
    · show Fw.val4 s0 s1 s2 s3 < 2 * Ec.P
      omega
    · have : -x = toF (Fw.val4 s0 s1 s2 s3).toNat := toF_neg x (by omega)
      show (SV.pv (feP (-x))).val? = _
      rw [this]
      rfl

def R4 : List (FuncId × FnSpec) := (34, specSmall) :: (35, specAdd) :: (59, specNeg) :: R3
theorem R4_ok : TableOK Try.prog (lookT R4) := tableOK_cons small_ok (tableOK_cons addE_ok (tableOK_cons negE_ok R3_ok))

end Go.Proofs.Ytahkpabndfaoiaa

/- What is known of the field's functions: products, differences, squares. -/
namespace Go.Proofs.Ytahkpabndfaoiaa
open Eng Go Go.RowKit Go.Proofs

def macOb (l : List Prop) (p : Int × Int) : List Prop := ((0 : Int).toNat ≤ 1) :: ((0 : Int).toNat ≤ 1) :: Fw.W p.1 :: Fw.W p.2 :: l
theorem macOb_all : ∀ (ps : List (Int × Int)) (l : List Prop), AllP l → (∀ p ∈ ps, Fw.W p.1 ∧ Fw.W p.2) → AllP (ps.foldl macOb l)
  | [], l, h, _ => h
  | p :: ps, l, h, hp => macOb_all ps _ (⟨by decide, by decide, (hp p (.head _)).1, (hp p (.head _)).2, h⟩ : AllP (_ :: _ :: _ :: _ :: _)) fun q hq => hp q (.tail _ hq)

def specMulE : FnSpec := spec2 dE dE fun x y => (.pv (feP (x * y)), [])

theorem mulE_x (x y : Fin Ec.P) : callX Try.prog (lookT R4) 1000 Try.f36 [feP x, feP y] =
    let x0 := wd x 0
    let x1 := wd x 1
    let x2 := wd x 2
    let x3 := wd x 3
    let y0 := wd y 0
    let y1 := wd y 1
    let y2 := wd y 2
    let y3 := wd y 3
    match Fw.mul8 x0 x1 x2 x3 y0 y1 y2 y3 with
    | [l0, l1, l2, l3, h0, h1, h2, h3] =>
      match Fw.redW l0 l1 l2 l3 h0 h1 h2 h3 with
      | [r0, r1, r2, r3, o] => some (.pv (feP (toF (num4 [r0, r1, r2, r3] + 115792089237316195423570985008687907853269984665640564039457584007913129639936 * o).toNat)),
          (W4L [r0, r1, r2, r3] ∧ Fw.W o) :: [(x0, y0), (x0, y1), (x0, y2), (x0, y3), (x1, y0), (x1, y1), (x1, y2), (x1, y3), (x2, y0), (x2, y1), (x2, y2), (x2, y3), (x3, y0), (x3, y1), (x3, y2), (x3, y3), (h0, 38), (h1, 38), (h2, 38), (h3, 38)].foldl macOb [])
      | _ => none
    | _ => none := by kernel_rfl

theorem toF_mul {m : Nat} (h : 0 < m) (x y : Fin m) {n : Nat} (e : n % m = x.val * y.val % m) : x * y = ⟨n % m, Nat.mod_lt _ h⟩ := by
  refine Fin.ext ?_
  rw [Fin.val_mul]
  exact e.symm

theorem mulE_ok : SpecOK Try.prog 36 specMulE :=
  spec2_ok Try.func36 (by decide +kernel) (by kernel_rfl) R4_ok mixed (by kernel_rfl) fun x y _ => by
    obtain ⟨l0, l1, l2, l3, h0, h1, h2, h3, e8, hl, hh, hv⟩ := Fw.mul8_spec ⟨wd_W x 0, wd_W x 1, wd_W x 2, wd_W x 3⟩ ⟨wd_W y 0, wd_W y 1, wd_W y 2, wd_W y 3⟩
    obtain ⟨r0, r1, r2, r3, o, er, ⟨w0, w1, w2, w3, wo⟩, hr⟩ := Fw.redW_spec hl hh
    have hx := mulE_x x y
    simp only [e8, er] at hx
    rw [val4_fe, val4_fe] at hv
    have w38 : Fw.W 38 := Fw.W_lit (by decide) (by decide)
    have hp := macOb_all [(wd x 0, wd y 0), (wd x 0, wd y 1), (wd x 0, wd y 2), (wd x 0, wd y 3), (wd x 1, wd y 0), (wd x 1, wd y 1), (wd x 1, wd y 2), (wd x 1, wd y 3), (wd x 2, wd y 0), (wd x 2, wd y 1), (wd x 2, wd y 2), (wd x 2, wd y 3), (wd x 3, wd y 0), (wd x 3, wd y 1), (wd x 3, wd y 2), (wd x 3, wd y 3), (h0, 38), (h1, 38), (h2, 38), (h3, 38)] [] trivial (by
      simp only [List.forall_mem_cons, wd_W, hh.1, hh.2.1, hh.2.2.1, hh.2.2.2, w38, true_and, and_true]
      simp)
    refine ⟨_, _, _, hx, ⟨⟨⟨r0, r1, r2, r3, rfl, w0, w1, w2, w3⟩, wo⟩, hp⟩, feP_val _, ?_⟩
    have hn := Fw.val4_nn w0 w1 w2 w3
    have hh' := Fw.val4_nn hh.1 hh.2.1 hh.2.2.1 hh.2.2.2
    have hl' := Fw.val4_nn hl.1 hl.2.1 hl.2.2.1 hl.2.2.2
    have hP : (Ec.P : Int) = 57896044618658097711785492504343953926634992332820282019728792003956564819949 := Fw.P_lit
    have key := Fw.fold_mod (N := x.val * y.val) (V := num4 [r0, r1, r2, r3] + 115792089237316195423570985008687907853269984665640564039457584007913129639936 * o) (q := 2 * Fw.val4 h0 h1 h2 h3) (by
      show _ = Fw.val4 r0 r1 r2 r3 + _ + _
      rw [hv, hP, ← hr]; omega) (Int.mul_nonneg (Int.natCast_nonneg _) (Int.natCast_nonneg _)) (by
      show 0 ≤ Fw.val4 r0 r1 r2 r3 + _
      unfold Fw.W at wo; omega) (by omega)
    have : x * y = toF (num4 [r0, r1, r2, r3] + 115792089237316195423570985008687907853269984665640564039457584007913129639936 * o).toNat := toF_mul (by decide) x y (by
      rw [← key, ← Int.natCast_mul, Int.toNat_natCast])
    show (SV.pv (feP (x * y))).val? = _
    rw [this]
    rfl

def specSq : FnSpec := spec1 dE fun x => (.pv (feP (x * x)), [])
def specSub : FnSpec := spec2 dE dE fun x y => (.pv (feP (x + -y)), [])
def R5 : List (FuncId × FnSpec) := (36, specMulE) :: R4
theorem R5_ok : TableOK Try.prog (lookT R5) := tableOK_cons mulE_ok R4_ok
theorem sq_x (x : Fin Ec.P) : callX Try.prog (lookT R5) 100 Try.f80 [feP x] = some (.pv (feP (x * x)), []) := by kernel_rfl
theorem sq_ok : SpecOK Try.prog 80 specSq :=
  spec1_ok Try.func80 (by decide +kernel) (by kernel_rfl) R5_ok mixed (by kernel_rfl) fun x _ => .of (sq_x x) trivial (feP_val _)
theorem subE_x (x y : Fin Ec.P) : callX Try.prog (lookT R5) 100 Try.f37 [feP x, feP y] = some (.pv (feP (x + -y)), []) := by kernel_rfl
theorem subE_ok : SpecOK Try.prog 37 specSub :=
  spec2_ok Try.func37 (by decide +kernel) (by kernel_rfl) R5_ok mixed (by kernel_rfl) fun x y _ => .of (subE_x x y) trivial (feP_val _)

end Go.Proofs.Ytahkpabndfaoiaa

/- Bytes as numbers: digits of eight bits in words, words cut into digits. -/
namespace Eng
open Go Go.RowKit

/-- the number that digits say -/
def numI (w : Nat) : List Int → Nat
  | [] => 0
  | a :: l => a.toNat + 2 ^ w * numI w l

theorem dg_succ (w a m i : Nat) (ha : a < 2 ^ w) : dg w (a + 2 ^ w * m) (i + 1) = dg w m i := by
  unfold dg
  have : (a + 2 ^ w * m) / 2 ^ (w * (i + 1)) = m / 2 ^ (w * i) := by
    rw [show w * (i + 1) = w + w * i by rw [Nat.mul_add, Nat.mul_one, Nat.add_comm], Nat.pow_add, ← Nat.div_div_eq_div_mul, Nat.add_mul_div_left _ _ (Nat.two_pow_pos w), Nat.div_eq_of_lt ha, Nat.zero_add]
  rw [this]

theorem digI_succ (w a m n : Nat) (ha : a < 2 ^ w) : digI w (a + 2 ^ w * m) (n + 1) = (a : Int) :: digI w m n := by
  unfold digI
  rw [List.range_succ_eq_map, List.map_cons, List.map_map]
  congr 1
  · unfold dg
    simp [Nat.add_mul_mod_self_left, Nat.mod_eq_of_lt ha]
  · exact List.map_congr_left fun i _ => dg_succ w a m i ha

theorem digI_numI {w : Nat} : ∀ {l : List Int}, (∀ a ∈ l, 0 ≤ a ∧ a < ((2 ^ w : Nat) : Int)) → digI w (numI w l) l.length = l
  | [], _ => rfl
  | a :: l, h => by
    have h0 := h a (.head _)
    have ih := digI_numI (w := w) (l := l) fun b hb => h b (.tail _ hb)
    simp only [numI, List.length_cons]
    rw [digI_succ w _ _ _ (by omega), ih]
    congr 1
    omega

theorem dg_nn (w x i : Nat) : 0 ≤ dg w x i ∧ dg w x i < ((2 ^ w : Nat) : Int) := by
  unfold dg
  exact ⟨Int.natCast_nonneg _, Int.ofNat_lt.2 (Nat.mod_lt _ (Nat.two_pow_pos w))⟩

theorem dg_mod (w x n i : Nat) (h : i < n) : dg w (x % 2 ^ (w * n)) i = dg w x i := by
  unfold dg
  congr 1
  have hn : 2 ^ (w * n) = 2 ^ (w * i) * 2 ^ (w * (n - i)) := by rw [← Nat.pow_add, ← Nat.mul_add]; congr 2; omega
  rw [hn, Nat.mod_mul_right_div_self, Nat.mod_mod_of_dvd]
  exact Nat.pow_dvd_pow 2 (by
    have : w * 1 ≤ w * (n - i) := Nat.mul_le_mul_left w (by omega)
    omega)

theorem digI_mod (w x n : Nat) : digI w (x % 2 ^ (w * n)) n = digI w x n :=
  List.map_congr_left fun i hi => dg_mod w x n i (List.mem_range.1 hi)

theorem numI_digI (w : Nat) : ∀ (n x : Nat), numI w (digI w x n) = x % 2 ^ (w * n)
  | 0, x => by simp [digI, numI, Nat.mod_one]
  | n + 1, x => by
    have h := digI_succ w (x % 2 ^ w) (x / 2 ^ w) n (Nat.mod_lt _ (Nat.two_pow_pos w))
    rw [Nat.mod_add_div] at h
    rw [h]
    simp only [numI]
    rw [numI_digI w n, show w * (n + 1) = w + w * n by rw [Nat.mul_add, Nat.mul_one, Nat.add_comm], Nat.pow_add, Nat.mod_mul]
    congr 1

theorem digI_inj {w n x y : Nat} (h : digI w x n = digI w y n) : x % 2 ^ (w * n) = y % 2 ^ (w * n) := by
  rw [← numI_digI, h, numI_digI]

/-- bytes, as a number -/
def decK (p : PV) : Option (Nat × List Prop) :=
  match p with
  | .agg [.dig .u8 8 x 32] => some (x, [])
  | p => match p.ints? .u8 with
    | some l => cond (Nat.beq l.length 32) (some (numI 8 l, [∀ a ∈ l, 0 ≤ a ∧ a < 256])) none
    | none => none

def dK : Dec Nat where
  dec := decK
  can := keyP
  law := by
    intro p x pre ρ v h hp e
    unfold decK at h
    split at h
    · cases h
      have := PV.val?_den (ρ := ρ) (keyP_val x)
      unfold keyP at this
      rw [this] at e
      cases e
      exact keyP_val _
    · cases h1 : p.ints? .u8 with
      | none => simp [h1] at h
      | some l =>
        simp only [h1] at h
        by_cases hl : Nat.beq l.length 32 = true
        · rw [hl] at h
          cases h
          have := PV.ints?_spec h1 e
          subst this
          rw [keyP_val]
          unfold keyV
          have hn : l.length = 32 := Nat.eq_of_beq_eq_true hl
          have := digI_numI (w := 8) (l := l) hp.1
          rw [hn] at this
          rw [this]
        · rw [Bool.eq_false_iff.2 hl] at h
          cases h

/-- are lists the same? -/
def eqL : List Int → List Int → Bool
  | a :: l, b :: m => (a == b) && eqL l m
  | _, _ => true
theorem eqL_spec : ∀ {l m : List Int}, l.length = m.length → eqL l m = decide (l = m)
  | [], [], _ => rfl
  | a :: l, b :: m, h => by
    have ih := eqL_spec (l := l) (m := m) (by simpa using h)
    simp only [eqL, ih, List.cons.injEq]
    rw [Bool.eq_iff_iff]
    simp

theorem digI_length (w x n : Nat) : (digI w x n).length = n := by simp [digI]
theorem eqL_dig (w n x y : Nat) : eqL (digI w x n) (digI w y n) = decide (x % 2 ^ (w * n) = y % 2 ^ (w * n)) := by
  rw [eqL_spec (by simp [digI_length]), Bool.eq_iff_iff]
  simp only [decide_eq_true_eq]
  constructor
  · exact digI_inj
  · intro h
    rw [← digI_mod, h, digI_mod]

theorem eqL_fe (x y : Fin Ec.P) : (eqL (digI 64 x.val 4) (digI 64 y.val 4) && true) = decide (x = y) := by
  have hx : x.val < 2 ^ (64 * 4) := Nat.lt_trans x.isLt (by decide)
  have hy : y.val < 2 ^ (64 * 4) := Nat.lt_trans y.isLt (by decide)
  rw [eqL_dig, Bool.and_true, Nat.mod_eq_of_lt hx, Nat.mod_eq_of_lt hy, Bool.eq_iff_iff]
  simp only [decide_eq_true_eq]
  exact ⟨Fin.ext, fun h => h ▸ rfl⟩

end Eng
namespace Fw
open Eng Go

theorem pow_cast (k : Nat) : ((2 ^ k : Nat) : Int) = (2 : Int) ^ k := by
  rw [Int.natCast_pow]; rfl

def orI (a b : Int) : Int := wr ((BitVec.ofInt 64 a ||| BitVec.ofInt 64 b).toNat)
def xorI (a b : Int) : Int := wr ((BitVec.ofInt 64 a ^^^ BitVec.ofInt 64 b).toNat)
def shlI (a n : Int) : Int := wr (a * 2 ^ (min n.toNat 64))

theorem or_disj {a : Int} {b k : Nat} (ha : W a) (hk : a < ((2 ^ k : Nat) : Int)) (hb : b * 2 ^ k < 2 ^ 64) : orI a ((b * 2 ^ k : Nat) : Int) = a + ((b * 2 ^ k : Nat) : Int) := by
  unfold orI
  have wb : W ((b * 2 ^ k : Nat) : Int) := ⟨Int.natCast_nonneg _, by omega⟩
  rw [BitVec.toNat_or, ofInt_toNat ha, ofInt_toNat wb, Int.toNat_natCast, Nat.or_comm, Nat.mul_comm b, ← Nat.two_pow_add_eq_or_of_lt (by unfold W at ha; omega)]
  have : ((2 ^ k * b + a.toNat : Nat) : Int) = a + ((2 ^ k * b : Nat) : Int) := by unfold W at ha; omega
  rw [this]
  apply wr_id
  have h64 : 2 ^ k * b + a.toNat < 2 ^ 64 := by
    have h1 : a.toNat < 2 ^ k := by unfold W at ha; omega
    have h2 : 2 ^ k * b ||| a.toNat = 2 ^ k * b + a.toNat := (Nat.two_pow_add_eq_or_of_lt h1 b).symm
    rw [← h2]
    exact Nat.or_lt_two_pow (by rw [Nat.mul_comm]; exact hb) (by unfold W at ha; omega)
  unfold W at *
  omega

/-- eight bytes in a word -/
def byteW (n j : Nat) : Int :=
  (List.range 8).foldl (fun a r => orI a (shlI (wr (dg 8 n (8 * j + r))) ((8 * r : Nat) : Int))) 0

theorem dg_shift (n j r : Nat) : dg 8 n (8 * j + r) = dg 8 (n / 2 ^ (64 * j)) r := by
  unfold dg
  rw [Nat.div_div_eq_div_mul, ← Nat.pow_add]
  congr 4
  omega

theorem byte_step {n r : Nat} (hr : r < 8) : orI (((n % 2 ^ (8 * r) : Nat)) : Int) (shlI (wr (dg 8 n r)) ((8 * r : Nat) : Int)) = ((n % 2 ^ (8 * (r + 1)) : Nat) : Int) := by
  have h0 : ((n % 2 ^ (8 * r) : Nat) : Int) < ((2 ^ (8 * r) : Nat) : Int) := Int.ofNat_lt.2 (Nat.mod_lt _ (Nat.two_pow_pos _))
  have hp : 2 ^ (8 * r) ≤ 2 ^ 56 := Nat.pow_le_pow_right (by decide) (by omega)
  have hd : n / 2 ^ (8 * r) % 2 ^ 8 < 256 := Nat.mod_lt _ (by decide)
  have hm : n / 2 ^ (8 * r) % 2 ^ 8 * 2 ^ (8 * r) < 2 ^ 64 := Nat.lt_of_le_of_lt (Nat.mul_le_mul (show _ ≤ 255 by omega) hp) (by decide)
  have e1 : shlI (wr (dg 8 n r)) ((8 * r : Nat) : Int) = ((n / 2 ^ (8 * r) % 2 ^ 8 * 2 ^ (8 * r) : Nat) : Int) := by
    unfold shlI dg
    rw [wr_id ⟨Int.natCast_nonneg _, by omega⟩, Int.toNat_natCast, Nat.min_eq_left (by omega)]
    have : ((n / 2 ^ (8 * r) % 2 ^ 8 : Nat) : Int) * 2 ^ (8 * r) = ((n / 2 ^ (8 * r) % 2 ^ 8 * 2 ^ (8 * r) : Nat) : Int) := by rw [Int.natCast_mul, pow_cast (8 * r)]
    rw [this]
    exact wr_id ⟨Int.natCast_nonneg _, by omega⟩
  rw [e1, or_disj ⟨Int.natCast_nonneg _, by omega⟩ h0 hm]
  have := Nat.mod_mul (a := 2 ^ (8 * r)) (b := 2 ^ 8) (x := n)
  rw [← Nat.pow_add, show 8 * r + 8 = 8 * (r + 1) by omega] at this
  rw [this, Nat.mul_comm (2 ^ (8 * r)), Int.natCast_add]

theorem byteW_spec (n j : Nat) : byteW n j = dg 64 n j := by
  unfold byteW
  have key : ∀ r, r ≤ 8 → (List.range r).foldl (fun a r => orI a (shlI (wr (dg 8 n (8 * j + r))) ((8 * r : Nat) : Int))) 0 = (((n / 2 ^ (64 * j)) % 2 ^ (8 * r) : Nat) : Int) := by
    intro r
    induction r with
    | zero => intro _; simp [Nat.mod_one]
    | succ r ih =>
      intro h
      rw [List.range_succ, List.foldl_append, ih (by omega), List.foldl_cons, List.foldl_nil, dg_shift]
      exact byte_step (by omega)
  rw [key 8 (Nat.le_refl 8)]
  rfl

/-- a word's bytes -/
def cutB (x i : Nat) : Int := IntKind.wrap .u8 (shrI (dg 64 x (i / 8)) ((8 * (i % 8) : Nat) : Int))
theorem cutB_spec (x i : Nat) : cutB x i = dg 8 x i := by
  unfold cutB shrI
  have hr : i % 8 < 8 := Nat.mod_lt _ (by decide)
  rw [Int.toNat_natCast, Nat.min_eq_left (by omega)]
  have e : (dg 64 x (i / 8)).fdiv (2 ^ (8 * (i % 8))) = ((x / 2 ^ (64 * (i / 8)) % 2 ^ 64 / 2 ^ (8 * (i % 8)) : Nat) : Int) := by
    unfold dg
    rw [Int.fdiv_eq_ediv_of_nonneg _ (by exact Int.pow_nonneg (by decide)), ← pow_cast, Int.natCast_ediv]
  rw [e]
  have w8 : ∀ m : Nat, IntKind.wrap .u8 (m : Int) = ((m % 256 : Nat) : Int) := by
    intro m
    show (m : Int).emod _ = _
    rfl
  rw [w8]
  unfold dg
  congr 1
  have h64 : 2 ^ 64 = 2 ^ (8 * (i % 8)) * 2 ^ (64 - 8 * (i % 8)) := by rw [← Nat.pow_add]; congr 1; omega
  rw [h64, Nat.mod_mul_right_div_self, show (256 : Nat) = 2 ^ 8 from rfl, Nat.mod_mod_of_dvd _ (Nat.pow_dvd_pow 2 (by omega)), Nat.div_div_eq_div_mul, ← Nat.pow_add]
  congr 3
  omega

theorem of_val (n : Nat) : val4 (byteW n 0) (byteW n 1) (byteW n 2) (andI (byteW n 3) 9223372036854775807) = ((n % 57896044618658097711785492504343953926634992332820282019728792003956564819968 : Nat) : Int) := by
  have h3 : W (byteW n 3) := by rw [byteW_spec]; exact dg_W _ _
  rw [and63 h3]
  simp only [byteW_spec]
  unfold dg val4
  omega

theorem xor_zero {a b : Int} (ha : W a) (_hb : W b) : xorI a (andI 0 (xorI a b)) = a := by
  have : andI 0 (xorI a b) = 0 := by
    unfold andI
    simp
    rfl
  rw [this]
  unfold xorI
  simp only [BitVec.toNat_xor, ofInt_toNat ha]
  have : (BitVec.ofInt 64 0).toNat = 0 := rfl
  rw [this, Nat.xor_zero]
  have : ((a.toNat : Nat) : Int) = a := Int.toNat_of_nonneg ha.1
  rw [this]
  exact wr_id ha
theorem xor_ones {a b : Int} (ha : W a) (hb : W b) : xorI a (andI 18446744073709551615 (xorI a b)) = b := by
  have hx : xorI a b = ((a.toNat ^^^ b.toNat : Nat) : Int) := by
    unfold xorI
    rw [BitVec.toNat_xor, ofInt_toNat ha, ofInt_toNat hb]
    have := Nat.xor_lt_two_pow (x := a.toNat) (y := b.toNat) (n := 64) (by unfold W at ha; omega) (by unfold W at hb; omega)
    exact wr_id ⟨Int.natCast_nonneg _, by omega⟩
  have hlt := Nat.xor_lt_two_pow (x := a.toNat) (y := b.toNat) (n := 64) (by unfold W at ha; omega) (by unfold W at hb; omega)
  have wx : W (xorI a b) := by rw [hx]; exact ⟨Int.natCast_nonneg _, by omega⟩
  have h1 : andI 18446744073709551615 (xorI a b) = xorI a b := by
    have := and_low (a := xorI a b) wx 64 (by decide)
    have hc : andI 18446744073709551615 (xorI a b) = andI (xorI a b) 18446744073709551615 := by unfold andI; rw [BitVec.and_comm]
    rw [hc]
    refine Eq.trans this ?_
    unfold W at wx
    omega
  rw [h1]
  have : xorI a (xorI a b) = ((a.toNat ^^^ (a.toNat ^^^ b.toNat) : Nat) : Int) := by
    rw [hx]
    unfold xorI
    rw [BitVec.toNat_xor, ofInt_toNat ha, ofInt_toNat ⟨Int.natCast_nonneg _, by omega⟩, Int.toNat_natCast]
    have := Nat.xor_lt_two_pow (x := a.toNat) (y := a.toNat ^^^ b.toNat) (n := 64) (by unfold W at ha; omega) hlt
    exact wr_id ⟨Int.natCast_nonneg _, by omega⟩
  rw [this, ← Nat.xor_assoc, Nat.xor_self, Nat.zero_xor]
  exact Int.toNat_of_nonneg hb.1

theorem odd_dg (x : Nat) : (andI (dg 64 x 0) 1 == 1) = (x % 2 == 1) := by
  have := and_low (a := dg 64 x 0) (dg_W _ _) 1 (by decide)
  have h : andI (dg 64 x 0) 1 = dg 64 x 0 % 2 := this
  rw [h]
  unfold dg
  rw [Bool.eq_iff_iff]
  simp only [beq_iff_eq]
  omega

end Fw

/- What is known of the field's functions: bytes, comparisons, choices. -/
namespace Go.Proofs.Ytahkpabndfaoiaa
open Eng Go Go.RowKit Go.Proofs

def specOf : FnSpec := spec1 dK fun n => (.pv (feP (toF (n % 57896044618658097711785492504343953926634992332820282019728792003956564819968))), [])
theorem of_x (n : Nat) : callX Try.prog (lookT R5) 3000 Try.f32 [keyP n] =
    let l := [Fw.byteW n 0, Fw.byteW n 1, Fw.byteW n 2, Fw.andI (Fw.byteW n 3) 9223372036854775807]
    some (.pv (feP (toF (num4 l).toNat)), [W4L l ∧ num4 l < 2 * Ec.P]) := by kernel_rfl
theorem of_ok : SpecOK Try.prog 32 specOf :=
  spec1_ok Try.func32 (by decide +kernel) (by kernel_rfl) R5_ok mixed (by kernel_rfl) fun n _ => by
    have hx := of_x n
    have hb : ∀ j, Fw.W (Fw.byteW n j) := fun j => by rw [Fw.byteW_spec]; exact Fw.dg_W _ _
    have hv := Fw.of_val n
    have h3 := hb 3
    have ha : Fw.W (Fw.andI (Fw.byteW n 3) 9223372036854775807) := by rw [Fw.and63 h3]; unfold Fw.W at *; omega
    have hP : (Ec.P : Int) = 57896044618658097711785492504343953926634992332820282019728792003956564819949 := Fw.P_lit
    have hn : num4 [Fw.byteW n 0, Fw.byteW n 1, Fw.byteW n 2, Fw.andI (Fw.byteW n 3) 9223372036854775807] = ((n % 57896044618658097711785492504343953926634992332820282019728792003956564819968 : Nat) : Int) := hv
    refine ⟨_, _, _, hx, ⟨⟨⟨_, _, _, _, rfl, hb 0, hb 1, hb 2, ha⟩, ?_⟩, trivial⟩, feP_val _, ?_⟩
    · rw [hn, hP]
      omega
    · rw [hn, Int.toNat_natCast]
      exact feP_val _

def specBytes : FnSpec := spec1 dE fun x => (.pv (keyP x.val), [])
theorem bytes_x (x : Fin Ec.P) : callX Try.prog (lookT R5) 3000 Try.f39 [feP x] = some (.pv (.agg (intsC .u8 ((List.range 32).map (Fw.cutB x.val)))), []) := by kernel_rfl
theorem bytes_ok : SpecOK Try.prog 39 specBytes :=
  spec1_ok Try.func39 (by decide +kernel) (by kernel_rfl) R5_ok mixed (by kernel_rfl) fun x _ => by
    refine ⟨_, _, _, bytes_x x, trivial, intsS_val _ _, ?_⟩
    have : (List.range 32).map (Fw.cutB x.val) = digI 8 x.val 32 := List.map_congr_left fun i _ => Fw.cutB_spec x.val i
    rw [this]
    exact keyP_val _

def specEq : FnSpec := spec2 dE dE fun x y => (.pv (bo (decide (x = y))), [])
theorem eq_x (x y : Fin Ec.P) : callX Try.prog (lookT R5) 300 Try.f45 [feP x, feP y] = some (.pv (bo (eqL (digI 64 x.val 4) (digI 64 y.val 4))), []) := by kernel_rfl
theorem eq_ok : SpecOK Try.prog 45 specEq :=
  spec2_ok Try.func45 (by decide +kernel) (by kernel_rfl) R5_ok mixed (by kernel_rfl) fun x y _ => by
    refine ⟨_, _, _, eq_x x y, trivial, rfl, ?_⟩
    rw [← eqL_fe, Bool.and_true]
    rfl

def specOdd : FnSpec := spec1 dE fun x => (.pv (bo (x.val % 2 == 1)), [])
theorem odd_x (x : Fin Ec.P) : callX Try.prog (lookT R5) 300 Try.f52 [feP x] = some (.pv (bo (Fw.andI (dg 64 x.val 0) 1 == 1)), []) := by kernel_rfl
theorem odd_ok : SpecOK Try.prog 52 specOdd :=
  spec1_ok Try.func52 (by decide +kernel) (by kernel_rfl) R5_ok mixed (by kernel_rfl) fun x _ => by
    refine ⟨_, _, _, odd_x x, trivial, rfl, ?_⟩
    rw [Fw.odd_dg]
    rfl

def specSel : FnSpec := spec3 dE dE dB fun x y s => (.pv (feP (cond s y x)), [])
def selW (x y : Fin Ec.P) (m : Int) : List Int := (List.range 4).map fun i => Fw.xorI (wd x i) (Fw.andI m (Fw.xorI (wd x i) (wd y i)))
theorem sel_x1 (x y : Fin Ec.P) : callX Try.prog (lookT R5) 1000 Try.f58 [feP x, feP y, bo true] = some (.pv (.agg (intsC .u64 (selW x y 18446744073709551615))), []) := by kernel_rfl
theorem sel_x0 (x y : Fin Ec.P) : callX Try.prog (lookT R5) 1000 Try.f58 [feP x, feP y, bo false] = some (.pv (.agg (intsC .u64 (selW x y 0))), []) := by kernel_rfl
theorem sel_ok : SpecOK Try.prog 58 specSel :=
  spec3_ok Try.func58 (by decide +kernel) (by kernel_rfl) R5_ok mixed (by kernel_rfl) fun x y s _ => by
    cases s with
    | true =>
      refine ⟨_, _, _, sel_x1 x y, trivial, intsS_val _ _, ?_⟩
      have : selW x y 18446744073709551615 = digI 64 y.val 4 := List.map_congr_left fun i _ => Fw.xor_ones (wd_W x i) (wd_W y i)
      rw [this]
      exact feP_val _
    | false =>
      refine ⟨_, _, _, sel_x0 x y, trivial, intsS_val _ _, ?_⟩
      have : selW x y 0 = digI 64 x.val 4 := List.map_congr_left fun i _ => Fw.xor_zero (wd_W x i) (wd_W y i)
      rw [this]
      exact feP_val _

/-- the field's operations, with nothing known of them -/
structure FOps where
  add : Fin Ec.P → Fin Ec.P → Fin Ec.P
  mul : Fin Ec.P → Fin Ec.P → Fin Ec.P
  neg : Fin Ec.P → Fin Ec.P
  of : Nat → Fin Ec.P
  num : Fin Ec.P → Nat
  small : Int → Fin Ec.P
  eq : Fin Ec.P → Fin Ec.P → Bool
  odd : Fin Ec.P → Bool
  sel : Fin Ec.P → Fin Ec.P → Bool → Fin Ec.P
  pow : Fin Ec.P → Nat → Fin Ec.P
  inv : Fin Ec.P → Fin Ec.P

def fops : FOps where
  add x y := x + y
  mul x y := x * y
  neg x := -x
  of n := toF (n % 57896044618658097711785492504343953926634992332820282019728792003956564819968)
  num x := x.val
  small n := toF n.toNat
  eq x y := decide (x = y)
  odd x := x.val % 2 == 1
  sel x y s := cond s y x
  pow x n := x ^ (n % 2 ^ 256)
  inv x := Ec.inv x

def T1 (o : FOps) : List (FuncId × FnSpec) := [
  (35, spec2 dE dE fun x y => (.pv (feP (o.add x y)), [])),
  (36, spec2 dE dE fun x y => (.pv (feP (o.mul x y)), [])),
  (80, spec1 dE fun x => (.pv (feP (o.mul x x)), [])),
  (37, spec2 dE dE fun x y => (.pv (feP (o.add x (o.neg y))), [])),
  (59, spec1 dE fun x => (.pv (feP (o.neg x)), [])),
  (32, spec1 dK fun n => (.pv (feP (o.of n)), [])),
  (39, spec1 dE fun x => (.pv (keyP (o.num x)), [])),
  (34, spec1 (dI .u64) fun n => (.pv (feP (o.small n)), [Fw.W n])),
  (45, spec2 dE dE fun x y => (.pv (bo (o.eq x y)), [])),
  (52, spec1 dE fun x => (.pv (bo (o.odd x)), [])),
  (58, spec3 dE dE dB fun x y s => (.pv (feP (o.sel x y s)), [])),
  (82, specPrime)]
theorem T1_ok : TableOK Try.prog (lookT (T1 fops)) :=
  tableOK_cons addE_ok (tableOK_cons mulE_ok (tableOK_cons sq_ok (tableOK_cons subE_ok (tableOK_cons negE_ok (tableOK_cons of_ok (tableOK_cons bytes_ok (tableOK_cons small_ok (tableOK_cons eq_ok (tableOK_cons odd_ok (tableOK_cons sel_ok (tableOK_cons prime_ok (tableOK_nil _))))))))))))

end Go.Proofs.Ytahkpabndfaoiaa

/- What is known of the field's functions: powers. -/
namespace Eng
open Go

def bit8 (e j s : Nat) : Bool := IntKind.wrap .u8 ((BitVec.ofInt 8 ((dg 8 e j).fdiv (2 ^ (min ((s : Nat) : Int).toNat 8))) &&& BitVec.ofInt 8 1).toNat) == 1

theorem bit8_spec (e j s : Nat) (h : s < 8) : bit8 e j s = (e / 2 ^ (8 * j + s) % 2 == 1) := by
  unfold bit8
  rw [Int.toNat_natCast, Nat.min_eq_left (by omega)]
  have e1 : (dg 8 e j).fdiv (2 ^ s) = ((e / 2 ^ (8 * j) % 2 ^ 8 / 2 ^ s : Nat) : Int) := by
    unfold dg
    rw [Int.fdiv_eq_ediv_of_nonneg _ (by exact Int.pow_nonneg (by decide)), ← Fw.pow_cast, Int.natCast_ediv]
  rw [e1]
  have h8 : 2 ^ 8 = 2 ^ s * 2 ^ (8 - s) := by rw [← Nat.pow_add]; congr 1; omega
  have e2 : e / 2 ^ (8 * j) % 2 ^ 8 / 2 ^ s % 2 = e / 2 ^ (8 * j + s) % 2 := by
    rw [h8, Nat.mod_mul_right_div_self, Nat.mod_mod_of_dvd _ ⟨2 ^ (7 - s), by rw [← Nat.pow_succ']; congr 1; omega⟩, Nat.div_div_eq_div_mul, ← Nat.pow_add]
  generalize hy : e / 2 ^ (8 * j) % 2 ^ 8 / 2 ^ s = y at *
  have hy8 : y < 256 := by
    rw [← hy]
    exact Nat.lt_of_le_of_lt (Nat.div_le_self _ _) (Nat.mod_lt _ (by decide))
  have e3 : (BitVec.ofInt 8 (y : Int) &&& BitVec.ofInt 8 1).toNat = y % 2 := by
    rw [BitVec.toNat_and]
    have : (BitVec.ofInt 8 (y : Int)).toNat = y := by
      rw [BitVec.ofInt_natCast, BitVec.toNat_ofNat, Nat.mod_eq_of_lt hy8]
    rw [this]
    exact Nat.and_one_is_mod y
  rw [e3, e2]
  have : e / 2 ^ (8 * j + s) % 2 = 0 ∨ e / 2 ^ (8 * j + s) % 2 = 1 := by omega
  rcases this with h | h <;> rw [h] <;> decide

/-- the bit that a round reads, the highest first -/
def bitAt (e i : Nat) : Bool := bit8 e (31 - i / 8) (7 - i % 8)
theorem bitAt_spec (e i : Nat) (h : i < 256) : bitAt e i = (e / 2 ^ (255 - i) % 2 == 1) := by
  unfold bitAt
  rw [bit8_spec _ _ _ (by omega)]
  have : 8 * (31 - i / 8) + (7 - i % 8) = 255 - i := by omega
  rw [this]

/-- what was read of a number so far -/
def top (e i : Nat) : Nat := e % 2 ^ 256 / 2 ^ (256 - i)
theorem top_zero (e : Nat) : top e 0 = 0 := Nat.div_eq_of_lt (Nat.mod_lt _ (by decide))
theorem top_all (e : Nat) : top e 256 = e % 2 ^ 256 := Nat.div_one _
theorem top_succ (e i : Nat) (h : i < 256) : top e (i + 1) = 2 * top e i + (bitAt e i).toNat := by
  rw [bitAt_spec e i h]
  unfold top
  have e1 : 2 ^ (256 - i) = 2 ^ (256 - (i + 1)) * 2 := by rw [← Nat.pow_succ]; congr 1; omega
  have e2 : e / 2 ^ (255 - i) % 2 = e % 2 ^ 256 / 2 ^ (256 - (i + 1)) % 2 := by
    have h2 : 2 ^ 256 = 2 ^ (255 - i) * 2 ^ (i + 1) := by rw [← Nat.pow_add]; congr 1; omega
    have h3 : 256 - (i + 1) = 255 - i := by omega
    rw [h3, h2, Nat.mod_mul_right_div_self, Nat.mod_mod_of_dvd _ ⟨2 ^ i, by rw [← Nat.pow_succ']⟩]
  rw [e2, e1, ← Nat.div_div_eq_div_mul]
  generalize e % 2 ^ 256 / 2 ^ (256 - (i + 1)) = y
  have : y % 2 = 0 ∨ y % 2 = 1 := by omega
  rcases this with h | h <;> rw [h] <;> simp <;> omega

theorem pow_plus {n : Nat} [NeZero n] (x : Fin n) (a b : Nat) : x ^ a * x ^ b = x ^ (a + b) := by
  refine Fin.ext ?_
  rw [Fin.val_mul, Ec.val_pow, Ec.val_pow, Ec.val_pow, ← Nat.mul_mod, ← Nat.pow_add]
theorem pow_one {n : Nat} [NeZero n] (x : Fin n) : x ^ 1 = x := by
  refine Fin.ext ?_
  rw [Ec.val_pow, Nat.pow_one, Nat.mod_eq_of_lt x.isLt]
theorem pow_nil {n : Nat} [NeZero n] (x : Fin n) : x ^ 0 = 1 := by grind
theorem pow_dbl {n : Nat} [NeZero n] (x : Fin n) (k : Nat) : x ^ k * x ^ k = x ^ (2 * k + false.toNat) := by
  rw [pow_plus]
  congr 1
  simp; omega
theorem pow_dbl1 {n : Nat} [NeZero n] (x : Fin n) (k : Nat) : x ^ k * x ^ k * x = x ^ (2 * k + true.toNat) := by
  have h := pow_plus x (k + k) 1
  rw [pow_one] at h
  rw [pow_plus, h]
  congr 1
  simp; omega

end Eng
namespace Go.Proofs.Ytahkpabndfaoiaa
open Eng Go Go.RowKit Go.Proofs

def powKeep : List Nat := [2, 3, 4, 5, 8]
noncomputable def powS (o : FOps) (x : Fin Ec.P) (e i : Nat) (r : Fin Ec.P) : St :=
  setC (setS (first0 Try.prog (lookT (T1 o)) Try.f68 powKeep 300 [feP x, keyP e]) 8 (.pv (iv (i : Int)))) 5 [.fe r]
theorem pow_first (o : FOps) (x : Fin Ec.P) (e : Nat) : first Try.prog (lookT (T1 o)) Try.f68 powKeep 300 [feP x, keyP e] = some (atHead Try.f68 (powS o x e 0 (o.small 1)), [Fw.W 1]) := by kernel_rfl
theorem pow_rounds (o : FOps) (x r : Fin Ec.P) (e : Nat) : (List.range 256).map (fun i => round Try.prog (lookT (T1 o)) Try.f68 powKeep 300 (powS o x e i r)) =
    (List.range 256).map fun i => cond (bitAt e i) (some (again Try.f68 (powS o x e (i + 1) (o.mul (o.mul r r) x)), [])) (some (again Try.f68 (powS o x e (i + 1) (o.mul r r)), [])) := by kernel_rfl
theorem pow_last (o : FOps) (x r : Fin Ec.P) (e : Nat) : round Try.prog (lookT (T1 o)) Try.f68 powKeep 300 (powS o x e 256 r) = some (.out (.pv (feP r)), []) := by kernel_rfl

end Go.Proofs.Ytahkpabndfaoiaa

/- What is known of the field's functions: powers, inverses, roots. -/
namespace Go.Proofs.Ytahkpabndfaoiaa
open Eng Go Go.RowKit Go.Proofs

def specPow : FnSpec := spec2 dE dK fun x e => (.pv (feP (x ^ (e % 2 ^ 256))), [])
theorem one_toF : toF ((1 : Int).toNat) = 1 := rfl
theorem pow_ok : SpecOK Try.prog 68 specPow :=
  spec2_calls Try.func68 (by decide +kernel) (by kernel_rfl) fun x e _ va vb ha hb => by
    refine ⟨_, feP_val _, fun w => ?_⟩
    refine loopCalls (m := 300) (fn := Try.f68) (T1_ok) mixed Try.func68 (by kernel_rfl) 256 (powS fops x e) (fun i r => r = x ^ top e i) (by simp only [pvVals]; rw [show (feP x).val? = some va from ha, show (keyP e).val? = some vb from hb]) (by kernel_rfl) ⟨_, _, pow_first fops x e, ⟨Fw.W_lit (by decide) (by decide), trivial⟩, ?_⟩ ?_ ?_ w
    · rw [top_zero, pow_nil]; exact one_toF
    · intro i r hi hr
      have h := map_range_eq (pow_rounds fops x r e) hi
      rw [h]
      rw [top_succ e i hi]
      subst hr
      cases bitAt e i with
      | true => exact ⟨_, _, rfl, trivial, pow_dbl1 _ _⟩
      | false => exact ⟨_, _, rfl, trivial, pow_dbl _ _⟩
    · intro r hr
      subst hr
      refine ⟨_, _, pow_last fops x _ e, trivial, ?_⟩
      rw [top_all]
      exact feP_val _

/-- (p + a) / 2^s -/
def expN (a s : Int) : Nat := (57896044618658097711785492504343953926634992332820282019728792003956564819949 + a).toNat / 2 ^ s.toNat
def expOk (a s : Int) : Prop := (a = -2 ∧ s = 0) ∨ (a = 3 ∧ s = 3) ∨ (a = -1 ∧ s = 2)
def specExp : FnSpec := spec2 (dI .i64) (dI .i64) fun a s => (.pv (keyP (expN a s)), [expOk a s])
theorem exp_x1 : callX Try.prog (lookT (T1 fops)) 3000 Try.f69 [iv (-2), iv 0] = some (.pv (keyP (toF 57896044618658097711785492504343953926634992332820282019728792003956564819947).val), [W4 18446744073709551595 18446744073709551615 18446744073709551615 9223372036854775807 ∧ Fw.val4 18446744073709551595 18446744073709551615 18446744073709551615 9223372036854775807 < Ec.P]) := by kernel_rfl
theorem exp_v1 : (toF 57896044618658097711785492504343953926634992332820282019728792003956564819947).val = expN (-2) 0 := by decide +kernel
theorem exp_o1 : W4 18446744073709551595 18446744073709551615 18446744073709551615 9223372036854775807 ∧ Fw.val4 18446744073709551595 18446744073709551615 18446744073709551615 9223372036854775807 < Ec.P := by unfold W4 Fw.W; rw [Fw.P_lit]; unfold Fw.val4; omega
theorem exp_x2 : callX Try.prog (lookT (T1 fops)) 3000 Try.f69 [iv 3, iv 3] = some (.pv (keyP (toF 7237005577332262213973186563042994240829374041602535252466099000494570602494).val), [W4 18446744073709551614 18446744073709551615 18446744073709551615 1152921504606846975 ∧ Fw.val4 18446744073709551614 18446744073709551615 18446744073709551615 1152921504606846975 < Ec.P]) := by kernel_rfl
theorem exp_v2 : (toF 7237005577332262213973186563042994240829374041602535252466099000494570602494).val = expN 3 3 := by decide +kernel
theorem exp_o2 : W4 18446744073709551614 18446744073709551615 18446744073709551615 1152921504606846975 ∧ Fw.val4 18446744073709551614 18446744073709551615 18446744073709551615 1152921504606846975 < Ec.P := by unfold W4 Fw.W; rw [Fw.P_lit]; unfold Fw.val4; omega
theorem exp_x3 : callX Try.prog (lookT (T1 fops)) 3000 Try.f69 [iv (-1), iv 2] = some (.pv (keyP (toF 14474011154664524427946373126085988481658748083205070504932198000989141204987).val), [W4 18446744073709551611 18446744073709551615 18446744073709551615 2305843009213693951 ∧ Fw.val4 18446744073709551611 18446744073709551615 18446744073709551615 2305843009213693951 < Ec.P]) := by kernel_rfl
theorem exp_v3 : (toF 14474011154664524427946373126085988481658748083205070504932198000989141204987).val = expN (-1) 2 := by decide +kernel
theorem exp_o3 : W4 18446744073709551611 18446744073709551615 18446744073709551615 2305843009213693951 ∧ Fw.val4 18446744073709551611 18446744073709551615 18446744073709551615 2305843009213693951 < Ec.P := by unfold W4 Fw.W; rw [Fw.P_lit]; unfold Fw.val4; omega
theorem exp_ok : SpecOK Try.prog 69 specExp :=
  spec2_ok Try.func69 (by decide +kernel) (by kernel_rfl) T1_ok mixed (by kernel_rfl) fun a s h => by
    rcases h.1 with ⟨rfl, rfl⟩ | ⟨rfl, rfl⟩ | ⟨rfl, rfl⟩
    · exact ⟨_, _, _, exp_x1, ⟨exp_o1, trivial⟩, keyP_val _, by rw [exp_v1]; exact keyP_val _⟩
    · exact ⟨_, _, _, exp_x2, ⟨exp_o2, trivial⟩, keyP_val _, by rw [exp_v2]; exact keyP_val _⟩
    · exact ⟨_, _, _, exp_x3, ⟨exp_o3, trivial⟩, keyP_val _, by rw [exp_v3]; exact keyP_val _⟩

def T2 (o : FOps) : List (FuncId × FnSpec) :=
  (68, spec2 dE dK fun x e => (.pv (feP (o.pow x e)), [])) ::
  (69, specExp) :: T1 o
theorem T2_ok : TableOK Try.prog (lookT (T2 fops)) := tableOK_cons pow_ok (tableOK_cons exp_ok T1_ok)

theorem inv_x (o : FOps) (x : Fin Ec.P) : callX Try.prog (lookT (T2 o)) 100 Try.f38 [feP x] = some (.pv (feP (o.pow x (expN (-2) 0))), [expOk (-2) 0]) := by kernel_rfl
theorem expN_lt1 : expN (-2) 0 % 2 ^ 256 = Ec.P - 2 := by decide +kernel
def specInv : FnSpec := spec1 dE fun x => (.pv (feP (Ec.inv x)), [])
theorem inv_ok : SpecOK Try.prog 38 specInv :=
  spec1_ok Try.func38 (by decide +kernel) (by kernel_rfl) T2_ok mixed (by kernel_rfl) fun x _ => by
    refine ⟨_, _, _, inv_x fops x, ⟨.inl ⟨rfl, rfl⟩, trivial⟩, feP_val _, ?_⟩
    have : fops.pow x (expN (-2) 0) = Ec.inv x := congrArg (fun n => x ^ n) expN_lt1
    rw [this]
    exact feP_val _

def T3 (o : FOps) : List (FuncId × FnSpec) :=
  (38, spec1 dE fun x => (.pv (feP (o.inv x)), [])) :: T2 o
theorem T3_ok : TableOK Try.prog (lookT (T3 fops)) := tableOK_cons inv_ok T2_ok

def FOps.rootQ (o : FOps) (u v : Fin Ec.P) : Fin Ec.P := o.pow (o.mul u (o.inv v)) (expN 3 3)
def FOps.rootX (o : FOps) (u v : Fin Ec.P) : Fin Ec.P := o.mul (o.rootQ u v) (o.pow (o.small 2) (expN (-1) 2))
def FOps.isR (o : FOps) (u v x : Fin Ec.P) : Bool := o.eq (o.mul v (o.mul x x)) u
def FOps.even (o : FOps) (x : Fin Ec.P) : Fin Ec.P := o.sel x (o.neg x) (o.odd x)
theorem root_x (o : FOps) (u v : Fin Ec.P) : callX Try.prog (lookT (T3 o)) 300 Try.f81 [feP u, feP v] =
    cond (!o.isR u v (o.rootQ u v))
      (cond (!o.isR u v (o.rootX u v)) (some (.tup [.agg (intsC .u64 [0, 0, 0, 0]), bo false], [Fw.W 2, expOk (-1) 2, expOk 3 3])) (some (.tup [feP (o.even (o.rootX u v)), bo true], [Fw.W 2, expOk (-1) 2, expOk 3 3])))
      (cond (!o.isR u v (o.rootQ u v)) (some (.tup [.agg (intsC .u64 [0, 0, 0, 0]), bo false], [expOk 3 3])) (some (.tup [feP (o.even (o.rootQ u v)), bo true], [expOk 3 3]))) := by kernel_rfl
/-- the even root, and is there one? -/
def FOps.root (o : FOps) (u v : Fin Ec.P) : Fin Ec.P × Bool :=
  cond (o.isR u v (o.rootQ u v)) (o.even (o.rootQ u v), true) (cond (o.isR u v (o.rootX u v)) (o.even (o.rootX u v), true) (toF 0, false))
def specRoot : FnSpec := spec2 dE dE fun u v => (.tup [feP (fops.root u v).1, bo (fops.root u v).2], [])
theorem zero_dig : digI 64 (toF 0).val 4 = [0, 0, 0, 0] := by decide +kernel
theorem zero_val : (PV.agg (intsC .u64 [0, 0, 0, 0])).val? = some (feV (toF 0)) := by
  unfold feV
  rw [zero_dig]
  exact intsP_val _ _
theorem root_ok : SpecOK Try.prog 81 specRoot :=
  spec2_ok Try.func81 (by decide +kernel) (by kernel_rfl) T3_ok mixed (by kernel_rfl) fun u v _ => by
    have hx := root_x fops u v
    have o1 : expOk 3 3 := .inr (.inl ⟨rfl, rfl⟩)
    have o2 : expOk (-1) 2 := .inr (.inr ⟨rfl, rfl⟩)
    have w2 : Fw.W 2 := Fw.W_lit (by decide) (by decide)
    unfold FOps.root
    generalize fops.isR u v (fops.rootQ u v) = c1 at hx
    generalize fops.isR u v (fops.rootX u v) = c2 at hx
    generalize fops.even (fops.rootQ u v) = r1 at hx
    generalize fops.even (fops.rootX u v) = r2 at hx
    cases c1 with
    | true => exact ⟨_, _, _, hx, ⟨o1, trivial⟩, rfl, rfl⟩
    | false =>
      cases c2 with
      | true => exact ⟨_, _, _, hx, ⟨w2, o2, o1, trivial⟩, rfl, rfl⟩
      | false =>
        refine ⟨_, _, .tuple #[feV (toF 0), .bool false], hx, ⟨w2, o2, o1, trivial⟩, ?_, rfl⟩
        simp only [SV.val?, pvVals, zero_val]
        rfl

end Go.Proofs.Ytahkpabndfaoiaa

/- What is known of the field's functions: which bytes are numbers. -/
namespace Go.Proofs.Ytahkpabndfaoiaa
open Eng Go Go.RowKit Go.Proofs

theorem canon_x (o : FOps) (n : Nat) : callX Try.prog (lookT (T3 o)) 300 Try.f55 [keyP n] = some (.pv (bo (eqL (digI 8 (o.num (o.of n)) 32) (digI 8 n 32))), []) := by kernel_rfl
def specCanon : FnSpec := spec1 dK fun n => (.pv (bo (decide (n % 2 ^ 256 < Ec.P))), [])
theorem canon_gen {n A M p : Nat} (hA : A ∣ M) (hp : 0 < p) (hpA : p ≤ A) (hAM : A ≤ M) : (n % A % p) % M = n % M ↔ n % M < p := by
  rw [← Nat.mod_mod_of_dvd n hA]
  generalize n % M = m
  have h1 : m % A % p < p := Nat.mod_lt _ hp
  rw [Nat.mod_eq_of_lt (Nat.lt_of_lt_of_le h1 (Nat.le_trans hpA hAM))]
  constructor
  · intro h; rw [← h]; exact h1
  · intro h; rw [Nat.mod_eq_of_lt (Nat.lt_of_lt_of_le h hpA), Nat.mod_eq_of_lt h]
theorem num_of (n : Nat) : fops.num (fops.of n) = n % 57896044618658097711785492504343953926634992332820282019728792003956564819968 % Ec.P := rfl
theorem canon_eq (n : Nat) : eqL (digI 8 (fops.num (fops.of n)) 32) (digI 8 n 32) = decide (n % 2 ^ 256 < Ec.P) := by
  rw [eqL_dig, Bool.eq_iff_iff, decide_eq_true_eq, decide_eq_true_eq, num_of]
  exact canon_gen (M := 2 ^ (8 * 32)) (by decide) (by decide) (by decide) (by decide)
theorem canon_ok : SpecOK Try.prog 55 specCanon :=
  spec1_ok Try.func55 (by decide +kernel) (by kernel_rfl) T3_ok mixed (by kernel_rfl) fun n _ => by
    have h := canon_x fops n
    rw [canon_eq] at h
    exact ⟨_, _, _, h, trivial, rfl, rfl⟩

theorem swap_x (o : FOps) (x y : Fin Ec.P) (s : Bool) : callX Try.prog (lookT (T3 o)) 300 Try.f86 [feP x, feP y, bo s] = some (.tup [feP (o.sel x y s), feP (o.sel y x s)], []) := by kernel_rfl
def specSwap : FnSpec := spec3 dE dE dB fun x y s => (.tup [feP (cond s y x), feP (cond s x y)], [])
theorem swap_ok : SpecOK Try.prog 86 specSwap :=
  spec3_ok Try.func86 (by decide +kernel) (by kernel_rfl) T3_ok mixed (by kernel_rfl) fun x y s _ => ⟨_, _, _, swap_x fops x y s, trivial, rfl, rfl⟩

/-- the field's functions, all of them -/
structure KOps extends FOps where
  canon : Nat → Bool
  root : Fin Ec.P → Fin Ec.P → Fin Ec.P × Bool
def kops : KOps where
  toFOps := fops
  canon n := decide (n % 2 ^ 256 < Ec.P)
  root := fops.root
def T4 (o : KOps) : List (FuncId × FnSpec) :=
  (55, spec1 dK fun n => (.pv (bo (o.canon n)), [])) ::
  (81, spec2 dE dE fun u v => (.tup [feP (o.root u v).1, bo (o.root u v).2], [])) ::
  (86, spec3 dE dE dB fun x y s => (.tup [feP (o.sel x y s), feP (o.sel y x s)], [])) :: T3 o.toFOps
theorem T4_ok : TableOK Try.prog (lookT (T4 kops)) := tableOK_cons canon_ok (tableOK_cons root_ok (tableOK_cons swap_ok T3_ok))

end Go.Proofs.Ytahkpabndfaoiaa
