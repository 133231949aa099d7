/-
What is known of the field's functions: less, fold, sums, differences, products.
-/
import Derived.Test.YtahkpabndfaoiaaF2
namespace Go.Proofs.Ytahkpabndfaoiaa
open Eng Go Go.RowKit Go.Proofs

/-- Mul64 -/
def specMul : FnSpec := spec2 (dI .u64) (dI .u64) fun x y => (.tup [u64 (Fw.mulH x y), u64 (Fw.mulL x y)], [Fw.W x, Fw.W y])

theorem mul_x (x y : Int) : callX Try.prog (lookT R1) 200 Try.f66 [u64 x, u64 y] = some (.tup [u64 (Fw.mulX x y), u64 (Fw.wr (x * y))], []) := by kernel_rfl

theorem mul_ok : SpecOK Try.prog 66 specMul :=
  spec2_ok Try.func66 (by decide +kernel) (by kernel_rfl) R1_ok mixed (by kernel_rfl) fun x y h => by
    obtain ⟨hx, hy, _⟩ := h
    refine ⟨_, _, _, mul_x x y, trivial, rfl, ?_⟩
    rw [Fw.mulX_eq hx hy, Fw.wr_mod]
    rfl

/-- less -/
def num4 (l : List Int) : Int := match l with
  | [a, b, c, d] => Fw.val4 a b c d
  | _ => 0
def W4L (l : List Int) : Prop := ∃ a b c d, l = [a, b, c, d] ∧ Fw.W a ∧ Fw.W b ∧ Fw.W c ∧ Fw.W d

def specLess : FnSpec := spec1 (dL .u64) fun l => (.pv (feP (toF (num4 l).toNat)), [W4L l ∧ num4 l < 2 * Ec.P])

theorem less_x (a b c d : Int) : callX Try.prog (lookT R1) 400 Try.f64 [.agg (intsC .u64 [a, b, c, d])] =
    let c0 := Fw.subB a 18446744073709551597 0
    let c1 := Fw.subB b 18446744073709551615 c0
    let c2 := Fw.subB c 18446744073709551615 c1
    let ob := [c2.toNat ≤ 1, c1.toNat ≤ 1, c0.toNat ≤ 1, (0 : Int).toNat ≤ 1]
    cond ((Fw.lessR a b c d).2 == 0) (some (.pv (.agg (intsC .u64 (Fw.lessR a b c d).1)), ob)) (some (.pv (.agg (intsC .u64 [a, b, c, d])), ob)) := by kernel_rfl

theorem less_ok : SpecOK Try.prog 64 specLess :=
  spec1_ok Try.func64 (by decide +kernel) (by kernel_rfl) R1_ok mixed (by kernel_rfl) fun l h => by
    obtain ⟨⟨⟨a, b, c, d, rfl, ha, hb, hc, hd⟩, hN⟩, _⟩ := h
    have hl := Fw.less_mod ha hb hc hd hN
    have h0 := Fw.subS_spec ha (Fw.W_lit (n := 18446744073709551597) (by decide) (by decide)) Fw.B0
    have h1 := Fw.subS_spec hb (Fw.W_lit (n := 18446744073709551615) (by decide) (by decide)) h0.2.2
    have h2 := Fw.subS_spec hc (Fw.W_lit (n := 18446744073709551615) (by decide) (by decide)) h1.2.2
    have hx := less_x a b c d
    have hob : AllP [(Fw.subB c 18446744073709551615 (Fw.subB b 18446744073709551615 (Fw.subB a 18446744073709551597 0))).toNat ≤ 1, (Fw.subB b 18446744073709551615 (Fw.subB a 18446744073709551597 0)).toNat ≤ 1, (Fw.subB a 18446744073709551597 0).toNat ≤ 1, (0 : Int).toNat ≤ 1] :=
      ⟨Fw.b_toNat h2.2.2, Fw.b_toNat h1.2.2, Fw.b_toNat h0.2.2, by decide, trivial⟩
    cases hg : (Fw.lessR a b c d).2 == 0 with
    | true =>
      simp only [hg, cond_true] at hx
      refine ⟨_, _, _, hx, hob, intsS_val _ _, ?_⟩
      exact congrArg (fun l => some (intsV .u64 l)) (hl.1 (by simpa using hg))
    | false =>
      simp only [hg, cond_false] at hx
      refine ⟨_, _, _, hx, hob, intsS_val _ _, ?_⟩
      exact congrArg (fun l => some (intsV .u64 l)) (hl.2 (by simpa using hg))

def R2 : List (FuncId × FnSpec) := (66, specMul) :: (64, specLess) :: R1
theorem R2_ok : TableOK Try.prog (lookT R2) := tableOK_cons mul_ok (tableOK_cons less_ok R1_ok)

/-- fold -/
def specFold : FnSpec := spec2 (dL .u64) (dI .u64) fun l k => (.pv (feP (toF (num4 l + 115792089237316195423570985008687907853269984665640564039457584007913129639936 * k).toNat)), [W4L l ∧ Fw.W k])

theorem fold_x (a b c d k : Int) : callX Try.prog (lookT R2) 600 Try.f67 [.agg (intsC .u64 [a, b, c, d]), u64 k] =
    let lo := Fw.mulL k 38
    let hi := Fw.mulH k 38
    let c0 := Fw.addC a lo 0
    let c1 := Fw.addC b hi c0
    match Fw.foldU a b c d k with
    | [u0, u1, u2, u3] =>
      let t := Fw.wr (19 * Fw.shrI d 63)
      let s0 := Fw.addS a lo 0
      let s1 := Fw.addS b hi c0
      let s2 := Fw.addS c 0 c1
      let e0 := Fw.addC s0 t 0
      let e1 := Fw.addC s1 0 e0
      let e2 := Fw.addC s2 0 e1
      let t2 := Fw.wr (19 * Fw.shrI u3 63)
      let f0 := Fw.addC u0 t2 0
      let f1 := Fw.addC u1 0 f0
      let f2 := Fw.addC u2 0 f1
      some (.pv (feP (toF (num4 (Fw.foldV u0 u1 u2 u3)).toNat)), [W4L (Fw.foldV u0 u1 u2 u3) ∧ num4 (Fw.foldV u0 u1 u2 u3) < 2 * Ec.P, f2.toNat ≤ 1, f1.toNat ≤ 1, f0.toNat ≤ 1, (0 : Int).toNat ≤ 1,
        e2.toNat ≤ 1, e1.toNat ≤ 1, e0.toNat ≤ 1, (0 : Int).toNat ≤ 1, c1.toNat ≤ 1, c0.toNat ≤ 1, (0 : Int).toNat ≤ 1, Fw.W k, Fw.W 38])
    | _ => none := by kernel_rfl

theorem fold_ok : SpecOK Try.prog 67 specFold :=
  spec2_ok Try.func67 (by decide +kernel) (by kernel_rfl) R2_ok mixed (by kernel_rfl) fun l k h => by
    obtain ⟨⟨⟨a, b, c, d, rfl, ha, hb, hc, hd⟩, hk⟩, _⟩ := h
    obtain ⟨u0, u1, u2, u3, eu, w0, w1, w2, w3, hu⟩ := Fw.foldU_spec ha hb hc hd hk
    obtain ⟨v0, v1, v2, v3, ev, x0, x1, x2, x3, hv, hle⟩ := Fw.foldV_spec w0 w1 w2 w3
    have hx := fold_x a b c d k
    simp only [eu, ev] at hx
    have m := Fw.mulH_spec hk (Fw.W_lit (n := 38) (by decide) (by decide))
    have mh : Fw.W (Fw.mulH k 38) := by unfold Fw.W; omega
    have h0 := Fw.addS_spec ha m.2.1 Fw.B0
    have h1 := Fw.addS_spec hb mh h0.2.2
    have h2 := Fw.addS_spec hc Fw.W0 h1.2.2
    have wt := Fw.wr_W (19 * Fw.shrI d 63)
    have g0 := Fw.addS_spec h0.2.1 wt Fw.B0
    have g1 := Fw.addS_spec h1.2.1 Fw.W0 g0.2.2
    have g2 := Fw.addS_spec h2.2.1 Fw.W0 g1.2.2
    have wt2 := Fw.wr_W (19 * Fw.shrI u3 63)
    have q0 := Fw.addS_spec w0 wt2 Fw.B0
    have q1 := Fw.addS_spec w1 Fw.W0 q0.2.2
    have q2 := Fw.addS_spec w2 Fw.W0 q1.2.2
    have hP : (Ec.P : Int) = 57896044618658097711785492504343953926634992332820282019728792003956564819949 := Fw.P_lit
    have hn := Fw.val4_nn ha hb hc hd
    have hvn := Fw.val4_nn x0 x1 x2 x3
    refine ⟨_, _, _, hx, ⟨⟨⟨v0, v1, v2, v3, rfl, x0, x1, x2, x3⟩, ?_⟩, Fw.b_toNat q2.2.2, Fw.b_toNat q1.2.2, Fw.b_toNat q0.2.2, by decide, Fw.b_toNat g2.2.2, Fw.b_toNat g1.2.2, Fw.b_toNat g0.2.2, by decide, Fw.b_toNat h1.2.2, Fw.b_toNat h0.2.2, by decide, hk, Fw.W_lit (by decide) (by decide), trivial⟩, feP_val _, ?_⟩
    · show Fw.val4 v0 v1 v2 v3 < 2 * Ec.P
      omega
    · have hq := Fw.shr63_W hd
      have hq2 := Fw.shr63_W w3
      have key := Fw.fold_mod (N := Fw.val4 a b c d + 115792089237316195423570985008687907853269984665640564039457584007913129639936 * k) (V := Fw.val4 v0 v1 v2 v3) (q := Fw.shrI d 63 + 2 * k + Fw.shrI u3 63) (by rw [hu, hv, hP]; omega) (by unfold Fw.W at hk; omega) hvn.1 (by unfold Fw.W Fw.B at *; omega)
      have : toF (Fw.val4 a b c d + 115792089237316195423570985008687907853269984665640564039457584007913129639936 * k).toNat = toF (Fw.val4 v0 v1 v2 v3).toNat := Fin.ext key
      show (SV.pv (feP (toF (Fw.val4 a b c d + 115792089237316195423570985008687907853269984665640564039457584007913129639936 * k).toNat))).val? = _
      rw [this]
      rfl

def R3 : List (FuncId × FnSpec) := (67, specFold) :: R2
theorem R3_ok : TableOK Try.prog (lookT R3) := tableOK_cons fold_ok R2_ok

/-- Small: a number below 2^64 -/
def specSmall : FnSpec := spec1 (dI .u64) fun n => (.pv (feP (toF n.toNat)), [Fw.W n])
theorem small_x (n : Int) : callX Try.prog (lookT R3) 100 Try.f34 [u64 n] = some (.pv (.agg (intsC .u64 [n, 0, 0, 0])), []) := by kernel_rfl
theorem small_dig {n : Int} (h : Fw.W n) : digI 64 (toF n.toNat).val 4 = [n, 0, 0, 0] := by
  have hP : (Ec.P : Int) = 57896044618658097711785492504343953926634992332820282019728792003956564819949 := Fw.P_lit
  have hv : Fw.val4 n 0 0 0 = n := by unfold Fw.val4; omega
  have := feL_of (a := n) (b := 0) (c := 0) (d := 0) ⟨h, Fw.W0, Fw.W0, Fw.W0⟩ (by rw [hv]; unfold Fw.W at h; omega)
  rw [hv] at this
  exact this
theorem small_ok : SpecOK Try.prog 34 specSmall :=
  spec1_ok Try.func34 (by decide +kernel) (by kernel_rfl) R3_ok mixed (by kernel_rfl) fun n h => by
    exact ⟨_, _, _, small_x n, trivial, intsS_val _ _, congrArg (fun l => some (intsV .u64 l)) (small_dig h.1)⟩

/-- the words of a number, its value -/
def wd (x : Fin Ec.P) (i : Nat) : Int := dg 64 x.val i
theorem val4_fe (x : Fin Ec.P) : Fw.val4 (wd x 0) (wd x 1) (wd x 2) (wd x 3) = x.val := by
  have := Fw.words_dg x.val (by have := x.isLt; have hP : Ec.P = 57896044618658097711785492504343953926634992332820282019728792003956564819949 := rfl; omega)
  exact this.symm
theorem wd_W (x : Fin Ec.P) (i : Nat) : Fw.W (wd x i) := Fw.dg_W _ _

theorem toF_gen {m : Nat} (h : 0 < m) (z : Fin m) (a b : Nat) (hz : z.val = a % m) (e : b = a) : z = ⟨b % m, Nat.mod_lt _ h⟩ := by
  subst e
  exact Fin.ext hz
theorem toF_add (x y : Fin Ec.P) {n : Nat} (e : n = x.val + y.val) : x + y = toF n := toF_gen (by decide) _ _ _ (Fin.val_add x y) e
theorem neg_gen {m : Nat} [NeZero m] (x : Fin m) : (-x).val = (m - x.val) % m := by
  cases m with
  | zero => exact x.elim0
  | succ m => rfl
theorem toF_neg (x : Fin Ec.P) {n : Nat} (e : n = Ec.P - x.val) : -x = toF n := toF_gen (by decide) _ _ _ (neg_gen x) e

/-- Add -/
def specAdd : FnSpec := spec2 dE dE fun x y => (.pv (feP (x + y)), [])
theorem addE_x (x y : Fin Ec.P) : callX Try.prog (lookT R3) 600 Try.f35 [feP x, feP y] =
    let c0 := Fw.addC (wd x 0) (wd y 0) 0
    let c1 := Fw.addC (wd x 1) (wd y 1) c0
    let c2 := Fw.addC (wd x 2) (wd y 2) c1
    let l := (Fw.addW (wd x 0) (wd x 1) (wd x 2) (wd x 3) (wd y 0) (wd y 1) (wd y 2) (wd y 3)).1
    some (.pv (feP (toF (num4 l).toNat)), [W4L l ∧ num4 l < 2 * Ec.P, c2.toNat ≤ 1, c1.toNat ≤ 1, c0.toNat ≤ 1, (0 : Int).toNat ≤ 1]) := by kernel_rfl
theorem addE_ok : SpecOK Try.prog 35 specAdd :=
  spec2_ok Try.func35 (by decide +kernel) (by kernel_rfl) R3_ok mixed (by kernel_rfl) fun x y _ => by
    obtain ⟨s0, s1, s2, s3, k, ek, w0, w1, w2, w3, hk, hv⟩ := Fw.addW_spec (wd_W x 0) (wd_W x 1) (wd_W x 2) (wd_W x 3) (wd_W y 0) (wd_W y 1) (wd_W y 2) (wd_W y 3)
    have h0 := Fw.addS_spec (wd_W x 0) (wd_W y 0) Fw.B0
    have h1 := Fw.addS_spec (wd_W x 1) (wd_W y 1) h0.2.2
    have h2 := Fw.addS_spec (wd_W x 2) (wd_W y 2) h1.2.2
    have hx := addE_x x y
    simp only [ek] at hx
    rw [val4_fe, val4_fe] at hv
    have hP : (Ec.P : Int) = 57896044618658097711785492504343953926634992332820282019728792003956564819949 := Fw.P_lit
    have hn := Fw.val4_nn w0 w1 w2 w3
    have lx := x.isLt
    have ly := y.isLt
    have hk0 : k = 0 := by unfold Fw.B at hk; omega
    subst hk0
    refine ⟨_, _, _, hx, ⟨⟨⟨s0, s1, s2, s3, rfl, w0, w1, w2, w3⟩, ?_⟩, Fw.b_toNat h2.2.2, Fw.b_toNat h1.2.2, Fw.b_toNat h0.2.2, by decide, trivial⟩, feP_val _, ?_⟩
    · show Fw.val4 s0 s1 s2 s3 < 2 * Ec.P
      omega
    · have : x + y = toF (Fw.val4 s0 s1 s2 s3).toNat := toF_add x y (by omega)
      show (SV.pv (feP (x + y))).val? = _
      rw [this]
      rfl

/-- Neg -/
def specNeg : FnSpec := spec1 dE fun x => (.pv (feP (-x)), [])
theorem negE_x (x : Fin Ec.P) : callX Try.prog (lookT R3) 600 Try.f59 [feP x] =
    let c0 := Fw.subB 18446744073709551597 (wd x 0) 0
    let c1 := Fw.subB 18446744073709551615 (wd x 1) c0
    let c2 := Fw.subB 18446744073709551615 (wd x 2) c1
    let l := (Fw.negW (wd x 0) (wd x 1) (wd x 2) (wd x 3)).1
    some (.pv (feP (toF (num4 l).toNat)), [W4L l ∧ num4 l < 2 * Ec.P, c2.toNat ≤ 1, c1.toNat ≤ 1, c0.toNat ≤ 1, (0 : Int).toNat ≤ 1]) := by kernel_rfl
theorem negE_ok : SpecOK Try.prog 59 specNeg :=
  spec1_ok Try.func59 (by decide +kernel) (by kernel_rfl) R3_ok mixed (by kernel_rfl) fun x _ => by
    obtain ⟨s0, s1, s2, s3, k, ek, w0, w1, w2, w3, hk, hv⟩ := Fw.negW_spec (wd_W x 0) (wd_W x 1) (wd_W x 2) (wd_W x 3)
    have h0 := Fw.subS_spec (Fw.W_lit (n := 18446744073709551597) (by decide) (by decide)) (wd_W x 0) Fw.B0
    have h1 := Fw.subS_spec (Fw.W_lit (n := 18446744073709551615) (by decide) (by decide)) (wd_W x 1) h0.2.2
    have h2 := Fw.subS_spec (Fw.W_lit (n := 18446744073709551615) (by decide) (by decide)) (wd_W x 2) h1.2.2
    have hx := negE_x x
    simp only [ek] at hx
    rw [val4_fe] at hv
    have hP : (Ec.P : Int) = 57896044618658097711785492504343953926634992332820282019728792003956564819949 := Fw.P_lit
    have hn := Fw.val4_nn w0 w1 w2 w3
    have lx := x.isLt
    have hk0 : k = 0 := by unfold Fw.B at hk; omega
    subst hk0
    refine ⟨_, _, _, hx, ⟨⟨⟨s0, s1, s2, s3, rfl, w0, w1, w2, w3⟩, ?_⟩, Fw.b_toNat h2.2.2, Fw.b_toNat h1.2.2, Fw.b_toNat h0.2.2, by decide, trivial⟩, feP_val _, ?_⟩
    · show Fw.val4 s0 s1 s2 s3 < 2 * Ec.P
      omega
    · have : -x = toF (Fw.val4 s0 s1 s2 s3).toNat := toF_neg x (by omega)
      show (SV.pv (feP (-x))).val? = _
      rw [this]
      rfl

def R4 : List (FuncId × FnSpec) := (34, specSmall) :: (35, specAdd) :: (59, specNeg) :: R3
theorem R4_ok : TableOK Try.prog (lookT R4) := tableOK_cons small_ok (tableOK_cons addE_ok (tableOK_cons negE_ok R3_ok))

end Go.Proofs.Ytahkpabndfaoiaa
