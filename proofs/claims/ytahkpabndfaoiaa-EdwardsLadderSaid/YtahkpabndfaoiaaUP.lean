/-
The ladder: what it comes to.
The ladder of the base; the reference's clamping.
-/
import Derived.Test.YtahkpabndfaoiaaUO
import Derived.Test.YtahkpabndfaoiaaUA
import Derived.Test.YtahkpabndfaoiaaUH
import Derived.Test.YtahkpabndfaoiaaUM

/- The ladder: what it comes to. -/
namespace Go.Proofs.Ytahkpabndfaoiaa
open Eng Go Go.RowKit Go.Proofs Ec

theorem lm_last (o : LaOps) (e : Nat) (x : Fin Ec.P) (s : X4) : runS Try.prog (T40 o) lmF 1 lmTd 300 (.code (hd lmF).1 :: .lp (hd lmF).1 :: (hd lmF).2) (lmS [.dig .u8 8 e 32] x (ptP s).cells ((255 : Nat) : Int)) =
    some (.out (.val (.pv (keyP (o.num (o.mul s.x (o.inv s.y)))))), []) := by kernel_rfl

/-! clamped bytes, as a number -/
theorem andn8_all : ∀ m < 256, andn8 ((m : Nat) : Int) 7 = ((m / 8 * 8 : Nat) : Int) := by decide +kernel
theorem cl31_all : ∀ m < 256, or8 (and8 ((m : Nat) : Int) 127) 64 = ((m % 64 + 64 : Nat) : Int) := by decide +kernel
def clampN (k : Nat) : Nat := numI 8 (clampI k)
theorem clampI_ok (k : Nat) : InD 8 (clampI k) := by
  intro a ha
  unfold clampI at ha
  rcases List.mem_append.1 ha with h | h
  · rcases List.mem_cons.1 h with rfl | h
    · have : dg 8 k 0 = ((k / 2 ^ (8 * 0) % 2 ^ 8 : Nat) : Int) := rfl
      rw [this, andn8_all _ (Nat.mod_lt _ (by decide))]
      have : k / 2 ^ (8 * 0) % 2 ^ 8 < 2 ^ 8 := Nat.mod_lt _ (by decide)
      exact ⟨Int.natCast_nonneg _, by omega⟩
    · obtain ⟨i, _, rfl⟩ := List.mem_map.1 h
      exact dg_nn 8 _ _
  · rw [List.mem_singleton.1 h]
    have : dg 8 k 31 = ((k / 2 ^ (8 * 31) % 2 ^ 8 : Nat) : Int) := rfl
    rw [this, cl31_all _ (Nat.mod_lt _ (by decide))]
    exact ⟨Int.natCast_nonneg _, by have : k / 2 ^ (8 * 31) % 2 ^ 8 % 64 < 64 := Nat.mod_lt _ (by decide); omega⟩
theorem clampI_len (k : Nat) : (clampI k).length = 32 := rfl
theorem clamp_cells (k : Nat) (ρ : Env) : denCs ρ (clampC k) = denCs ρ [.dig .u8 8 (clampN k) 32] := by
  have h1 : denCs ρ (clampC k) = some ((clampI k).map (Value.int .u8)) := by kernel_rfl
  have h2 : digI 8 (clampN k) 32 = clampI k := by
    have := digI_numI (clampI_ok k)
    rw [clampI_len] at this
    exact this
  rw [h1]
  simp only [denCs, denC, digL_I, h2, List.append_nil]
theorem clampN_lt (k : Nat) : clampN k < 2 ^ 255 := by
  unfold clampN clampI
  rw [numI_app]
  have h0 : numI 8 (andn8 (dg 8 k 0) 7 :: (List.range 30).map fun i => dg 8 k (i + 1)) < 2 ^ (8 * 31) := by
    have := numI_lt (w := 8) (l := andn8 (dg 8 k 0) 7 :: (List.range 30).map fun i => dg 8 k (i + 1)) (fun a ha => clampI_ok k a (by unfold clampI; exact List.mem_append_left _ ha))
    exact this
  have e31 : dg 8 k 31 = ((k / 2 ^ (8 * 31) % 2 ^ 8 : Nat) : Int) := rfl
  rw [e31, cl31_all _ (Nat.mod_lt _ (by decide))]
  have h1 : k / 2 ^ (8 * 31) % 2 ^ 8 % 64 < 64 := Nat.mod_lt _ (by decide)
  have hlen : (andn8 (dg 8 k 0) 7 :: (List.range 30).map fun i => dg 8 k (i + 1)).length = 31 := rfl
  rw [hlen]
  generalize numI 8 (andn8 (dg 8 k 0) 7 :: (List.range 30).map fun i => dg 8 k (i + 1)) = a at *
  generalize k / 2 ^ (8 * 31) % 2 ^ 8 % 64 = q at *
  simp only [numI, Int.toNat_natCast, Nat.mul_zero, Nat.add_zero]
  rw [show (2 : Nat) ^ 255 = 2 ^ (8 * 31) * 128 by decide]
  generalize 2 ^ (8 * 31) = m at *
  have : m * (q + 64) ≤ m * 127 := Nat.mul_le_mul_left m (by omega)
  omega

/-! the rungs -/
theorem st_cells (o f : Fin Ec.P) (ρ : Env) : denCs ρ (st0 o f) = denCs ρ (ptP ⟨o, 0, f, o⟩).cells := by kernel_rfl
/-- where a ladder stands stands for the multiples m and m + 1 -/
def Stands (s : X4) (m : Nat) : Prop := RepU s.x s.y (pmul B m).y ∧ RepU s.z s.t (pmul B (m + 1)).y
theorem kstep_x (s : X4) (x : Fin Ec.P) : (kops.step s x).x = (s.x + s.y) * (s.x + s.y) * ((s.x - s.y) * (s.x - s.y)) := by
  show (s.x + s.y) * (s.x + s.y) * ((s.x + -s.y) * (s.x + -s.y)) = _
  grind
theorem sm121665 : kops.small 121665 = 121665 := rfl
theorem kstep_y (s : X4) (x : Fin Ec.P) : (kops.step s x).y = ((s.x + s.y) * (s.x + s.y) - (s.x - s.y) * (s.x - s.y)) * ((s.x + s.y) * (s.x + s.y) + 121665 * ((s.x + s.y) * (s.x + s.y) - (s.x - s.y) * (s.x - s.y))) := by
  show ((s.x + s.y) * (s.x + s.y) + -((s.x + -s.y) * (s.x + -s.y))) * ((s.x + s.y) * (s.x + s.y) + kops.small 121665 * ((s.x + s.y) * (s.x + s.y) + -((s.x + -s.y) * (s.x + -s.y)))) = _
  rw [sm121665]
  generalize (121665 : Fin Ec.P) = k
  grind
theorem kstep_z (s : X4) (x : Fin Ec.P) : (kops.step s x).z = ((s.z + s.t) * (s.x - s.y) + (s.z - s.t) * (s.x + s.y)) * ((s.z + s.t) * (s.x - s.y) + (s.z - s.t) * (s.x + s.y)) := by
  show ((s.z + s.t) * (s.x + -s.y) + (s.z + -s.t) * (s.x + s.y)) * ((s.z + s.t) * (s.x + -s.y) + (s.z + -s.t) * (s.x + s.y)) = _
  grind
theorem kstep_t (s : X4) (x : Fin Ec.P) : (kops.step s x).t = x * (((s.z + s.t) * (s.x - s.y) - (s.z - s.t) * (s.x + s.y)) * ((s.z + s.t) * (s.x - s.y) - (s.z - s.t) * (s.x + s.y))) := by
  show x * (((s.z + s.t) * (s.x + -s.y) + -((s.z + -s.t) * (s.x + s.y))) * ((s.z + s.t) * (s.x + -s.y) + -((s.z + -s.t) * (s.x + s.y)))) = _
  grind
theorem diff_y (m : Nat) : (padd (pmul B (m + 1)) (Cur.neg (pmul B m))).y = BY := by
  show (curP.add (curP.add (pmul B m) B) (Cur.neg (pmul B m))).y = BY
  rw [curP.add_comm (pmul B m) B, curP.add_assoc, curP.add_neg, curP.add_zero]
  rfl
theorem padd_neg_y (p q : Pt Ec.P D) : (padd p (Cur.neg q)).y = (padd q (Cur.neg p)).y := by
  have h1 := padd_y' p (Cur.neg q)
  have h2 := padd_y' q (Cur.neg p)
  have n1 : (Cur.neg q).x = -q.x := rfl
  have n2 : (Cur.neg q).y = q.y := rfl
  have n3 : (Cur.neg p).x = -p.x := rfl
  have n4 : (Cur.neg p).y = p.y := rfl
  have d := den1' p q
  rw [n1, n2] at h1
  rw [n3, n4] at h2
  exact fldP.cancel d (by grind)
theorem rung_false {s : X4} {m : Nat} (h : Stands s m) : Stands (kops.step s 9) (2 * m) := by
  obtain ⟨h1, h2⟩ := h
  refine ⟨?_, ?_⟩
  · rw [kstep_x, kstep_y, ← pmul_two]
    exact h1.dbl
  · rw [kstep_z, kstep_t]
    have := h1.add h2 (by rw [padd_neg_y]; exact diff_y m)
    have e : padd (pmul B m) (pmul B (m + 1)) = pmul B (2 * m + 1) := by
      have := curP.mul_add B m (m + 1)
      rw [show m + (m + 1) = 2 * m + 1 by omega] at this
      exact this.symm
    rw [e] at this
    exact this
theorem rung_true {s : X4} {m : Nat} (h : Stands s m) : Stands ⟨(kops.step ⟨s.z, s.t, s.x, s.y⟩ 9).z, (kops.step ⟨s.z, s.t, s.x, s.y⟩ 9).t, (kops.step ⟨s.z, s.t, s.x, s.y⟩ 9).x, (kops.step ⟨s.z, s.t, s.x, s.y⟩ 9).y⟩ (2 * m + 1) := by
  obtain ⟨h1, h2⟩ := h
  refine ⟨?_, ?_⟩
  · rw [kstep_z, kstep_t]
    have := h2.add h1 (diff_y m)
    have e : padd (pmul B (m + 1)) (pmul B m) = pmul B (2 * m + 1) := by
      have := curP.mul_add B (m + 1) m
      rw [show m + 1 + m = 2 * m + 1 by omega] at this
      exact this.symm
    rw [e] at this
    exact this
  · rw [kstep_x, kstep_y]
    have := h2.dbl
    rw [pmul_two, show 2 * (m + 1) = 2 * m + 1 + 1 by omega] at this
    exact this
theorem laswap_f (s : X4) : laops.lswap s false = s := rfl
theorem laswap_t (s : X4) : laops.lswap s true = ⟨s.z, s.t, s.x, s.y⟩ := rfl
theorem lastep (s : X4) (x : Fin Ec.P) : laops.lstep s x = kops.step s x := rfl
theorem rung_is {s : X4} {m : Nat} (h : Stands s m) (b : Bool) : Stands (laops.rung 9 s b) (2 * m + b.toNat) := by
  unfold LaOps.rung
  cases b with
  | false =>
    rw [laswap_f, laswap_f, lastep]
    exact rung_false h
  | true =>
    rw [laswap_t, laswap_t, lastep]
    exact rung_true h

theorem lm_loop (e : Nat) : ∀ n i (s : X4), 255 - i = n → i ≤ 255 → Stands s (top e (i + 1)) →
    ∃ s', Stands s' (e % 2 ^ 256) ∧ Goes Try.prog (T40 laops) lmF (OutIs (.val (.pv (keyP (laops.num (laops.mul s'.x (laops.inv s'.y))))))) (.code (hd lmF).1 :: .lp (hd lmF).1 :: (hd lmF).2) (lmS [.dig .u8 8 e 32] 9 (ptP s).cells (i : Int)) := by
  intro n
  induction n with
  | zero =>
    intro i s hn hi hs
    have : i = 255 := by omega
    subst this
    rw [top_all] at hs
    exact ⟨s, hs, .out 1 lmTd 300 (lm_last laops e 9 s) trivial ⟨_, keyP_val _, keyP_val _⟩⟩
  | succ n ih =>
    intro i s hn hi hs
    have hi' : i < 255 := by omega
    have hx := map_range_eq (lm_rounds laops e 9 s) hi'
    have h := rung_is hs (bitAt e (i + 1))
    rw [← top_succ e (i + 1) (by omega)] at h
    obtain ⟨s', h1, h2⟩ := ih (i + 1) _ (by omega) (by omega) h
    exact ⟨s', h1, .at 1 lmTd 300 hx trivial (.lp h2)⟩
end Go.Proofs.Ytahkpabndfaoiaa

/- The ladder of the base; the reference's clamping. -/
namespace Go.Proofs.Ytahkpabndfaoiaa
open Eng Go Go.RowKit Go.Proofs Ec

def ladP (k : Nat) : Pt Ec.P Ec.D := pmul B (clampN k % 2 ^ 256)
theorem lmulN_ex : ∃ f : Nat → Nat, ∀ k, f k = ((1 + (ladP k).y) * inv (1 - (ladP k).y)).val := ⟨_, fun _ => rfl⟩
/-- what the ladder of the base comes to; hidden from reckoning -/
noncomputable def lmulN : Nat → Nat := Classical.choose lmulN_ex
theorem lmulN_eq (k : Nat) : lmulN k = ((1 + (ladP k).y) * inv (1 - (ladP k).y)).val := Classical.choose_spec lmulN_ex k
theorem la_of9 : laops.of 9 = 9 := by decide +kernel
theorem la_one : laops.small 1 = 1 := rfl
theorem la_num (x : Fin Ec.P) : laops.num x = x.val := rfl
theorem la_mul (x y : Fin Ec.P) : laops.mul x y = x * y := rfl
theorem la_inv (x : Fin Ec.P) : laops.inv x = Ec.inv x := rfl
theorem stands0 : Stands ⟨1, 0, 9, 1⟩ 0 := by
  have e : pmul B 1 = B := curP.zero_add B
  refine ⟨repU_one, ?_⟩
  show RepU 9 1 (pmul B 1).y
  rw [e]
  exact repU_base
theorem top_one {e : Nat} (h : e < 2 ^ 255) : top e 1 = 0 := by
  unfold top
  rw [Nat.mod_eq_of_lt (Nat.lt_trans h (by decide))]
  exact Nat.div_eq_of_lt h
theorem lmul_goes (k : Nat) : Goes Try.prog (T40 laops) lmF (OutIs (.val (.pv (keyP (lmulN k))))) [.code (bodyOf lmF)] (Eng.start lmF.ntmps [keyP k, keyP 9]) := by
  have hx := lm_first laops k 9
  rw [la_of9, la_one] at hx
  have hl := clampN_lt k
  obtain ⟨s', h1, h2⟩ := lm_loop (clampN k) 255 0 ⟨1, 0, 9, 1⟩ rfl (by decide) (by rw [top_one hl]; exact stands0)
  have hv : laops.num (laops.mul s'.x (laops.inv s'.y)) = lmulN k := by
    rw [la_num, la_mul, la_inv, h1.1.ratio, lmulN_eq]
    unfold ladP
    exact Eq.refl _
  rw [hv] at h2
  exact .at 1 lmTd 300 hx ⟨w1, w1, trivial⟩ (.loop (.cells 2 [.dig .u8 8 (clampN k) 32] (clamp_cells k) (.cells 25 (ptP ⟨1, 0, 9, 1⟩).cells (st_cells 1 9) h2)))
theorem lmul_ok : SpecOK Try.prog 70 (spec2 dK dK fun k n => (.pv (keyP (lmulN k)), [n = 9])) :=
  goes2_ok T40_ok mixed Try.func70 (by decide +kernel) (by kernel_rfl) (by kernel_rfl) (fun k n => ⟨_, keyP_val _⟩) fun k n hp => by
    have hn : n = 9 := hp.1
    subst hn
    exact lmul_goes k

/-- with the ladder, with nothing known of it -/
structure LbOps extends LOps where
  lmul : Nat → Nat
  lclamp : Nat → Nat
noncomputable def lbops : LbOps where
  toLOps := lops
  lmul := lmulN
  lclamp := clampN
def T43 (o : LbOps) (r : ROps) : List (FuncId × FnSpec) := (70, spec2 dK dK fun k n => (.pv (keyP (o.lmul k)), [n = 9])) :: T30 o.toLOps r
theorem T43_ok : TableOK Try.prog (lookT (T43 lbops rops)) := tableOK_cons lmul_ok T30_ok
theorem lpub_x (o : LbOps) (r : ROps) (k : Nat) : callX Try.prog (lookT (T43 o r)) 300 Try.f40 [keyP k] = some (.pv (keyP (o.lmul k)), [numI 8 (K1 9) = 9, kB1 9]) := by kernel_rfl
theorem lpub_ok : SpecOK Try.prog 40 (spec1 dK fun k => (.pv (keyP (lmulN k)), [])) :=
  spec1_ok Try.func40 (by decide +kernel) (by kernel_rfl) T43_ok mixed (by kernel_rfl) fun k _ =>
    ⟨_, _, _, lpub_x lbops rops k, ⟨by rw [K1_num]; rfl, kB1_ok (by decide), trivial⟩, keyP_val _, keyP_val _⟩

def clampR (k : Nat) : List Int := IntKind.wrap .u8 (IntKind.wrap .u8 ((dg 8 k 0).tdiv 8) * 8) :: ((List.range 30).map fun i => dg 8 k (i + 1)) ++ [IntKind.wrap .u8 ((dg 8 k 31).tmod 64 + 64)]
def clampRC (k : Nat) : List Cell := .val (.int .u8 (IntKind.wrap .u8 (IntKind.wrap .u8 ((dg 8 k 0).tdiv 8) * 8))) :: ((List.range 30).map fun i => Cell.dg1 .u8 8 k (i + 1)) ++ [.val (.int .u8 (IntKind.wrap .u8 ((dg 8 k 31).tmod 64 + 64)))]
theorem rclamp_x (o : LbOps) (r : ROps) (k : Nat) : callX Try.prog (lookT (T43 o r)) 300 Try.f33 [keyP k] = some (.pv (.agg (clampRC k)), []) := by kernel_rfl
theorem cl0_all : ∀ m < 256, IntKind.wrap .u8 (IntKind.wrap .u8 (((m : Nat) : Int).tdiv 8) * 8) = ((m / 8 * 8 : Nat) : Int) := by decide +kernel
theorem cl31R_all : ∀ m < 256, IntKind.wrap .u8 (((m : Nat) : Int).tmod 64 + 64) = ((m % 64 + 64 : Nat) : Int) := by decide +kernel
theorem clampR_is (k : Nat) : clampR k = clampI k := by
  have e0 : dg 8 k 0 = ((k / 2 ^ (8 * 0) % 2 ^ 8 : Nat) : Int) := rfl
  have e31 : dg 8 k 31 = ((k / 2 ^ (8 * 31) % 2 ^ 8 : Nat) : Int) := rfl
  unfold clampR clampI
  rw [e0, e31, cl0_all _ (Nat.mod_lt _ (by decide)), cl31R_all _ (Nat.mod_lt _ (by decide)), andn8_all _ (Nat.mod_lt _ (by decide)), cl31_all _ (Nat.mod_lt _ (by decide))]
theorem rclamp_val (k : Nat) : (SV.pv (.agg (clampRC k))).val? = some (keyV (clampN k)) := by
  have h1 : (SV.pv (.agg (clampRC k))).val? = some (intsV .u8 (clampR k)) := by kernel_rfl
  have h2 : digI 8 (clampN k) 32 = clampI k := by
    have := digI_numI (clampI_ok k)
    rw [clampI_len] at this
    exact this
  rw [h1, clampR_is]
  unfold keyV
  rw [h2]
theorem rclamp_ok : SpecOK Try.prog 33 (spec1 dK fun k => (.pv (keyP (clampN k)), [])) :=
  spec1_ok Try.func33 (by decide +kernel) (by kernel_rfl) T43_ok mixed (by kernel_rfl) fun k _ => ⟨_, _, _, rclamp_x lbops rops k, trivial, rclamp_val k, keyP_val _⟩

def T44 (o : LbOps) (r : ROps) : List (FuncId × FnSpec) :=
  (40, spec1 dK fun k => (.pv (keyP (o.lmul k)), [])) ::
  (33, spec1 dK fun k => (.pv (keyP (o.lclamp k)), [])) :: T43 o r
theorem T44_ok : TableOK Try.prog (lookT (T44 lbops rops)) := tableOK_cons lpub_ok (tableOK_cons rclamp_ok T43_ok)
def LbOps.ly (o : LbOps) (k : Nat) : Fin Ec.P := o.of (o.py (o.pmul o.pbase (o.lclamp k)))
theorem elad_x (o : LbOps) (r : ROps) (k : Nat) : callX Try.prog (lookT (T44 o r)) 300 Try.f9 [keyP k] =
    cond (eqB (o.num (o.mul (o.add (o.small 1) (o.ly k)) (o.inv (o.add (o.small 1) (o.neg (o.ly k)))))) (o.lmul k)) (some (.pv (bo true), [Fw.W 1])) (some (.pv (bo false), [Fw.W 1])) := by kernel_rfl
theorem lb_of (n : Nat) : lbops.of n = fops.of n := rfl
theorem lb_py (p : X4) : lbops.py p = yNum p := rfl
theorem lb_pmul (p : X4) (n : Nat) : lbops.pmul p n = mulP p n := rfl
theorem lb_pbase : lbops.pbase = base4 := rfl
theorem lb_clamp (k : Nat) : lbops.lclamp k = clampN k := rfl
theorem fops_of_val (y : Fin Ec.P) : fops.of y.val = y := by
  show toF (y.val % 57896044618658097711785492504343953926634992332820282019728792003956564819968) = _
  rw [mod_255 (Nat.lt_trans y.isLt P_lt255), toF_val]
theorem ladP_y (k : Nat) : yNum (mulP base4 (clampN k)) = (ladP k).y.val := by
  have h := baseP_rep (clampN k)
  unfold ladP
  generalize pmul B (clampN k % 2 ^ 256) = p at *
  rw [yNum_eq, flat_of h]
theorem lb_ly (k : Nat) : lbops.ly k = (ladP k).y := by
  unfold LbOps.ly
  rw [lb_of, lb_py, lb_pmul, lb_pbase, lb_clamp, ladP_y, fops_of_val]
theorem lb_num (x : Fin Ec.P) : lbops.num x = x.val := rfl
theorem lb_mul (x y : Fin Ec.P) : lbops.mul x y = x * y := rfl
theorem lb_add (x y : Fin Ec.P) : lbops.add x y = x + y := rfl
theorem lb_neg (x : Fin Ec.P) : lbops.neg x = -x := rfl
theorem lb_inv (x : Fin Ec.P) : lbops.inv x = Ec.inv x := rfl
theorem lb_one : lbops.small 1 = 1 := rfl
theorem lb_lmul (k : Nat) : lbops.lmul k = lmulN k := rfl
theorem lad_sub {n : Nat} [NeZero n] (x y : Fin n) : x + -y = x - y := by grind
theorem elad_m (k : Nat) : Meets (callX Try.prog (lookT (T44 lbops rops)) 300 Try.f9 [keyP k]) truth := by
  have h := elad_x lbops rops k
  rw [lb_ly, lb_num, lb_mul, lb_add, lb_inv, lb_add, lb_neg, lb_one, lb_lmul, lad_sub, eqB_of (lmulN_eq k).symm] at h
  exact ⟨_, _, .bool true, h, ⟨w1, trivial⟩, rfl, rfl⟩
theorem edwardsLadder_calls (k0 : Nat) (w : World) : Calls Try.prog 9 #[keyV k0] w fun e w' => e = .returned (.bool true) ∧ Below w.heap.size w w' := by
  obtain ⟨sv', ob, v, h1, h2, h3, h4⟩ := elad_m k0
  cases truth_v h4
  exact calls_of_exec T44_ok mixed Try.func9 (ps := [keyP k0]) (vals := [keyV k0]) rfl (by kernel_rfl) h1 h2 h3 w
end Go.Proofs.Ytahkpabndfaoiaa
