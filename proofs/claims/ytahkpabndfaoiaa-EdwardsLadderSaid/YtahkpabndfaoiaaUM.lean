/-
The statements' functions: a point of any bytes; the statements.
The statements: a point of any bytes; what they come to.
The statements: what the sums, the readings, the bytes come to.
The statements: what a point read from its bytes comes to.
The statements: what points of any bytes stand for.
The statements: multiples, sums, readings are as is said.
The statements: multiples, sums, readings: what their calls come to.
-/
import Derived.Test.YtahkpabndfaoiaaUL
import Derived.Test.YtahkpabndfaoiaaUH
import Derived.Test.YtahkpabndfaoiaaUA

/- The statements' functions: a point of any bytes; the statements. -/
namespace Go.Proofs.Ytahkpabndfaoiaa
open Eng Go Go.RowKit Go.Proofs Ec

/-- both ways of reckoning, with nothing known of them -/
structure LOps extends POps where
  cv : Cv
  rof : Fin Ec.P → Nat → Option Ec.R3
  rmul : Fin Ec.P → Ec.R3 → Nat → Ec.R3
  rbytes : Ec.R3 → Nat
  radd3 : Fin Ec.P → Ec.R3 → Ec.R3 → Ec.R3
  rneg3 : Ec.R3 → Ec.R3
  rsame : Ec.R3 → Ec.R3 → Bool
  rflat : Ec.R3 → Fin Ec.P × Fin Ec.P
noncomputable def lops : LOps where
  toPOps := pops
  cv := cvB
  rof := rOf
  rmul := rmulP
  rbytes := rbNum
  radd3 := raddP
  rneg3 := R3.neg
  rsame := R3.same
  rflat := flatR
def T30 (o : LOps) (r : ROps) : List (FuncId × FnSpec) :=
  (17, spec0 (.pv (cvP o.cv))) ::
  (24, spec2 dCv dK fun c n => (.tup (optR (o.rof c.d n)), [])) ::
  (21, spec3 dCv dR3 dK fun c p e => (.pv (r3P (o.rmul c.d p e)), [])) ::
  (20, spec1 dR3 fun p => (.pv (keyP (o.rbytes p)), [])) ::
  (28, spec3 dCv dR3 dR3 fun c a b => (.pv (r3P (o.radd3 c.d a b)), [])) ::
  (30, spec1 dR3 fun a => (.pv (r3P (o.rneg3 a)), [])) ::
  (31, spec2 dR3 dR3 fun a b => (.pv (bo (o.rsame a b)), [])) ::
  (25, spec1 dR3 fun a => (.tup [nmP (o.rflat a).1, nmP (o.rflat a).2], [])) ::
  (16, spec0 (.pv (bo true))) :: T11 o.toPOps r
theorem T30_ok : TableOK Try.prog (lookT (T30 lops rops)) :=
  tableOK_cons begin_ok (tableOK_cons cof_ok (tableOK_cons cmul_ok (tableOK_cons cbytes_ok (tableOK_cons cadd_ok (tableOK_cons cneg_ok (tableOK_cons csame_ok (tableOK_cons cflat_ok (tableOK_cons known_ok T11_ok))))))))

/-- two points of any bytes -/
def ptsT (a : X4) (b : Ec.R3) : SV := .tup [ptP a, r3P b]
theorem point_x1 (o : LOps) (r : ROps) (c : Cv) (n : Nat) : callX Try.prog (lookT (T30 o r)) 300 Try.f18 [cvP c, keyP n] =
    cond (o.pof n).isSome (some (ptsT ((o.pof n).getD X4.nil) ((o.rof c.d n).getD R3.nought), [])) (some (ptsT (o.pmul o.pbase n) (o.rmul c.d c.b n), [])) := by kernel_rfl
end Go.Proofs.Ytahkpabndfaoiaa

/- The statements: a point of any bytes; what they come to. -/
namespace Go.Proofs.Ytahkpabndfaoiaa
open Eng Go Go.RowKit Go.Proofs Ec

noncomputable def p4 (o : LOps) (n : Nat) : X4 := cond (o.pof n).isSome ((o.pof n).getD X4.nil) (o.pmul o.pbase n)
noncomputable def p3 (o : LOps) (c : Cv) (n : Nat) : Ec.R3 := cond (o.pof n).isSome ((o.rof c.d n).getD R3.nought) (o.rmul c.d c.b n)
theorem point_sp : SpecOK Try.prog 18 (spec2 dCv dK fun c n => (ptsT (p4 lops n) (p3 lops c n), [])) :=
  spec2_ok Try.func18 (by decide +kernel) (by kernel_rfl) T30_ok mixed (by kernel_rfl) fun c n _ => by
    have h := point_x1 lops rops c n
    unfold p4 p3
    cases hc : (lops.pof n).isSome with
    | true => rw [hc] at h; exact ⟨_, _, _, h, trivial, rfl, rfl⟩
    | false => rw [hc] at h; exact ⟨_, _, _, h, trivial, rfl, rfl⟩

/-- the same, and points of any bytes, with nothing known of them -/
structure GOps extends LOps where
  q4 : Nat → X4
  q3 : Cv → Nat → Ec.R3
noncomputable def gops : GOps where
  toLOps := lops
  q4 := p4 lops
  q3 := p3 lops
def T31 (o : GOps) (r : ROps) : List (FuncId × FnSpec) :=
  (18, spec2 dCv dK fun c n => (ptsT (o.q4 n) (o.q3 c n), [])) :: T30 o.toLOps r
theorem T31_ok : TableOK Try.prog (lookT (T31 gops rops)) := tableOK_cons point_sp T30_ok

def eqB (a b : Nat) : Bool := eqL (digI 8 a 32) (digI 8 b 32)
theorem muls_x (o : GOps) (r : ROps) (a k : Nat) : callX Try.prog (lookT (T31 o r)) 300 Try.f4 [keyP a, keyP k] =
    cond (eqB (o.pbytes (o.pmul (o.q4 a) k)) (o.rbytes (o.rmul o.cv.d (o.q3 o.cv a) k)))
      (cond (eqB (o.pbytes (o.pmul o.pbase k)) (o.rbytes (o.rmul o.cv.d o.cv.b k))) (some (.pv (bo true), [])) (some (.pv (bo false), [])))
      (some (.pv (bo false), [])) := by kernel_rfl
end Go.Proofs.Ytahkpabndfaoiaa

/- The statements: what the sums, the readings, the bytes come to. -/
namespace Go.Proofs.Ytahkpabndfaoiaa
open Eng Go Go.RowKit Go.Proofs Ec

def yes (l : List Prop) : Option (SV × List Prop) := some (.pv (bo true), l)
def noo (l : List Prop) : Option (SV × List Prop) := some (.pv (bo false), l)
def z4l : List Prop := [zeroOb, zeroOb, zeroOb, zeroOb]
def z8l : List Prop := [zeroOb, zeroOb, zeroOb, zeroOb, zeroOb, zeroOb, zeroOb, zeroOb]
theorem adds_x (o : GOps) (r : ROps) (a b : Nat) : callX Try.prog (lookT (T31 o r)) 300 Try.f7 [keyP a, keyP b] =
    cond (eqB (o.pbytes (o.padd (o.q4 a) (o.q4 b))) (o.rbytes (o.radd3 o.cv.d (o.q3 o.cv a) (o.q3 o.cv b))))
      (cond (eqB (o.pbytes (o.pneg (o.q4 a))) (o.rbytes (o.rneg3 (o.q3 o.cv a))))
        (cond (o.same (o.q4 a) (o.q4 b) == o.rsame (o.q3 o.cv a) (o.q3 o.cv b))
          (cond (o.same (o.padd (o.q4 a) (o.pneg (o.q4 a))) zeroX4)
            (cond (eqB (o.pbytes (o.padd (o.q4 a) zeroX4)) (o.pbytes (o.q4 a))) (yes z8l) (noo z8l))
            (noo z4l)) (noo [])) (noo [])) (noo []) := by kernel_rfl
theorem reads_x (o : GOps) (r : ROps) (b : Nat) : callX Try.prog (lookT (T31 o r)) 300 Try.f6 [keyP b] =
    cond ((o.pof b).isSome != (o.rof o.cv.d b).isSome) (noo [])
    (cond (!(o.pof b).isSome)
      (cond (eqB (o.pbytes ((o.pof b).getD X4.nil)) (o.pbytes zeroX4)) (yes z4l) (noo z4l))
      (cond (eqB (o.pbytes ((o.pof b).getD X4.nil)) b)
        (cond (eqB (o.px ((o.pof b).getD X4.nil)) (o.rflat ((o.rof o.cv.d b).getD R3.nought)).1.val)
          (cond (eqB (o.py ((o.pof b).getD X4.nil)) (o.rflat ((o.rof o.cv.d b).getD R3.nought)).2.val) (yes []) (noo []))
        (noo []))
        (noo []))) := by kernel_rfl
end Go.Proofs.Ytahkpabndfaoiaa

/- The statements: what a point read from its bytes comes to. -/
namespace Go.Proofs.Ytahkpabndfaoiaa
open Eng Go Go.RowKit Go.Proofs Ec

def xor8 (x m : Int) : Int := IntKind.wrap .u8 (BitVec.ofInt 8 x ^^^ BitVec.ofInt 8 m).toNat
def flip (n : Nat) : List Int := (List.range 31).map (dg 8 n) ++ [xor8 (dg 8 n 31) 128]
def flipB (n : Nat) : Prop := ∀ a ∈ flip n, 0 ≤ a ∧ a < 256
def ge8 (x : Int) : Bool := decide (128 ≤ x)
theorem ebytes_x (o : GOps) (r : ROps) (a : Nat) : callX Try.prog (lookT (T31 o r)) 300 Try.f8 [keyP a] =
    cond (!(o.pof (o.pbytes (o.q4 a))).isSome) (noo [])
      (cond (!o.same (o.q4 a) ((o.pof (o.pbytes (o.q4 a))).getD X4.nil)) (noo [])
        (cond (dg 8 (o.py (o.q4 a)) 31 != (dg 8 (o.pbytes (o.q4 a)) 31).tmod 128) (noo [])
          (cond (((dg 8 (o.px (o.q4 a)) 0).tmod 2 == 1) != ge8 (dg 8 (o.pbytes (o.q4 a)) 31)) (noo [])
            (cond (eqL (digI 8 (o.px (o.q4 a)) 32) (List.replicate 32 0))
              (cond (!(o.pof (numI 8 (flip (o.pbytes (o.q4 a))))).isSome) (yes [flipB (o.pbytes (o.q4 a))]) (noo [flipB (o.pbytes (o.q4 a))]))
              (cond (o.pof (numI 8 (flip (o.pbytes (o.q4 a))))).isSome
                (cond (o.same ((o.pof (numI 8 (flip (o.pbytes (o.q4 a))))).getD X4.nil) (o.pneg (o.q4 a))) (yes [flipB (o.pbytes (o.q4 a))]) (noo [flipB (o.pbytes (o.q4 a))])) (noo [flipB (o.pbytes (o.q4 a))])))))) := by kernel_rfl
end Go.Proofs.Ytahkpabndfaoiaa

/- The statements: what points of any bytes stand for. -/
namespace Go.Proofs.Ytahkpabndfaoiaa
open Eng Go Go.RowKit Go.Proofs Ec

theorem even_xy (y : Fin Ec.P) : evenOf y = xy y := by
  unfold evenOf
  rw [fops_root]
  rfl
def ofN' (n : Nat) : Option (Fin Ec.P × Fin Ec.P) := cond (!decide (n % 2 ^ 255 < Ec.P)) none (ofC (n / 2 ^ 255 % 2 == 1) (toF (n % 2 ^ 255)))
theorem cond_gen {α : Type} (c1 c2 c3 c4 : Bool) (u v y : Fin Ec.P) (f : Fin Ec.P → Fin Ec.P → α) :
    cond (!c1) none (cond (!c2) none (cond c3 (cond c4 none (some (f (cond c3 u v) y))) (some (f (cond c3 u v) y)))) =
      (cond (!c1) none (cond (!c2) none (cond c3 (cond c4 none (some (u, y))) (some (v, y))))).map (fun p => f p.1 p.2) := by
  cases c1 <;> cases c2 <;> cases c3 <;> cases c4 <;> rfl
theorem of4 (n : Nat) : ofP n = (ofN' n).map fun p => (⟨p.1, p.2, 1, p.1 * p.2⟩ : X4) := by
  unfold ofP ptOf xOf ofN' ofC
  simp only [even_xy]
  exact cond_gen _ _ _ _ _ _ _ fun x y => (⟨x, y, 1, x * y⟩ : X4)
theorem of3 (n : Nat) : rOf Ec.D n = (ofN' n).map fun p => (⟨p.1, p.2, 1⟩ : Ec.R3) := by
  have e : ∀ y, xxP Ec.D y = xy y := fun _ => rfl
  unfold rOf rxOf ofN' ofC
  simp only [e]
  exact cond_gen _ _ _ _ _ _ _ fun x y => (⟨x, y, 1⟩ : Ec.R3)
theorem split_m (m y : Nat) (hy : y < m) (c : Bool) : (y + cond c m 0) % m = y ∧ ((y + cond c m 0) / m % 2 == 1) = c := by
  have hm : 0 < m := by omega
  cases c with
  | true =>
    refine ⟨by rw [cond_true, Nat.add_mod_right, Nat.mod_eq_of_lt hy], ?_⟩
    rw [cond_true, Nat.add_div_right _ hm, Nat.div_eq_of_lt hy]
    rfl
  | false =>
    refine ⟨by rw [cond_false, Nat.add_zero, Nat.mod_eq_of_lt hy], ?_⟩
    rw [cond_false, Nat.add_zero, Nat.div_eq_of_lt hy]
    rfl
theorem toF_small {n : Nat} (h : n < Ec.P) : (toF n).val = n := Nat.mod_eq_of_lt h
theorem ofN_bytes (y : Fin Ec.P) (c : Bool) : ofN' (y.val + cond c (2 ^ 255) 0) = ofC c y := by
  have h := split_m (2 ^ 255) y.val (Nat.lt_trans y.isLt P_lt255) c
  unfold ofN'
  rw [h.1, h.2, decide_eq_true y.isLt, toF_val, Bool.not_true, cond_false]
theorem join255 (m n : Nat) : n % (m * 2) = n % m + cond (n / m % 2 == 1) m 0 := by
  rw [Nat.mod_mul]
  rcases Nat.mod_two_eq_zero_or_one (n / m) with e | e <;> rw [e]
  · rw [Nat.mul_zero]; rfl
  · rw [Nat.mul_one]; rfl
theorem join256 (n : Nat) : n % 2 ^ 256 = n % 2 ^ 255 + cond (n / 2 ^ 255 % 2 == 1) (2 ^ 255) 0 := join255 (2 ^ 255) n
/-- what is read is a point's -/
theorem ofN_some {n : Nat} {p : Fin Ec.P × Fin Ec.P} (h : ofN' n = some p) : On Ec.D p.1 p.2 ∧ xyNat p.1 p.2 = n % 2 ^ 256 := by
  unfold ofN' at h
  by_cases hn : n % 2 ^ 255 < Ec.P
  · rw [decide_eq_true hn, Bool.not_true, cond_false] at h
    obtain ⟨x, y⟩ := p
    obtain ⟨h1, h2, h3⟩ := ofC_on h
    refine ⟨h2, ?_⟩
    unfold xyNat
    show y.val + cond (x.val % 2 == 1) (2 ^ 255) 0 = _
    rw [h3, h1]
    rw [toF_small hn]
    exact (join256 n).symm
  · rw [decide_eq_false hn] at h
    cases h
theorem ofN_xy {x y : Fin Ec.P} (h : On Ec.D x y) : ofN' (xyNat x y) = some (x, y) := by
  unfold xyNat
  rw [ofN_bytes, ofC_same h]

theorem l_of (n : Nat) : lops.pof n = ofP n := rfl
theorem l_rof (d : Fin Ec.P) (n : Nat) : lops.rof d n = rOf d n := rfl
theorem l_cv : lops.cv = cvB := rfl
theorem l_mul (p : X4) (n : Nat) : lops.pmul p n = mulP p n := rfl
theorem l_base : lops.pbase = base4 := rfl
theorem l_rmul (d : Fin Ec.P) (p : Ec.R3) (n : Nat) : lops.rmul d p n = rmulP d p n := rfl
theorem cvB_d : cvB.d = Ec.D := rfl
theorem cvB_b : cvB.b = ⟨Ec.BX, Ec.BY, 1⟩ := rfl

theorem rep1 (a : Pt Ec.P Ec.D) : Rep ⟨a.x, a.y, 1, a.x * a.y⟩ a := (⟨fldP.one_ne, by show a.x = a.x * 1; grind, by show a.y = a.y * 1; grind, by show a.x * a.y = a.x * a.y * 1; grind⟩ : Rep0 ⟨a.x, a.y, 1, a.x * a.y⟩ a).rep
theorem repR1 (a : Pt Ec.P Ec.D) : RepR ⟨a.x, a.y, 1⟩ a := ⟨fldP.one_ne, by show a.x = a.x * 1; grind, by show a.y = a.y * 1; grind⟩
theorem raddP_fun : raddP Ec.D = R3.add := by funext p q; exact raddP_D p q
theorem rmulP_rep {p : Ec.R3} {a : Pt Ec.P Ec.D} (h : RepR p a) (e : Nat) : RepR (rmulP Ec.D p e) (pmul a (e % 2 ^ 256)) := by
  have := h.mul (bits256 e 256) R3.nought 0 repR_nought
  rw [numOf_top e 256 (Nat.le_refl _), top_all] at this
  unfold rmulP
  rw [raddP_fun]
  exact this
theorem any_pt (n : Nat) : ∃ a : Pt Ec.P Ec.D, Rep (p4 lops n) a ∧ RepR (p3 lops cvB n) a := by
  unfold p4 p3
  rw [l_of, cvB_d, l_rof, l_mul, l_base, l_rmul, cvB_b, of4, of3]
  cases h : ofN' n with
  | none =>
    exact ⟨_, baseP_rep n, rmulP_rep (repR1 B) n⟩
  | some p =>
    obtain ⟨h1, _⟩ := ofN_some h
    exact ⟨⟨p.1, p.2, h1⟩, rep1 ⟨p.1, p.2, h1⟩, repR1 ⟨p.1, p.2, h1⟩⟩
theorem flatR_of {p : Ec.R3} {a : Pt Ec.P Ec.D} (h : RepR p a) : flatR p = (a.x, a.y) := by
  obtain ⟨h1, h2⟩ := h.flat
  unfold flatR
  rw [h1, h2]
theorem bNum_of {p : X4} {a : Pt Ec.P Ec.D} (h : Rep p a) : bNum p = xyNat a.x a.y := by rw [bNum_eq, flat_of h]
theorem rbNum_of {p : Ec.R3} {a : Pt Ec.P Ec.D} (h : RepR p a) : rbNum p = xyNat a.x a.y := by rw [rbNum_eq, flatR_of h]
theorem eqL_self : ∀ l : List Int, eqL l l = true
  | [] => rfl
  | a :: l => by simp [eqL, eqL_self l]
theorem eqB_of {a b : Nat} (h : a = b) : eqB a b = true := by subst h; exact eqL_self _
theorem eqB_mod {a b : Nat} (h : a % 2 ^ 256 = b % 2 ^ 256) : eqB a b = true := by
  have : digI 8 a 32 = digI 8 b 32 := by
    unfold digI
    refine List.map_congr_left fun i hi => ?_
    have hi := List.mem_range.1 hi
    unfold dg
    have key : ∀ x : Nat, x / 2 ^ (8 * i) % 2 ^ 8 = x % 2 ^ 256 / 2 ^ (8 * i) % 2 ^ 8 := by
      intro x
      have e : (2 : Nat) ^ 256 = 2 ^ (8 * i) * (2 ^ 8 * 2 ^ (248 - 8 * i)) := by rw [← Nat.pow_add, ← Nat.pow_add]; congr 1; omega
      rw [e, Nat.mod_mul_right_div_self, Nat.mod_mul_right_mod]
    rw [key a, key b, h]
  unfold eqB
  rw [this]
  exact eqL_self _
end Go.Proofs.Ytahkpabndfaoiaa

/- The statements: multiples, sums, readings are as is said. -/
namespace Go.Proofs.Ytahkpabndfaoiaa
open Eng Go Go.RowKit Go.Proofs Ec

theorem g_q4 (n : Nat) : gops.q4 n = p4 lops n := rfl
theorem g_q3 (c : Cv) (n : Nat) : gops.q3 c n = p3 lops c n := rfl
theorem g_cv : gops.cv = cvB := rfl
theorem g_mul (p : X4) (n : Nat) : gops.pmul p n = mulP p n := rfl
theorem g_base : gops.pbase = base4 := rfl
theorem g_add (p q : X4) : gops.padd p q = X4.add p q := rfl
theorem g_neg (p : X4) : gops.pneg p = X4.neg p := rfl
theorem g_same (p q : X4) : gops.same p q = X4.same p q := rfl
theorem g_bytes (p : X4) : gops.pbytes p = bNum p := rfl
theorem g_px (p : X4) : gops.px p = xNum p := rfl
theorem g_py (p : X4) : gops.py p = yNum p := rfl
theorem g_of (n : Nat) : gops.pof n = ofP n := rfl
theorem g_rof (d : Fin Ec.P) (n : Nat) : gops.rof d n = rOf d n := rfl
theorem g_rmul (d : Fin Ec.P) (p : Ec.R3) (n : Nat) : gops.rmul d p n = rmulP d p n := rfl
theorem g_rbytes (p : Ec.R3) : gops.rbytes p = rbNum p := rfl
theorem g_radd (d : Fin Ec.P) (p q : Ec.R3) : gops.radd3 d p q = raddP d p q := rfl
theorem g_rneg (p : Ec.R3) : gops.rneg3 p = R3.neg p := rfl
theorem g_rsame (p q : Ec.R3) : gops.rsame p q = R3.same p q := rfl
theorem g_rflat (p : Ec.R3) : gops.rflat p = flatR p := rfl
theorem baseR_rep (e : Nat) : RepR (rmulP Ec.D cvB.b e) (pmul B (e % 2 ^ 256)) := rmulP_rep (repR1 B) e

def truth : SV := .pv (bo true)
theorem meets_yes {x : Option (SV × List Prop)} {l : List Prop} (h : x = yes l) (hl : AllP l) : Meets x truth := ⟨_, _, .bool true, h, hl, rfl, rfl⟩
theorem z4_ok : AllP z4l := ⟨zeroOb_ok, zeroOb_ok, zeroOb_ok, zeroOb_ok, trivial⟩
theorem z8_ok : AllP z8l := ⟨zeroOb_ok, zeroOb_ok, zeroOb_ok, zeroOb_ok, zeroOb_ok, zeroOb_ok, zeroOb_ok, zeroOb_ok, trivial⟩

theorem muls_m (a k : Nat) : Meets (callX Try.prog (lookT (T31 gops rops)) 300 Try.f4 [keyP a, keyP k]) truth := by
  have h := muls_x gops rops a k
  simp only [g_q4, g_q3, g_cv, g_mul, g_base, g_bytes, g_rmul, g_rbytes, cvB_d] at h
  obtain ⟨c, h4, h3⟩ := any_pt a
  rw [eqB_of (show bNum (mulP (p4 lops a) k) = rbNum (rmulP Ec.D (p3 lops cvB a) k) from (bNum_of (mulP_rep h4 k)).trans (rbNum_of (rmulP_rep h3 k)).symm),
    eqB_of (show bNum (mulP base4 k) = rbNum (rmulP Ec.D cvB.b k) from (bNum_of (baseP_rep k)).trans (rbNum_of (baseR_rep k)).symm)] at h
  exact meets_yes h trivial

theorem xy_of {a b : Pt Ec.P Ec.D} (h : a = b) : xyNat a.x a.y = xyNat b.x b.y := by rw [h]
theorem adds_m (a b : Nat) : Meets (callX Try.prog (lookT (T31 gops rops)) 300 Try.f7 [keyP a, keyP b]) truth := by
  have h := adds_x gops rops a b
  simp only [g_q4, g_q3, g_cv, g_add, g_neg, g_same, g_bytes, g_radd, g_rneg, g_rsame, g_rbytes, cvB_d, raddP_D] at h
  obtain ⟨c, h4, h3⟩ := any_pt a
  obtain ⟨d, k4, k3⟩ := any_pt b
  generalize p4 lops a = p at *
  generalize p4 lops b = q at *
  generalize p3 lops cvB a = v at *
  generalize p3 lops cvB b = w at *
  rw [eqB_of ((bNum_of (h4.add k4)).trans (rbNum_of (h3.add k3)).symm), eqB_of ((bNum_of h4.neg).trans (rbNum_of h3.neg).symm), h4.same k4, h3.same k3, beq_self_eq_true,
    same_of (h4.add h4.neg) zero_rep (curP.add_neg c), eqB_of ((bNum_of (h4.add zero_rep)).trans ((xy_of (curP.add_zero c)).trans (bNum_of h4).symm))] at h
  exact meets_yes h z8_ok

theorem mod_of {a b m : Nat} (h : a = b % m) : a % m = b % m := by rw [h, Nat.mod_mod]
theorem eqB_mod' {a b : Nat} (h : a = b % 2 ^ 256) : eqB a b = true := eqB_mod (mod_of h)
theorem reads_m (b : Nat) : Meets (callX Try.prog (lookT (T31 gops rops)) 300 Try.f6 [keyP b]) truth := by
  have h := reads_x gops rops b
  simp only [g_of, g_rof, g_cv, g_bytes, g_px, g_py, g_rflat, cvB_d, of4, of3] at h
  cases hn : ofN' b with
  | none =>
    rw [hn] at h
    simp only [Option.map_none, Option.isSome_none, bne_self_eq_false, cond_false, Bool.not_false, cond_true, Option.getD_none] at h
    rw [← zeroX4_is, eqB_of rfl] at h
    exact meets_yes h z4_ok
  | some p =>
    rw [hn] at h
    simp only [Option.map_some, Option.isSome_some, bne_self_eq_false, cond_false, Bool.not_true, Option.getD_some] at h
    obtain ⟨h1, h2⟩ := ofN_some hn
    have r4 := rep1 ⟨p.1, p.2, h1⟩
    have r3 := repR1 ⟨p.1, p.2, h1⟩
    have e1 : bNum ⟨p.1, p.2, 1, p.1 * p.2⟩ = b % 2 ^ 256 := (bNum_of r4).trans h2
    have e2 : xNum ⟨p.1, p.2, 1, p.1 * p.2⟩ = p.1.val := by rw [xNum_eq, flat_of r4]
    have e3 : yNum ⟨p.1, p.2, 1, p.1 * p.2⟩ = p.2.val := by rw [yNum_eq, flat_of r4]
    have e4 : flatR ⟨p.1, p.2, 1⟩ = (p.1, p.2) := flatR_of r3
    rw [eqB_mod' e1, e2, e3, e4, eqB_of rfl, eqB_of rfl] at h
    exact meets_yes h trivial
end Go.Proofs.Ytahkpabndfaoiaa

/- The statements: multiples, sums, readings: what their calls come to. -/
namespace Go.Proofs.Ytahkpabndfaoiaa
open Eng Go Go.RowKit Go.Proofs Ec

theorem truth_v {v : Value} (h : truth.val? = some v) : v = .bool true := (Option.some.inj h).symm
theorem edwardsMuls_calls (k0 : Nat) (k1 : Nat) (w : World) : Calls Try.prog 4 #[keyV k0, keyV k1] w fun e w' => e = .returned (.bool true) ∧ Below w.heap.size w w' := by
  obtain ⟨sv', ob, v, h1, h2, h3, h4⟩ := muls_m k0 k1
  cases truth_v h4
  exact calls_of_exec T31_ok mixed Try.func4 (ps := [keyP k0, keyP k1]) (vals := [keyV k0, keyV k1]) rfl (by kernel_rfl) h1 h2 h3 w
theorem edwardsAdds_calls (k0 : Nat) (k1 : Nat) (w : World) : Calls Try.prog 7 #[keyV k0, keyV k1] w fun e w' => e = .returned (.bool true) ∧ Below w.heap.size w w' := by
  obtain ⟨sv', ob, v, h1, h2, h3, h4⟩ := adds_m k0 k1
  cases truth_v h4
  exact calls_of_exec T31_ok mixed Try.func7 (ps := [keyP k0, keyP k1]) (vals := [keyV k0, keyV k1]) rfl (by kernel_rfl) h1 h2 h3 w
theorem edwardsReads_calls (k0 : Nat) (w : World) : Calls Try.prog 6 #[keyV k0] w fun e w' => e = .returned (.bool true) ∧ Below w.heap.size w w' := by
  obtain ⟨sv', ob, v, h1, h2, h3, h4⟩ := reads_m k0
  cases truth_v h4
  exact calls_of_exec T31_ok mixed Try.func6 (ps := [keyP k0]) (vals := [keyV k0]) rfl (by kernel_rfl) h1 h2 h3 w
end Go.Proofs.Ytahkpabndfaoiaa
