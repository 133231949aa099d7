/-
What is known of the functions of points: bytes, reading, the base, multiples.
-/
import Derived.Test.YtahkpabndfaoiaaG4
import Derived.Test.YtahkpabndfaoiaaM6
namespace Eng
open Go

theorem and8_spec (m : Nat) (h : m < 256) : IntKind.wrap .u8 (BitVec.ofInt 8 (m : Int) &&& BitVec.ofInt 8 127).toNat = ((m % 128 : Nat) : Int) := by
  have : (BitVec.ofInt 8 (m : Int) &&& BitVec.ofInt 8 127).toNat = m % 128 := by
    rw [BitVec.toNat_and]
    have h1 : (BitVec.ofInt 8 (m : Int)).toNat = m := by rw [BitVec.ofInt_natCast, BitVec.toNat_ofNat, Nat.mod_eq_of_lt h]
    rw [h1]
    exact Nat.and_two_pow_sub_one_eq_mod m 7
  rw [this]
  have hm : m % 128 < 256 := Nat.lt_of_lt_of_le (Nat.mod_lt _ (by decide)) (by decide)
  show ((m % 128 : Nat) : Int).emod 256 = _
  exact Int.emod_eq_of_lt (Int.natCast_nonneg _) (by omega)
theorem or8_spec (m : Nat) (h : m < 128) : IntKind.wrap .u8 (BitVec.ofInt 8 (m : Int) ||| BitVec.ofInt 8 128).toNat = ((m + 128 : Nat) : Int) := by
  have : (BitVec.ofInt 8 (m : Int) ||| BitVec.ofInt 8 128).toNat = m + 128 := by
    rw [BitVec.toNat_or]
    have h1 : (BitVec.ofInt 8 (m : Int)).toNat = m := by rw [BitVec.ofInt_natCast, BitVec.toNat_ofNat, Nat.mod_eq_of_lt (by omega)]
    rw [h1, Nat.or_comm]
    have := Nat.two_pow_add_eq_or_of_lt (i := 7) (b := m) (by omega) 1
    have e : 2 ^ 7 * 1 = 128 := rfl
    rw [e] at this
    show 128 ||| m = _
    omega
  rw [this]
  show ((m + 128 : Nat) : Int).emod 256 = _
  exact Int.emod_eq_of_lt (Int.natCast_nonneg _) (by omega)

theorem numI_app (w : Nat) (l m : List Int) : numI w (l ++ m) = numI w l + 2 ^ (w * l.length) * numI w m := by
  induction l with
  | nil => simp [numI]
  | cons a l ih =>
    simp only [List.cons_append, numI, ih, List.length_cons]
    rw [show w * (l.length + 1) = w + w * l.length by rw [Nat.mul_add, Nat.mul_one, Nat.add_comm], Nat.pow_add, Nat.mul_add, Nat.mul_assoc, Nat.add_assoc]

theorem often_snoc {α : Type} (add : α → α → α) (p : α) (b : Bool) : ∀ (l : List Bool) (r : α), Ec.often add p (l ++ [b]) r = cond b (add (add (Ec.often add p l r) (Ec.often add p l r)) p) (add (Ec.often add p l r) (Ec.often add p l r))
  | [], r => by cases b <;> rfl
  | false :: l, r => often_snoc add p b l _
  | true :: l, r => often_snoc add p b l _
theorem numOf_snoc (b : Bool) : ∀ (l : List Bool) (m : Nat), Ec.numOf (l ++ [b]) m = 2 * Ec.numOf l m + b.toNat
  | [], m => by cases b <;> rfl
  | false :: l, m => numOf_snoc b l _
  | true :: l, m => numOf_snoc b l _

/-- a number's bits, the highest of 256 first -/
def bits256 (e i : Nat) : List Bool := (List.range i).map (bitAt e)
theorem bits_succ (e i : Nat) : bits256 e (i + 1) = bits256 e i ++ [bitAt e i] := by simp [bits256, List.range_succ]
theorem numOf_top (e : Nat) : ∀ i, i ≤ 256 → Ec.numOf (bits256 e i) 0 = top e i
  | 0, _ => by rw [top_zero]; rfl
  | i + 1, h => by rw [bits_succ, numOf_snoc, numOf_top e i (by omega), top_succ e i (by omega)]

end Eng
namespace Go.Proofs.Ytahkpabndfaoiaa
open Eng Go Go.RowKit Go.Proofs Ec

theorem exp_33 : expN 3 3 % 2 ^ 256 = M8 + 1 := by decide +kernel
theorem exp_12 : expN (-1) 2 % 2 ^ 256 = 2 * M8 + 1 := by decide +kernel
theorem two_toF : toF ((2 : Int).toNat) = 2 := rfl
theorem fQ (u v : Fin Ec.P) : fops.rootQ u v = rootR M8 u v := congrArg (fun k => (u * inv v) ^ k) exp_33
theorem fS : fops.pow (fops.small 2) (expN (-1) 2) = rootS M8 := by
  have : fops.small 2 = 2 := two_toF
  rw [this]
  exact congrArg (fun k => (2 : Fin Ec.P) ^ k) exp_12
theorem fX (u v : Fin Ec.P) : fops.rootX u v = rootR M8 u v * rootS M8 := by
  unfold FOps.rootX
  rw [fQ, fS]
  exact wmul _ _
theorem fI (u v x : Fin Ec.P) : fops.isR u v x = Ec.isR u v x := rfl
theorem fE (x : Fin Ec.P) : fops.even x = evenI x := rfl
theorem zero_toF : toF 0 = 0 := rfl
theorem fops_root (u v : Fin Ec.P) : fops.root u v = rootP u v := by
  unfold FOps.root rootP root
  simp only [fI, fE, fQ, fX, zero_toF]

theorem five_ne : (5 : Fin Ec.P) ≠ 0 := by decide +kernel
theorem four_toF : toF ((4 : Int).toNat) = 4 := rfl
theorem five_toF : toF ((5 : Int).toNat) = 5 := rfl
theorem nought_toF : toF ((0 : Int).toNat) = 0 := rfl
theorem asmall (n : Int) : aops.small n = toF n.toNat := rfl
theorem amul (x y : Fin Ec.P) : aops.mul x y = x * y := rfl
theorem ainv (x : Fin Ec.P) : aops.inv x = Ec.inv x := rfl
theorem aflat (p : X4) : aops.flat p = flatOf p := rfl
theorem anum (x : Fin Ec.P) : aops.num x = x.val := rfl
theorem aodd (x : Fin Ec.P) : aops.odd x = (x.val % 2 == 1) := rfl
theorem aevn (y : Fin Ec.P) : aops.evn y = evenOf y := by dsimp only [aops]
theorem aneg (x : Fin Ec.P) : aops.neg x = -x := rfl
theorem aeq (x y : Fin Ec.P) : aops.eq x y = decide (x = y) := rfl
theorem asel (x y : Fin Ec.P) (s : Bool) : aops.sel x y s = cond s y x := rfl
theorem aptt (x y : Fin Ec.P) : aops.ptt x y = fops.pt x y := rfl
theorem fpt (x y : Fin Ec.P) : fops.pt x y = ⟨x, y, 1, x * y⟩ := by
  unfold FOps.pt
  have h1 : fops.small 1 = 1 := one_toF
  have h2 : fops.mul x y = x * y := wmul _ _
  rw [h1, h2]
theorem base_y : aops.mul (aops.small 4) (aops.inv (aops.small 5)) = BY := by
  rw [asmall, asmall, four_toF, five_toF, amul, ainv, ← BY_is]
  have := fldP.mul_inv five_ne
  grind
theorem bv_ne : D * (BY * BY) + 1 ≠ 0 := by decide +kernel
theorem b_sq : (D * (BY * BY) + 1) * (BX * BX) = BY * BY - 1 := by decide +kernel
theorem b_even : evenI BX = BX := by decide +kernel
theorem base_even : evenOf BY = (BX, true) := by
  unfold evenOf
  rw [fops_root, rootP_of bv_ne b_sq, b_even]

theorem w4 : Fw.W 4 := Fw.W_lit (by decide) (by decide)
theorem w5 : Fw.W 5 := Fw.W_lit (by decide) (by decide)
theorem pt_base : fops.pt BX BY = base4 := by
  rw [fpt]
  unfold base4
  rfl
theorem base_ok : SpecOK Try.prog 43 (spec0 (.pv (ptP base4))) :=
  spec0_ok (n := 2000) Try.func43 (by decide +kernel) (by kernel_rfl) T7_ok mixed ⟨_, _, _, base_x aops, ⟨w4, w5, trivial⟩, ptP_val _, by
    rw [base_y, aevn, base_even, aptt, pt_base]
    exact ptP_val _⟩

/-- the bytes of an x and a y, as a number -/
def xyNat (x y : Fin Ec.P) : Nat := y.val + cond (x.val % 2 == 1) (2 ^ 255) 0
theorem P_lt255 : Ec.P < 2 ^ 255 := by decide +kernel
theorem top_bytes (y : Nat) (h : y < 2 ^ 255) : (List.range 31).map (dg 8 y) ++ [or8 (dg 8 y 31) 128] = digI 8 (y + 2 ^ 255) 32 := by
  unfold digI
  rw [show List.range 32 = List.range 31 ++ [31] from rfl, List.map_append]
  congr 1
  · refine List.map_congr_left fun i hi => ?_
    have hi := List.mem_range.1 hi
    unfold dg
    have h2 : 2 ^ 255 = 2 ^ (8 * i) * (2 ^ 8 * 2 ^ (247 - 8 * i)) := by rw [← Nat.pow_add, ← Nat.pow_add]; congr 1; omega
    have : (y + 2 ^ 255) / 2 ^ (8 * i) % 2 ^ 8 = y / 2 ^ (8 * i) % 2 ^ 8 := by
      rw [h2, Nat.add_mul_div_left _ _ (Nat.two_pow_pos _), Nat.add_mul_mod_self_left]
    rw [this]
  · have h0 : y / 2 ^ 248 < 128 := Nat.div_lt_of_lt_mul (by rw [show 2 ^ 248 * 128 = 2 ^ 255 by decide]; exact h)
    have h1 : dg 8 y 31 = ((y / 2 ^ 248 : Nat) : Int) := by
      unfold dg
      show ((y / 2 ^ 248 % 256 : Nat) : Int) = _
      rw [Nat.mod_eq_of_lt (by omega)]
    have h2 : dg 8 (y + 2 ^ 255) 31 = ((y / 2 ^ 248 + 128 : Nat) : Int) := by
      unfold dg
      show (((y + 2 ^ 255) / 2 ^ 248 % 256 : Nat) : Int) = _
      rw [show (2 : Nat) ^ 255 = 2 ^ 248 * 128 by decide, Nat.add_mul_div_left _ _ (Nat.two_pow_pos _), Nat.mod_eq_of_lt (by omega)]
    have h3 : or8 (dg 8 y 31) 128 = ((y / 2 ^ 248 + 128 : Nat) : Int) := by rw [h1]; exact or8_spec _ h0
    rw [h3, List.map_cons, List.map_nil, h2]
theorem ptb_val (y : Nat) : (PV.agg ((List.range 31).map (fun i => Cell.dg1 .u8 8 y i) ++ [.val (.int .u8 (or8 (dg 8 y 31) 128))])).val? = some (intsV .u8 ((List.range 31).map (dg 8 y) ++ [or8 (dg 8 y 31) 128])) := by kernel_rfl
theorem ptb_val1 (y : Nat) (h : y < 2 ^ 255) : (SV.pv (.agg ((List.range 31).map (fun i => Cell.dg1 .u8 8 y i) ++ [.val (.int .u8 (or8 (dg 8 y 31) 128))]))).val? = some (keyV (y + 2 ^ 255)) := by
  have := ptb_val y
  rw [top_bytes _ h] at this
  unfold keyV
  exact this
theorem xy_odd (x y : Fin Ec.P) (h : (x.val % 2 == 1) = true) : xyNat x y = y.val + 2 ^ 255 := by unfold xyNat; rw [h, cond_true]
theorem xy_even (x y : Fin Ec.P) (h : (x.val % 2 == 1) = false) : xyNat x y = y.val := by unfold xyNat; rw [h, cond_false, Nat.add_zero]
theorem keyS_val (n : Nat) : (SV.pv (keyP n)).val? = some (keyV n) := rfl
theorem ptbytes_m (p : X4) : Meets (callX Try.prog (lookT (T7 aops)) 2000 Try.f19 [ptP p]) (.pv (keyP (xyNat (flatOf p).1 (flatOf p).2))) := by
  have h := ptbytes_x aops p
  rw [aflat, anum, aodd] at h
  cases hc : ((flatOf p).1.val % 2 == 1) with
  | true =>
      rw [hc, cond_true] at h
      have hy : (flatOf p).2.val < 2 ^ 255 := Nat.lt_trans (flatOf p).2.isLt P_lt255
      rw [xy_odd _ _ hc]
      have hv := ptb_val1 _ hy
      have hk := keyS_val ((flatOf p).2.val + 2 ^ 255)
      exact ⟨_, _, _, h, trivial, hv, hk⟩
  | false =>
      rw [hc, cond_false] at h
      rw [xy_even _ _ hc]
      exact Meets.of h trivial (keyS_val _)
/-- the point that a number's bytes say -/
def xOf (n : Nat) : Fin Ec.P := cond (n / 2 ^ 255 % 2 == 1) (-(evenOf (toF (n % 2 ^ 255))).1) (evenOf (toF (n % 2 ^ 255))).1
def ptOf (n : Nat) : X4 := ⟨xOf n, toF (n % 2 ^ 255), 1, xOf n * toF (n % 2 ^ 255)⟩
def ofP (n : Nat) : Option X4 :=
  cond (!decide (n % 2 ^ 255 < Ec.P)) none (cond (!(evenOf (toF (n % 2 ^ 255))).2) none (cond (n / 2 ^ 255 % 2 == 1) (cond (decide ((evenOf (toF (n % 2 ^ 255))).1 = 0)) none (some (ptOf n))) (some (ptOf n))))
def optP (p : Option X4) : List PV := [ptP (p.getD X4.nil), bo p.isSome]
def specPO : FnSpec := spec1 dK fun n => (.tup (optP (ofP n)), [])

theorem low7_num (n : Nat) : numI 8 (low7 n) = n % 2 ^ 255 := by
  unfold low7
  rw [numI_app]
  have h1 : numI 8 ((List.range 31).map (dg 8 n)) = n % 2 ^ 248 := numI_digI 8 31 n
  have h2 : and8 (dg 8 n 31) 127 = ((n / 2 ^ 248 % 256 % 128 : Nat) : Int) := and8_spec _ (Nat.mod_lt _ (by decide))
  rw [h1, h2]
  simp only [numI, Int.toNat_natCast, List.length_map, List.length_range, Nat.mul_zero, Nat.add_zero]
  rw [Nat.mod_mod_of_dvd _ (by decide : 128 ∣ 256), show (2 : Nat) ^ 255 = 2 ^ 248 * 128 by decide, Nat.mod_mul]
theorem low7_ok (n : Nat) : ∀ a ∈ low7 n, 0 ≤ a ∧ a < 256 := by
  intro a ha
  unfold low7 at ha
  rcases List.mem_append.1 ha with h | h
  · obtain ⟨i, _, rfl⟩ := List.mem_map.1 h
    exact dg_nn 8 _ _
  · have h2 : and8 (dg 8 n 31) 127 = ((n / 2 ^ 248 % 256 % 128 : Nat) : Int) := and8_spec _ (Nat.mod_lt _ (by decide))
    have : a = ((n / 2 ^ 248 % 256 % 128 : Nat) : Int) := by rw [← h2]; simpa using h
    subst this
    have : n / 2 ^ 248 % 256 % 128 < 128 := Nat.mod_lt _ (by decide)
    omega
theorem high_bit (n : Nat) : (shr8 (dg 8 n 31) 7 == 1) = (n / 2 ^ 255 % 2 == 1) := by
  unfold shr8 dg
  have e1 : (((n / 2 ^ (8 * 31) % 2 ^ 8 : Nat) : Int)).fdiv (2 ^ (min (7 : Int).toNat 8)) = ((n / 2 ^ 248 % 256 / 128 : Nat) : Int) := by
    rw [Int.fdiv_eq_ediv_of_nonneg _ (by decide)]
    rfl
  rw [e1]
  have e2 : n / 2 ^ 255 = n / 2 ^ 248 / 128 := by rw [Nat.div_div_eq_div_mul]
  rw [e2, Bool.eq_iff_iff]
  simp only [beq_iff_eq]
  omega
theorem nil_val : pvVals [nilP, bo false] = pvVals (optP none) := by kernel_rfl
theorem opt_val (p : Option X4) : pvVals (optP p) = some [ptV (p.getD X4.nil), .bool p.isSome] := rfl

theorem mod255 (n : Nat) : n % 2 ^ 255 < 2 ^ 255 := Nat.mod_lt _ (Nat.two_pow_pos _)
theorem acanon (n : Nat) : aops.canon n = decide (n % 2 ^ 256 < Ec.P) := rfl
theorem aof (n : Nat) : aops.of n = toF (n % 57896044618658097711785492504343953926634992332820282019728792003956564819968) := rfl
theorem mod_256 {n : Nat} (h : n < 2 ^ 255) : n % 2 ^ 256 = n := Nat.mod_eq_of_lt (Nat.lt_trans h (by decide))
theorem mod_255 {n : Nat} (h : n < 2 ^ 255) : n % 57896044618658097711785492504343953926634992332820282019728792003956564819968 = n := Nat.mod_eq_of_lt h
theorem nilT_val : (SV.tup [nilP, bo false]).val? = (SV.tup (optP none)).val? := by simp only [SV.val?, nil_val]
theorem optT_val (p : Option X4) : (SV.tup (optP p)).val? = some (.tuple #[ptV (p.getD X4.nil), .bool p.isSome]) := rfl
theorem someT (p : X4) : (SV.tup [ptP p, bo true]) = SV.tup (optP (some p)) := rfl
theorem meets_opt {x : Option (SV × List Prop)} {ob : List Prop} {p : Option X4} (h : x = some (.tup (optP p), ob)) (ho : AllP ob) : Meets x (.tup (optP p)) := ⟨_, _, _, h, ho, optT_val p, optT_val p⟩
theorem ptof_gen {x : Option (SV × List Prop)} {B C : Prop} (c1 c2 c3 c4 : Bool) (p : X4) (hB : B) (hC : C) (h : x = cond (!c1) (some (.tup [nilP, bo false], [B])) (cond (!c2) (some (.tup [nilP, bo false], [B, B])) (cond c3 (cond c4 (some (.tup [nilP, bo false], [C, B, B])) (some (.tup [ptP p, bo true], [C, B, B]))) (some (.tup [ptP p, bo true], [B, B]))))) :
    Meets x (.tup (optP (cond (!c1) none (cond (!c2) none (cond c3 (cond c4 none (some p)) (some p)))))) := by
  cases c1 with
  | false => exact ⟨_, _, _, h, ⟨hB, trivial⟩, nilT_val.trans (optT_val none), optT_val none⟩
  | true =>
    cases c2 with
    | false => exact ⟨_, _, _, h, ⟨hB, hB, trivial⟩, nilT_val.trans (optT_val none), optT_val none⟩
    | true =>
      cases c3 with
      | true =>
        cases c4 with
        | true => exact ⟨_, _, _, h, ⟨hC, hB, hB, trivial⟩, nilT_val.trans (optT_val none), optT_val none⟩
        | false => exact meets_opt (p := some p) h ⟨hC, hB, hB, trivial⟩
      | false => exact meets_opt (p := some p) h ⟨hB, hB, trivial⟩
theorem ptof_m (n : Nat) : Meets (callX Try.prog (lookT (T7 aops)) 2000 Try.f23 [keyP n]) (.tup (optP (ofP n))) := by
  have h := ptof_x aops n
  simp only [low7_num, high_bit, acanon, aof, mod_256 (mod255 n), mod_255 (mod255 n), aevn, aneg, aeq, asmall, nought_toF, asel, aptt, fpt] at h
  exact ptof_gen _ _ _ _ _ (low7_ok n) w0 h
theorem ptof_ok : SpecOK Try.prog 23 specPO :=
  spec1_ok Try.func23 (by decide +kernel) (by kernel_rfl) T7_ok mixed (by kernel_rfl) fun n _ => ptof_m n

end Go.Proofs.Ytahkpabndfaoiaa
