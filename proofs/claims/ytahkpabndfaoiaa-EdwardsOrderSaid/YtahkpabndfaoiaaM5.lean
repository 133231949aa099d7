/-
Points as four numbers, and as three: what their sums, opposites and multiples stand for.
-/
import Derived.Test.YtahkpabndfaoiaaM4
namespace Ec

/-- doubled, and added where a bit is set: bits, the highest first -/
def often {α : Type} (add : α → α → α) (p : α) : List Bool → α → α
  | [], r => r
  | false :: bs, r => often add p bs (add r r)
  | true :: bs, r => often add p bs (add (add r r) p)

/-- the number that bits say, the highest first -/
def numOf : List Bool → Nat → Nat
  | [], n => n
  | false :: bs, n => numOf bs (2 * n)
  | true :: bs, n => numOf bs (2 * n + 1)

theorem often_rel {α β : Type} {add : α → α → α} {mul : Nat → β} {R : α → β → Prop} {p : α} (h2 : ∀ r n, R r (mul n) → R (add r r) (mul (2 * n)))
    (h1 : ∀ r n, R r (mul n) → R (add r p) (mul (n + 1))) : ∀ (bs : List Bool) (r : α) (n : Nat), R r (mul n) → R (often add p bs r) (mul (numOf bs n)) := by
  intro bs
  induction bs with
  | nil => exact fun _ _ h => h
  | cons b bs ih =>
    intro r n hr
    cases b
    · exact ih _ _ (h2 _ _ hr)
    · exact ih _ _ (h1 _ _ (h2 _ _ hr))

/-- four numbers: x / z, y / z, and t = x y / z -/
structure X4 where
  x : Fin P
  y : Fin P
  z : Fin P
  t : Fin P
  deriving DecidableEq

/-- three numbers: x / z, y / z -/
structure R3 where
  x : Fin P
  y : Fin P
  z : Fin P
  deriving DecidableEq

def X4.nil : X4 := ⟨0, 0, 0, 0⟩
def X4.nought : X4 := ⟨0, 1, 1, 0⟩
def X4.whole (p : X4) : X4 := if p = X4.nil then X4.nought else p

/-- the sum of two that are whole -/
def X4.add0 (p q : X4) : X4 :=
  let a := (p.y - p.x) * (q.y - q.x)
  let b := (p.y + p.x) * (q.y + q.x)
  let c := p.t * q.t * D
  let c := c + c
  let d := p.z * q.z
  let d := d + d
  let e := b - a
  let f := d - c
  let g := d + c
  let h := b + a
  ⟨e * f, g * h, f * g, e * h⟩
def X4.add (p q : X4) : X4 := X4.add0 p.whole q.whole
def X4.neg (p : X4) : X4 := ⟨-p.whole.x, p.whole.y, p.whole.z, -p.whole.t⟩
def X4.mulBits (p : X4) (l : List Bool) (r : X4) : X4 := often X4.add p l r
def X4.same (p q : X4) : Bool := decide (p.whole.x * q.whole.z = q.whole.x * p.whole.z) && decide (p.whole.y * q.whole.z = q.whole.y * p.whole.z)

def R3.nought : R3 := ⟨0, 1, 1⟩
def R3.add (p q : R3) : R3 :=
  let z := p.z * q.z
  let xw := p.x * q.y
  let zy := q.x * p.y
  let yw := p.y * q.y
  let xz := p.x * q.x
  let zz := z * z
  let d := D * (xw * zy)
  let up := zz + d
  let down := zz - d
  ⟨(xw + zy) * z * down, (yw + xz) * z * up, up * down⟩
def R3.neg (p : R3) : R3 := ⟨-p.x, p.y, p.z⟩
def R3.mulBits (p : R3) (l : List Bool) (r : R3) : R3 := often R3.add p l r
def R3.same (p q : R3) : Bool := decide (p.x * q.z = q.x * p.z) && decide (p.y * q.z = q.y * p.z)

/-- four numbers that are whole stand for a point -/
structure Rep0 (p : X4) (a : Pt P D) : Prop where
  z : p.z ≠ 0
  x : p.x = a.x * p.z
  y : p.y = a.y * p.z
  t : p.t = a.x * a.y * p.z
def Rep (p : X4) (a : Pt P D) : Prop := Rep0 p.whole a
structure RepR (p : R3) (a : Pt P D) : Prop where
  z : p.z ≠ 0
  x : p.x = a.x * p.z
  y : p.y = a.y * p.z

theorem whole_of {p : X4} (h : p.z ≠ 0) : p.whole = p := by
  unfold X4.whole
  rw [if_neg]
  intro e
  rw [e] at h
  exact h rfl

theorem Rep0.rep {p : X4} {a : Pt P D} (h : Rep0 p a) : Rep p a := by
  unfold Rep
  rw [whole_of h.z]
  exact h

theorem rep_nil : Rep X4.nil Cur.zero := by
  have e : X4.nil.whole = X4.nought := by decide +kernel
  unfold Rep
  rw [e]
  exact ⟨by decide +kernel, by decide +kernel, by decide +kernel, by decide +kernel⟩
theorem rep_nought : Rep X4.nought Cur.zero := (⟨by decide +kernel, by decide +kernel, by decide +kernel, by decide +kernel⟩ : Rep0 X4.nought Cur.zero).rep
theorem repR_nought : RepR R3.nought Cur.zero := ⟨by decide +kernel, by decide +kernel, by decide +kernel⟩

abbrev padd (a b : Pt P D) : Pt P D := curP.add a b
abbrev pmul (a : Pt P D) (k : Nat) : Pt P D := curP.mul a k

section
variable {n : Nat} [NeZero n]
theorem r1 (c u v z : Fin n) : 2 * (c * u) * z * (2 * v * z) = c * (2 * v * z * (2 * u * z)) := by grind
theorem r2 (c u v z : Fin n) : 2 * u * z * (2 * (c * v) * z) = c * (2 * v * z * (2 * u * z)) := by grind
theorem r3 (c e u v z : Fin n) : 2 * (c * u) * z * (2 * (e * v) * z) = c * e * (2 * v * z * (2 * u * z)) := by grind
theorem r4 (c u v z : Fin n) : c * u * z * z * (v * (z * z)) = c * (u * (z * z) * (v * (z * z))) := by grind
theorem r5 (c u v z : Fin n) : c * v * z * z * (u * (z * z)) = c * (u * (z * z) * (v * (z * z))) := by grind
theorem r6 (ax ay bx b_y pz qz : Fin n) : (ay * pz + ax * pz) * (b_y * qz + bx * qz) - (ay * pz - ax * pz) * (b_y * qz - bx * qz) = 2 * (ax * b_y + bx * ay) * (pz * qz) := by grind
theorem r7 (ax ay bx b_y pz qz : Fin n) : (ay * pz + ax * pz) * (b_y * qz + bx * qz) + (ay * pz - ax * pz) * (b_y * qz - bx * qz) = 2 * (ay * b_y + ax * bx) * (pz * qz) := by grind
theorem r8 (d ax ay bx b_y pz qz : Fin n) : pz * qz + pz * qz + (ax * ay * pz * (bx * b_y * qz) * d + ax * ay * pz * (bx * b_y * qz) * d) = 2 * (1 + d * ax * bx * ay * b_y) * (pz * qz) := by grind
theorem r9 (d ax ay bx b_y pz qz : Fin n) : pz * qz + pz * qz - (ax * ay * pz * (bx * b_y * qz) * d + ax * ay * pz * (bx * b_y * qz) * d) = 2 * (1 - d * ax * bx * ay * b_y) * (pz * qz) := by grind
theorem r10 (u v w : Fin n) (h : u * v = 1) : w * v * u = w := by grind
theorem r11 (d ax ay bx b_y pz qz : Fin n) : (pz * qz) * (pz * qz) + d * ((ax * pz * (b_y * qz)) * (bx * qz * (ay * pz))) = (1 + d * ax * bx * ay * b_y) * ((pz * qz) * (pz * qz)) := by grind
theorem r12 (d ax ay bx b_y pz qz : Fin n) : (pz * qz) * (pz * qz) - d * ((ax * pz * (b_y * qz)) * (bx * qz * (ay * pz))) = (1 - d * ax * bx * ay * b_y) * ((pz * qz) * (pz * qz)) := by grind
theorem r13 (ax ay bx b_y pz qz : Fin n) : ax * pz * (b_y * qz) + bx * qz * (ay * pz) = (ax * b_y + bx * ay) * (pz * qz) := by grind
theorem r14 (ax ay bx b_y pz qz : Fin n) : ay * pz * (b_y * qz) + ax * pz * (bx * qz) = (ay * b_y + ax * bx) * (pz * qz) := by grind
end

theorem padd_x (a b : Pt P D) : (padd a b).x * (1 + D * a.x * b.x * a.y * b.y) = a.x * b.y + b.x * a.y :=
  r10 _ _ _ (fldP.mul_inv (curP.den1 a.on b.on))
theorem padd_y (a b : Pt P D) : (padd a b).y * (1 - D * a.x * b.x * a.y * b.y) = a.y * b.y + a.x * b.x :=
  r10 _ _ _ (fldP.mul_inv (curP.den2 a.on b.on))

theorem Rep0.add {p q : X4} {a b : Pt P D} (hp : Rep0 p a) (hq : Rep0 q b) : Rep0 (X4.add0 p q) (padd a b) := by
  have d1 := curP.den1 a.on b.on
  have d2 := curP.den2 a.on b.on
  have ax := padd_x a b
  have ay := padd_y a b
  obtain ⟨hz, hx, hy, ht⟩ := hp
  obtain ⟨gz, gx, gy, gt⟩ := hq
  have tn := fldP.two_ne
  have zz := fldP.mul_ne hz gz
  have nf := fldP.mul_ne (fldP.mul_ne tn d2) zz
  have ng := fldP.mul_ne (fldP.mul_ne tn d1) zz
  have he : (p.y + p.x) * (q.y + q.x) - (p.y - p.x) * (q.y - q.x) = 2 * (a.x * b.y + b.x * a.y) * (p.z * q.z) := by rw [hx, hy, gx, gy]; exact r6 _ _ _ _ _ _
  have hh : (p.y + p.x) * (q.y + q.x) + (p.y - p.x) * (q.y - q.x) = 2 * (a.y * b.y + a.x * b.x) * (p.z * q.z) := by rw [hx, hy, gx, gy]; exact r7 _ _ _ _ _ _
  have hg : p.z * q.z + p.z * q.z + (p.t * q.t * D + p.t * q.t * D) = 2 * (1 + D * a.x * b.x * a.y * b.y) * (p.z * q.z) := by rw [ht, gt]; exact r8 _ _ _ _ _ _ _
  have hf : p.z * q.z + p.z * q.z - (p.t * q.t * D + p.t * q.t * D) = 2 * (1 - D * a.x * b.x * a.y * b.y) * (p.z * q.z) := by rw [ht, gt]; exact r9 _ _ _ _ _ _ _
  rw [← ax] at he
  rw [← ay] at hh
  refine ⟨?_, ?_, ?_, ?_⟩
  · show (p.z * q.z + p.z * q.z - (p.t * q.t * D + p.t * q.t * D)) * (p.z * q.z + p.z * q.z + (p.t * q.t * D + p.t * q.t * D)) ≠ (0 : Fin P)
    rw [hf, hg]
    exact fldP.mul_ne nf ng
  · show ((p.y + p.x) * (q.y + q.x) - (p.y - p.x) * (q.y - q.x)) * (p.z * q.z + p.z * q.z - (p.t * q.t * D + p.t * q.t * D)) = (padd a b).x * ((p.z * q.z + p.z * q.z - (p.t * q.t * D + p.t * q.t * D)) * (p.z * q.z + p.z * q.z + (p.t * q.t * D + p.t * q.t * D)))
    rw [hf, hg, he]
    exact r1 _ _ _ _
  · show (p.z * q.z + p.z * q.z + (p.t * q.t * D + p.t * q.t * D)) * ((p.y + p.x) * (q.y + q.x) + (p.y - p.x) * (q.y - q.x)) = (padd a b).y * ((p.z * q.z + p.z * q.z - (p.t * q.t * D + p.t * q.t * D)) * (p.z * q.z + p.z * q.z + (p.t * q.t * D + p.t * q.t * D)))
    rw [hf, hg, hh]
    exact r2 _ _ _ _
  · show ((p.y + p.x) * (q.y + q.x) - (p.y - p.x) * (q.y - q.x)) * ((p.y + p.x) * (q.y + q.x) + (p.y - p.x) * (q.y - q.x)) = (padd a b).x * (padd a b).y * ((p.z * q.z + p.z * q.z - (p.t * q.t * D + p.t * q.t * D)) * (p.z * q.z + p.z * q.z + (p.t * q.t * D + p.t * q.t * D)))
    rw [hf, hg, he, hh]
    exact r3 _ _ _ _ _

theorem Rep.add {p q : X4} {a b : Pt P D} (hp : Rep p a) (hq : Rep q b) : Rep (X4.add p q) (padd a b) := (Rep0.add hp hq).rep

theorem Rep.neg {p : X4} {a : Pt P D} (hp : Rep p a) : Rep (X4.neg p) (Cur.neg a) := by
  unfold X4.neg
  unfold Rep at hp
  generalize p.whole = p' at *
  obtain ⟨hz, hx, hy, ht⟩ := hp
  refine Rep0.rep ⟨hz, ?_, ?_, ?_⟩
  · show -p'.x = -a.x * p'.z
    rw [hx]; grind
  · exact hy
  · show -p'.t = -a.x * a.y * p'.z
    rw [ht]; grind

theorem RepR.add {p q : R3} {a b : Pt P D} (hp : RepR p a) (hq : RepR q b) : RepR (R3.add p q) (padd a b) := by
  have d1 := curP.den1 a.on b.on
  have d2 := curP.den2 a.on b.on
  have ax := padd_x a b
  have ay := padd_y a b
  obtain ⟨hz, hx, hy⟩ := hp
  obtain ⟨gz, gx, gy⟩ := hq
  have zz := fldP.mul_ne hz gz
  have zzz := fldP.mul_ne zz zz
  have nu := fldP.mul_ne d1 zzz
  have nd := fldP.mul_ne d2 zzz
  have hu : (p.z * q.z) * (p.z * q.z) + D * ((p.x * q.y) * (q.x * p.y)) = (1 + D * a.x * b.x * a.y * b.y) * ((p.z * q.z) * (p.z * q.z)) := by rw [hx, hy, gx, gy]; exact r11 _ _ _ _ _ _ _
  have hd : (p.z * q.z) * (p.z * q.z) - D * ((p.x * q.y) * (q.x * p.y)) = (1 - D * a.x * b.x * a.y * b.y) * ((p.z * q.z) * (p.z * q.z)) := by rw [hx, hy, gx, gy]; exact r12 _ _ _ _ _ _ _
  have e1 : p.x * q.y + q.x * p.y = (a.x * b.y + b.x * a.y) * (p.z * q.z) := by rw [hx, hy, gx, gy]; exact r13 _ _ _ _ _ _
  have e2 : p.y * q.y + p.x * q.x = (a.y * b.y + a.x * b.x) * (p.z * q.z) := by rw [hx, hy, gx, gy]; exact r14 _ _ _ _ _ _
  rw [← ax] at e1
  rw [← ay] at e2
  refine ⟨?_, ?_, ?_⟩
  · show ((p.z * q.z) * (p.z * q.z) + D * ((p.x * q.y) * (q.x * p.y))) * ((p.z * q.z) * (p.z * q.z) - D * ((p.x * q.y) * (q.x * p.y))) ≠ 0
    rw [hu, hd]
    exact fldP.mul_ne nu nd
  · show (p.x * q.y + q.x * p.y) * (p.z * q.z) * ((p.z * q.z) * (p.z * q.z) - D * ((p.x * q.y) * (q.x * p.y))) = (padd a b).x * (((p.z * q.z) * (p.z * q.z) + D * ((p.x * q.y) * (q.x * p.y))) * ((p.z * q.z) * (p.z * q.z) - D * ((p.x * q.y) * (q.x * p.y))))
    rw [hu, hd, e1]
    exact r4 _ _ _ _
  · show (p.y * q.y + p.x * q.x) * (p.z * q.z) * ((p.z * q.z) * (p.z * q.z) + D * ((p.x * q.y) * (q.x * p.y))) = (padd a b).y * (((p.z * q.z) * (p.z * q.z) + D * ((p.x * q.y) * (q.x * p.y))) * ((p.z * q.z) * (p.z * q.z) - D * ((p.x * q.y) * (q.x * p.y))))
    rw [hu, hd, e2]
    exact r5 _ _ _ _

theorem RepR.neg {p : R3} {a : Pt P D} (hp : RepR p a) : RepR (R3.neg p) (Cur.neg a) := by
  obtain ⟨hz, hx, hy⟩ := hp
  refine ⟨hz, ?_, hy⟩
  show -p.x = -a.x * p.z
  rw [hx]; grind

theorem pmul_succ (a : Pt P D) (n : Nat) : pmul a (n + 1) = padd (pmul a n) a := rfl

theorem pmul_two (a : Pt P D) (n : Nat) : padd (pmul a n) (pmul a n) = pmul a (2 * n) := by
  rw [show 2 * n = n + n from by omega]; exact (curP.mul_add a n n).symm

theorem Rep.mul {p : X4} {a : Pt P D} (hp : Rep p a) (bs : List Bool) (r : X4) (n : Nat) (h : Rep r (pmul a n)) : Rep (X4.mulBits p bs r) (pmul a (numOf bs n)) :=
  often_rel (R := Rep) (mul := fun n => pmul a n) (fun r n h => by have := Rep.add h h; rw [pmul_two] at this; exact this) (fun r n h => Rep.add h hp) bs r n h

theorem RepR.mul {p : R3} {a : Pt P D} (hp : RepR p a) (bs : List Bool) (r : R3) (n : Nat) (h : RepR r (pmul a n)) : RepR (R3.mulBits p bs r) (pmul a (numOf bs n)) :=
  often_rel (R := RepR) (mul := fun n => pmul a n) (fun r n h => by have := RepR.add h h; rw [pmul_two] at this; exact this) (fun r n h => RepR.add h hp) bs r n h

theorem Rep.same {p q : X4} {a b : Pt P D} (hp : Rep p a) (hq : Rep q b) : X4.same p q = decide (a.x = b.x ∧ a.y = b.y) := by
  unfold X4.same
  unfold Rep at hp hq
  generalize p.whole = p' at *
  generalize q.whole = q' at *
  have zz := fldP.mul_ne hp.z hq.z
  rw [hp.x, hp.y, hq.x, hq.y, ← Bool.decide_and]
  refine decide_eq_decide.2 ⟨fun ⟨h1, h2⟩ => ?_, fun ⟨h1, h2⟩ => ?_⟩
  · exact ⟨fldP.cancel zz (by grind), fldP.cancel zz (by grind)⟩
  · rw [h1, h2]; exact ⟨by grind, by grind⟩

theorem RepR.same {p q : R3} {a b : Pt P D} (hp : RepR p a) (hq : RepR q b) : R3.same p q = decide (a.x = b.x ∧ a.y = b.y) := by
  unfold R3.same
  have zz := fldP.mul_ne hp.z hq.z
  rw [hp.x, hp.y, hq.x, hq.y, ← Bool.decide_and]
  refine decide_eq_decide.2 ⟨fun ⟨h1, h2⟩ => ?_, fun ⟨h1, h2⟩ => ?_⟩
  · exact ⟨fldP.cancel zz (by grind), fldP.cancel zz (by grind)⟩
  · rw [h1, h2]; exact ⟨by grind, by grind⟩

theorem Rep.flat {p : X4} {a : Pt P D} (hp : Rep p a) : p.whole.x * inv p.whole.z = a.x ∧ p.whole.y * inv p.whole.z = a.y := by
  unfold Rep at hp
  generalize p.whole = p' at *
  have i := fldP.mul_inv hp.z
  rw [hp.x, hp.y]
  constructor <;> grind
theorem RepR.flat {p : R3} {a : Pt P D} (hp : RepR p a) : p.x * inv p.z = a.x ∧ p.y * inv p.z = a.y := by
  have i := fldP.mul_inv hp.z
  rw [hp.x, hp.y]
  constructor <;> grind

/-- k's bits, so many, the highest first, ahead of others -/
def bitsOf : Nat → Nat → List Bool → List Bool
  | 0, _, l => l
  | k + 1, n, l => bitsOf k (n / 2) ((n % 2 == 1) :: l)

theorem numOf_bitsOf : ∀ (k n : Nat) (l : List Bool) (m : Nat), n < 2 ^ k → numOf (bitsOf k n l) m = numOf l (m * 2 ^ k + n) := by
  intro k
  induction k with
  | zero =>
    intro n l m h
    have : n = 0 := by simpa using h
    subst this
    simp [bitsOf]
  | succ k ih =>
    intro n l m h
    unfold bitsOf
    rw [ih _ _ _ (by rw [Nat.pow_succ] at h; omega)]
    rw [Nat.pow_succ, ← Nat.mul_assoc]
    generalize m * 2 ^ k = q at *
    have : n % 2 = 0 ∨ n % 2 = 1 := by omega
    rcases this with h | h
    · rw [h]
      show numOf l (2 * (q + n / 2)) = _
      congr 1
      omega
    · rw [h]
      show numOf l (2 * (q + n / 2) + 1) = _
      congr 1
      omega

def base4 : X4 := ⟨BX, BY, 1, BX * BY⟩
theorem rep_base : Rep base4 B := (⟨by decide +kernel, by decide +kernel, by decide +kernel, by decide +kernel⟩ : Rep0 base4 B).rep

theorem base_L0 : X4.same (X4.mulBits base4 (bitsOf 256 L []) X4.nought) X4.nought = true := by decide +kernel

theorem base_L : pmul B L = Cur.zero := by
  have h := rep_base.mul (bitsOf 256 L []) X4.nought 0 rep_nought
  rw [numOf_bitsOf _ _ _ _ (by decide +kernel)] at h
  have e : numOf [] (0 * 2 ^ 256 + L) = L := by simp [numOf]
  rw [e] at h
  have hs := h.same rep_nought
  rw [base_L0] at hs
  have := of_decide_eq_true hs.symm
  exact Pt.ext' this.1 this.2

end Ec
