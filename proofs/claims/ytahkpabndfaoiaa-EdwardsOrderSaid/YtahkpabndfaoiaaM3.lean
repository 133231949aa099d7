/-
Numbers modulo a prime as a field, and the curve's sums over it: closed, with order free, a nought, opposites.
-/
import Derived.Test.YtahkpabndfaoiaaM1
namespace Ec
variable {n : Nat} [NeZero n]

/-- what is wanted of n: whatever is not nought has the power n - 1 that is one; two is not nought -/
structure Fld (n : Nat) [NeZero n] : Prop where
  big : 2 < n
  fermat : ∀ x : Fin n, x ≠ 0 → x ^ (n - 1) = 1

/-- the inverse, as a power -/
def inv (x : Fin n) : Fin n := x ^ (n - 2)

namespace Fld
variable (F : Fld n)
include F

theorem mul_inv {x : Fin n} (h : x ≠ 0) : x * inv x = 1 := by
  have := F.fermat x h
  have hb := F.big
  rw [show n - 1 = (n - 2) + 1 from by omega] at this
  unfold inv
  grind

theorem inv_mul {x : Fin n} (h : x ≠ 0) : inv x * x = 1 := by
  have := F.mul_inv h; grind

theorem one_ne : (1 : Fin n) ≠ 0 := by
  have hb := F.big
  intro h
  have := congrArg Fin.val h
  have e : ((1 : Fin n) : Nat) = 1 % n := rfl
  rw [e, Nat.mod_eq_of_lt (show 1 < n by omega)] at this
  simp at this

theorem two_ne : (2 : Fin n) ≠ 0 := by
  have hb := F.big
  intro h
  have := congrArg Fin.val h
  have e : ((2 : Fin n) : Nat) = 2 % n := rfl
  rw [e, Nat.mod_eq_of_lt hb] at this
  simp at this

theorem inv_zero : inv (0 : Fin n) = 0 := by
  have h := F.big
  unfold inv
  obtain ⟨k, hk⟩ : ∃ k, n - 2 = k + 1 := ⟨n - 3, by omega⟩
  rw [hk]
  grind

theorem mul_ne {x y : Fin n} (hx : x ≠ 0) (hy : y ≠ 0) : x * y ≠ 0 := by
  intro h
  have h1 := F.mul_inv hx
  apply hy
  grind

theorem cancel {x y z : Fin n} (hz : z ≠ 0) (h : x * z = y * z) : x = y := by
  have h1 := F.mul_inv hz
  grind

theorem sq_zero {x : Fin n} (h : x * x = 0) : x = 0 := by
  apply Classical.byContradiction
  intro hx
  exact F.mul_ne hx hx h

theorem or_of_mul {x y : Fin n} (h : x * y = 0) : x = 0 ∨ y = 0 := by
  by_cases hx : x = 0
  · exact .inl hx
  · right
    apply Classical.byContradiction
    intro hy
    exact F.mul_ne hx hy h

theorem inv_inv_mul {x y : Fin n} (hx : x ≠ 0) (hy : y ≠ 0) : inv (x * y) = inv x * inv y := by
  have h1 := F.mul_inv hx
  have h2 := F.mul_inv hy
  have h3 := F.mul_inv (F.mul_ne hx hy)
  grind

end Fld

/-- the curve: a number d that is no square, a root of -1 -/
structure Cur (n : Nat) [NeZero n] (d : Fin n) : Prop extends Fld n where
  root : ∃ i : Fin n, i * i = -1
  nsq : ∀ z : Fin n, z * z ≠ d

/-- a point's numbers lie on the curve -/
def On (d x y : Fin n) : Prop := y * y - x * x = 1 + d * (x * x) * (y * y)

namespace Cur
variable {d : Fin n} (C : Cur n d)
include C

theorem den (x1 y1 x2 y2 e : Fin n) (h1 : On d x1 y1) (h2 : On d x2 y2) (he : e * e = 1) : d * x1 * x2 * y1 * y2 ≠ e := by
  intro hd
  unfold On at h1 h2
  obtain ⟨i, hi⟩ := C.root
  have h2n := C.toFld.two_ne
  have x1n : x1 ≠ 0 := by
    intro h; subst h; have := C.toFld.one_ne; grind
  have y1n : y1 ≠ 0 := by
    intro h; subst h; have := C.toFld.one_ne; grind
  have y2n : y2 ≠ 0 := by
    intro h; subst h; have := C.toFld.one_ne; grind
  have a1 : (i * x1 + e * y1) * (i * x1 + e * y1) = d * ((x1 * y1) * (i * x2 + y2)) * ((x1 * y1) * (i * x2 + y2)) := by grind
  have a2 : (i * x1 - e * y1) * (i * x1 - e * y1) = d * ((x1 * y1) * (i * x2 - y2)) * ((x1 * y1) * (i * x2 - y2)) := by grind
  have sq : ∀ u v : Fin n, u * u = d * v * v → v = 0 := by
    intro u v h
    apply Classical.byContradiction
    intro hv
    have hm := C.toFld.mul_inv hv
    exact C.nsq (u * inv v) (by grind)
  have b1 := sq _ _ a1
  have b2 := sq _ _ a2
  have hxy := C.toFld.mul_ne x1n y1n
  have c1 : i * x2 + y2 = 0 := by
    rcases C.toFld.or_of_mul b1 with h | h
    · exact absurd h hxy
    · exact h
  have c2 : i * x2 - y2 = 0 := by
    rcases C.toFld.or_of_mul b2 with h | h
    · exact absurd h hxy
    · exact h
  have : 2 * y2 = 0 := by grind
  rcases C.toFld.or_of_mul this with h | h
  · exact h2n h
  · exact y2n h

theorem den1 {x1 y1 x2 y2 : Fin n} (h1 : On d x1 y1) (h2 : On d x2 y2) : 1 + d * x1 * x2 * y1 * y2 ≠ 0 := by
  intro h
  exact C.den x1 y1 x2 y2 (-1) h1 h2 (by grind) (by grind)

theorem den2 {x1 y1 x2 y2 : Fin n} (h1 : On d x1 y1) (h2 : On d x2 y2) : 1 - d * x1 * x2 * y1 * y2 ≠ 0 := by
  intro h
  exact C.den x1 y1 x2 y2 1 h1 h2 (by grind) (by grind)

end Cur

/-- a sum's x and y -/
def addX (d x1 y1 x2 y2 : Fin n) : Fin n := (x1 * y2 + x2 * y1) * inv (1 + d * x1 * x2 * y1 * y2)
def addY (d x1 y1 x2 y2 : Fin n) : Fin n := (y1 * y2 + x1 * x2) * inv (1 - d * x1 * x2 * y1 * y2)

theorem poly_on (d x1 y1 x2 y2 : Fin n) (h1 : On d x1 y1) (h2 : On d x2 y2) :
    (y1*y2+x1*x2)*(y1*y2+x1*x2)*((1+d*x1*x2*y1*y2)*(1+d*x1*x2*y1*y2)) - (x1*y2+x2*y1)*(x1*y2+x2*y1)*((1-d*x1*x2*y1*y2)*(1-d*x1*x2*y1*y2))
      = (1+d*x1*x2*y1*y2)*(1+d*x1*x2*y1*y2)*((1-d*x1*x2*y1*y2)*(1-d*x1*x2*y1*y2)) + d*((x1*y2+x2*y1)*(x1*y2+x2*y1))*((y1*y2+x1*x2)*(y1*y2+x1*x2)) := by
  unfold On at h1 h2
  grind

theorem poly_x (d x1 y1 x2 y2 x3 y3 : Fin n) (h1 : On d x1 y1) (h2 : On d x2 y2) (h3 : On d x3 y3) :
    ((x1*y2+x2*y1)*(1-d*x1*x2*y1*y2)*y3 + x3*(y1*y2+x1*x2)*(1+d*x1*x2*y1*y2)) * ((1+d*x2*x3*y2*y3)*(1-d*x2*x3*y2*y3) + d*x1*(x2*y3+x3*y2)*y1*(y2*y3+x2*x3))
      = (x1*(y2*y3+x2*x3)*(1+d*x2*x3*y2*y3) + (x2*y3+x3*y2)*(1-d*x2*x3*y2*y3)*y1) * ((1+d*x1*x2*y1*y2)*(1-d*x1*x2*y1*y2) + d*(x1*y2+x2*y1)*x3*(y1*y2+x1*x2)*y3) := by
  unfold On at h1 h2 h3
  grind

theorem poly_y (d x1 y1 x2 y2 x3 y3 : Fin n) (h1 : On d x1 y1) (h2 : On d x2 y2) (h3 : On d x3 y3) :
    ((y1*y2+x1*x2)*(1+d*x1*x2*y1*y2)*y3 + (x1*y2+x2*y1)*(1-d*x1*x2*y1*y2)*x3) * ((1+d*x2*x3*y2*y3)*(1-d*x2*x3*y2*y3) - d*x1*(x2*y3+x3*y2)*y1*(y2*y3+x2*x3))
      = (y1*(y2*y3+x2*x3)*(1+d*x2*x3*y2*y3) + x1*(x2*y3+x3*y2)*(1-d*x2*x3*y2*y3)) * ((1+d*x1*x2*y1*y2)*(1-d*x1*x2*y1*y2) - d*(x1*y2+x2*y1)*x3*(y1*y2+x1*x2)*y3) := by
  unfold On at h1 h2 h3
  grind

/-- a point -/
structure Pt (n : Nat) [NeZero n] (d : Fin n) where
  x : Fin n
  y : Fin n
  on : On d x y

theorem Pt.ext' {d : Fin n} {p q : Pt n d} (hx : p.x = q.x) (hy : p.y = q.y) : p = q := by
  cases p; cases q; cases hx; cases hy; rfl

namespace Cur
variable {d : Fin n} (C : Cur n d)
include C

theorem on_add {x1 y1 x2 y2 : Fin n} (h1 : On d x1 y1) (h2 : On d x2 y2) : On d (addX d x1 y1 x2 y2) (addY d x1 y1 x2 y2) := by
  have e1 := C.toFld.mul_inv (C.den1 h1 h2)
  have e2 := C.toFld.mul_inv (C.den2 h1 h2)
  have hp := poly_on d x1 y1 x2 y2 h1 h2
  unfold On addX addY
  generalize hA : 1 + d * x1 * x2 * y1 * y2 = A at *
  generalize hB : 1 - d * x1 * x2 * y1 * y2 = B at *
  generalize x1*y2+x2*y1 = a at *
  generalize y1*y2+x1*x2 = b at *
  generalize inv A = A' at *
  generalize inv B = B' at *
  have q : (b * b * (A * A) - a * a * (B * B)) * (A' * A') * (B' * B') = (A * A * (B * B) + d * (a * a) * (b * b)) * (A' * A') * (B' * B') := by rw [hp]
  clear hA hB hp h1 h2
  grind

/-- the sum -/
def add (p q : Pt n d) : Pt n d := ⟨addX d p.x p.y q.x q.y, addY d p.x p.y q.x q.y, C.on_add p.on q.on⟩

omit C in
/-- nought -/
def zero : Pt n d := ⟨0, 1, by unfold On; grind⟩

omit C in
/-- the opposite -/
def neg (p : Pt n d) : Pt n d := ⟨-p.x, p.y, by have := p.on; unfold On at *; grind⟩

theorem frac_eq {a A b B : Fin n} (hA : A ≠ 0) (hB : B ≠ 0) (h : a * B = b * A) : a * inv A = b * inv B := by
  have e1 := C.toFld.mul_inv hA
  have e2 := C.toFld.mul_inv hB
  generalize inv A = A' at *
  generalize inv B = B' at *
  have : a * B * A' * B' = b * A * A' * B' := by rw [h]
  grind

theorem add_comm (p q : Pt n d) : C.add p q = C.add q p := by
  refine Pt.ext' ?_ ?_
  · show addX .. = addX ..
    unfold addX
    rw [show p.x * q.y + q.x * p.y = q.x * p.y + p.x * q.y from by grind, show 1 + d * p.x * q.x * p.y * q.y = 1 + d * q.x * p.x * q.y * p.y from by grind]
  · show addY .. = addY ..
    unfold addY
    rw [show p.y * q.y + p.x * q.x = q.y * p.y + q.x * p.x from by grind, show 1 - d * p.x * q.x * p.y * q.y = 1 - d * q.x * p.x * q.y * p.y from by grind]

theorem inv_one : inv (1 : Fin n) = 1 := by
  have := C.toFld.mul_inv C.toFld.one_ne
  grind

theorem add_zero (p : Pt n d) : C.add p zero = p := by
  have h1 := C.inv_one
  refine Pt.ext' ?_ ?_
  · show addX d p.x p.y 0 1 = p.x
    unfold addX
    rw [show 1 + d * p.x * 0 * p.y * 1 = 1 from by grind, h1]; grind
  · show addY d p.x p.y 0 1 = p.y
    unfold addY
    rw [show 1 - d * p.x * 0 * p.y * 1 = 1 from by grind, h1]; grind

theorem add_neg (p : Pt n d) : C.add p (neg p) = zero := by
  refine Pt.ext' ?_ ?_
  · show addX d p.x p.y (-p.x) p.y = 0
    unfold addX
    rw [show p.x * p.y + -p.x * p.y = 0 from by grind]; grind
  · show addY d p.x p.y (-p.x) p.y = 1
    have hd : 1 - d * p.x * -p.x * p.y * p.y ≠ 0 := C.den2 p.on (neg p).on
    have e := C.toFld.mul_inv hd
    unfold addY
    rw [show p.y * p.y + p.x * -p.x = 1 - d * p.x * -p.x * p.y * p.y from by have := p.on; unfold On at this; grind]
    exact e

/-- over common denominators -/
theorem sum_x {x1 y1 a A b B x3 y3 : Fin n} (hA : A ≠ 0) (hB : B ≠ 0) (hx : x1 = a * inv A) (hy : y1 = b * inv B) (h1 : On d x1 y1) (h3 : On d x3 y3) :
    A * B + d * a * x3 * b * y3 ≠ 0 ∧ A * B - d * a * x3 * b * y3 ≠ 0 ∧
    addX d x1 y1 x3 y3 = (a * B * y3 + x3 * b * A) * inv (A * B + d * a * x3 * b * y3) ∧ addY d x1 y1 x3 y3 = (b * A * y3 + a * B * x3) * inv (A * B - d * a * x3 * b * y3) := by
  have d1 := C.den1 h1 h3
  have d2 := C.den2 h1 h3
  have eA := C.toFld.mul_inv hA
  have eB := C.toFld.mul_inv hB
  have hAB := C.toFld.mul_ne hA hB
  have k1 : A * B + d * a * x3 * b * y3 = (A * B) * (1 + d * x1 * x3 * y1 * y3) := by
    rw [hx, hy]
    generalize inv A = A' at *
    generalize inv B = B' at *
    clear d1 d2 hx hy h1 h3
    grind
  have k2 : A * B - d * a * x3 * b * y3 = (A * B) * (1 - d * x1 * x3 * y1 * y3) := by
    rw [hx, hy]
    generalize inv A = A' at *
    generalize inv B = B' at *
    clear d1 d2 hx hy h1 h3 k1
    grind
  have n1 : A * B + d * a * x3 * b * y3 ≠ 0 := by rw [k1]; exact C.toFld.mul_ne hAB d1
  have n2 : A * B - d * a * x3 * b * y3 ≠ 0 := by rw [k2]; exact C.toFld.mul_ne hAB d2
  refine ⟨n1, n2, ?_, ?_⟩
  · unfold addX
    refine C.frac_eq d1 n1 ?_
    rw [k1]
    generalize 1 + d * x1 * x3 * y1 * y3 = D
    have : (x1 * y3 + x3 * y1) * (A * B) = a * B * y3 + x3 * b * A := by
      rw [hx, hy]
      generalize inv A = A' at *
      generalize inv B = B' at *
      clear d1 d2 hx hy h1 h3 k1 k2 n1 n2
      grind
    rw [← this]; grind
  · unfold addY
    refine C.frac_eq d2 n2 ?_
    rw [k2]
    generalize 1 - d * x1 * x3 * y1 * y3 = D
    have : (y1 * y3 + x1 * x3) * (A * B) = b * A * y3 + a * B * x3 := by
      rw [hx, hy]
      generalize inv A = A' at *
      generalize inv B = B' at *
      clear d1 d2 hx hy h1 h3 k1 k2 n1 n2
      grind
    rw [← this]; grind

theorem add_assoc (p q r : Pt n d) : C.add (C.add p q) r = C.add p (C.add q r) := by
  obtain ⟨a1, a2, a3, a4⟩ := C.sum_x (C.den1 p.on q.on) (C.den2 p.on q.on) rfl rfl (C.on_add p.on q.on) r.on
  obtain ⟨b1, b2, b3, b4⟩ := C.sum_x (C.den1 q.on r.on) (C.den2 q.on r.on) rfl rfl (C.on_add q.on r.on) p.on
  rw [C.add_comm p (C.add q r)]
  refine Pt.ext' ?_ ?_
  · refine a3.trans (Eq.trans (C.frac_eq a1 b1 ?_) b3.symm)
    have := poly_x d p.x p.y q.x q.y r.x r.y p.on q.on r.on
    generalize p.x*q.y+q.x*p.y = s1 at *
    generalize p.y*q.y+p.x*q.x = s2 at *
    generalize q.x*r.y+r.x*q.y = s3 at *
    generalize q.y*r.y+q.x*r.x = s4 at *
    generalize 1+d*p.x*q.x*p.y*q.y = s5 at *
    generalize 1-d*p.x*q.x*p.y*q.y = s6 at *
    generalize 1+d*q.x*r.x*q.y*r.y = s7 at *
    generalize 1-d*q.x*r.x*q.y*r.y = s8 at *
    clear a1 a2 a3 a4 b1 b2 b3 b4
    grind
  · refine a4.trans (Eq.trans (C.frac_eq a2 b2 ?_) b4.symm)
    have := poly_y d p.x p.y q.x q.y r.x r.y p.on q.on r.on
    generalize p.x*q.y+q.x*p.y = s1 at *
    generalize p.y*q.y+p.x*q.x = s2 at *
    generalize q.x*r.y+r.x*q.y = s3 at *
    generalize q.y*r.y+q.x*r.x = s4 at *
    generalize 1+d*p.x*q.x*p.y*q.y = s5 at *
    generalize 1-d*p.x*q.x*p.y*q.y = s6 at *
    generalize 1+d*q.x*r.x*q.y*r.y = s7 at *
    generalize 1-d*q.x*r.x*q.y*r.y = s8 at *
    clear a1 a2 a3 a4 b1 b2 b3 b4
    grind

/-- so often -/
def mul (p : Pt n d) : Nat → Pt n d
  | 0 => zero
  | k + 1 => C.add (mul p k) p

theorem zero_add (p : Pt n d) : C.add zero p = p := by rw [C.add_comm, C.add_zero]

theorem mul_add (p : Pt n d) (a b : Nat) : C.mul p (a + b) = C.add (C.mul p a) (C.mul p b) := by
  induction b with
  | zero => exact (C.add_zero _).symm
  | succ b ih => show C.add (C.mul p (a + b)) p = C.add (C.mul p a) (C.add (C.mul p b) p); rw [ih, C.add_assoc]

theorem mul_mul (p : Pt n d) (a b : Nat) : C.mul (C.mul p a) b = C.mul p (a * b) := by
  induction b with
  | zero => rfl
  | succ b ih => show C.add (C.mul (C.mul p a) b) (C.mul p a) = _; rw [ih, ← C.mul_add]; rfl

theorem mul_zero (k : Nat) : C.mul zero k = zero := by
  induction k with
  | zero => rfl
  | succ k ih => show C.add (C.mul zero k) zero = _; rw [ih, C.add_zero]

theorem mul_sum (p q : Pt n d) (k : Nat) : C.mul (C.add p q) k = C.add (C.mul p k) (C.mul q k) := by
  induction k with
  | zero => exact (C.add_zero _).symm
  | succ k ih =>
    show C.add (C.mul (C.add p q) k) (C.add p q) = C.add (C.add (C.mul p k) p) (C.add (C.mul q k) q)
    rw [ih, C.add_assoc, C.add_assoc, ← C.add_assoc (C.mul q k) p q, C.add_comm (C.mul q k) p, C.add_assoc p]

theorem add_cancel {p q r : Pt n d} (h : C.add p r = C.add q r) : p = q := by
  have : C.add (C.add p r) (neg r) = C.add (C.add q r) (neg r) := by rw [h]
  rwa [C.add_assoc, C.add_assoc, C.add_neg, C.add_zero, C.add_zero] at this

end Cur

end Ec
