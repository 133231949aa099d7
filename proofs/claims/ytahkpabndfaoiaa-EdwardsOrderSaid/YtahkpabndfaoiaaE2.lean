/-
A program's operations carried out on values written out: the operations that leave memory alone.
-/
import Derived.Test.YtahkpabndfaoiaaE1
import Derived.Laws.Sem
import Derived.Laws.Entries
namespace Eng
open Go

abbrev Ev := Operand → Option SV

def ofVal : Value → Option SV
  | .agg cs => some (.pv (.agg (cs.toList.map .val)))
  | .tuple _ => none
  | v => some (.pv (.one (.val v)))

def evO (tm : List SV) : Ev
  | .tmp t => getL tm t
  | .const v => ofVal v
  | .global g => some (.pv (.one (.val (.pointer (some ⟨g, 0, none⟩)))))
  | .func f => some (.pv (.one (.val (.func (.func f) #[] #[]))))

theorem denCs_vals (ρ : Env) : ∀ l : List Value, denCs ρ (l.map .val) = some l
  | [] => rfl
  | v :: l => by simp [denCs, denC, denCs_vals ρ l]

theorem ofVal_spec {ρ : Env} {v : Value} {s : SV} (h : ofVal v = some s) : relS ρ s v := by
  cases v <;> simp only [ofVal] at h <;> first | (cases h; done) | skip
  case agg cs => cases h; simp [relS, denP, denCs_vals]
  all_goals (cases h; simp [relS, denP, denC])

/-- what the slots hold is what is known of them -/
def evR (ρ : Env) (ev : Ev) (a : Act) : Prop := ∀ x s, ev x = some s → relS ρ s (a.eval x)

theorem evO_spec {ρ : Env} {tm : List SV} {a : Act} (h : ∀ t s, getL tm t = some s → relS ρ s (a.tmps.getD t undef)) : evR ρ (evO tm) a := by
  intro x s e
  cases x with
  | tmp t => exact h t s e
  | const v => exact ofVal_spec e
  | global g => simp only [evO] at e; cases e; rfl
  | func f => simp only [evO] at e; cases e; rfl

def Cell.int? : Cell → Option (IntKind × Int)
  | .val (.int k n) => some (k, n)
  | .dg1 k w x i => some (k, dg w x i)
  | _ => none

def SV.int? : SV → Option (IntKind × Int)
  | .pv (.one c) => c.int?
  | _ => none

def SV.bool? : SV → Option Bool
  | .pv (.one (.val (.bool b))) => some b
  | _ => none

theorem Cell.int?_spec {ρ : Env} {c : Cell} {k : IntKind} {n : Int} (h : c.int? = some (k, n)) : denC ρ c = some [.int k n] := by
  cases c with
  | val v => cases v <;> simp only [Cell.int?] at h <;> cases h; rfl
  | dg1 k w x i => simp only [Cell.int?] at h; cases h; rfl
  | _ => cases h

theorem SV.int?_spec {ρ : Env} {s : SV} {k : IntKind} {n : Int} {v : Value} (h : s.int? = some (k, n)) (r : relS ρ s v) : v = .int k n := by
  cases s with
  | any => cases h
  | tup ps => cases h
  | pv p =>
    cases p with
    | agg cs => cases h
    | one c =>
      have h1 := Cell.int?_spec (ρ := ρ) (c := c) h
      have h2 := denP_one (ρ := ρ) r
      rw [h1] at h2
      cases h2
      rfl

theorem SV.bool?_spec {ρ : Env} {s : SV} {b : Bool} {v : Value} (h : s.bool? = some b) (r : relS ρ s v) : v = .bool b := by
  cases s with
  | any => cases h
  | tup ps => cases h
  | pv p =>
    cases p with
    | agg cs => cases h
    | one c =>
      cases c with
      | val u =>
        cases u <;> simp only [SV.bool?] at h <;> cases h
        have h2 := denP_one (ρ := ρ) r
        simp only [denC] at h2
        cases h2
        rfl
      | _ => cases h

def arith (op : BinOp) (k : IntKind) (a b : Int) : Option Value :=
  match op with
  | .add => some (.int k (k.wrap (a + b)))
  | .sub => some (.int k (k.wrap (a - b)))
  | .mul => some (.int k (k.wrap (a * b)))
  | .quo => cond (decide (b = 0)) none (some (.int k (k.wrap (a.tdiv b))))
  | .rem => cond (decide (b = 0)) none (some (.int k (a.tmod b)))
  | .and => some (.int k (k.wrap ((BitVec.ofInt k.bits a &&& BitVec.ofInt k.bits b).toNat)))
  | .or => some (.int k (k.wrap ((BitVec.ofInt k.bits a ||| BitVec.ofInt k.bits b).toNat)))
  | .xor => some (.int k (k.wrap ((BitVec.ofInt k.bits a ^^^ BitVec.ofInt k.bits b).toNat)))
  | .andNot => some (.int k (k.wrap ((BitVec.ofInt k.bits a &&& ~~~BitVec.ofInt k.bits b).toNat)))
  | .eql => some (.bool (a == b))
  | .neq => some (.bool (a != b))
  | .lss => some (.bool (decide (a < b)))
  | .leq => some (.bool (decide (a ≤ b)))
  | .gtr => some (.bool (decide (a > b)))
  | .geq => some (.bool (decide (a ≥ b)))
  | .shl => none
  | .shr => none

def shiftV (op : BinOp) (k : IntKind) (a y : Int) : Option Value :=
  cond (decide (y < 0)) none (match op with
    | .shl => some (.int k (k.wrap (a * 2 ^ (min y.toNat k.bits))))
    | .shr => some (.int k (a.fdiv (2 ^ (min y.toNat k.bits))))
    | _ => none)

def isShift : BinOp → Bool
  | .shl => true
  | .shr => true
  | _ => false

def ikEq (a b : IntKind) : Bool := decide (a = b)

def one (v : Value) : SV := .pv (.one (.val v))

def binV (op : BinOp) (x y : SV) : Option SV :=
  match x.int?, y.int? with
  | some (k, a), some (k', b) =>
    cond (isShift op) (match shiftV op k a b with | some v => some (one v) | none => none)
      (cond (ikEq k k') (match arith op k a b with | some v => some (one v) | none => none) none)
  | _, _ => none

theorem run_binInt {P : Program} {w : World} (op : BinOp) (t : TypeId) (k k' : IntKind) (a b : Int) {s : SV}
    (h : binV op (one (.int k a)) (one (.int k' b)) = some s) : ∃ v, s = one v ∧ (binOp op t (.int k a) (.int k' b)).run P w = .ok v w := by
  have h' : cond (isShift op) (match shiftV op k a b with | some v => some (one v) | none => none)
      (cond (ikEq k k') (match arith op k a b with | some v => some (one v) | none => none) none) = some s := h
  clear h
  by_cases hs : isShift op = true
  · rw [hs] at h'
    simp only [cond_true] at h'
    cases hv : shiftV op k a b with
    | none => simp [hv] at h'
    | some v =>
      simp only [hv] at h'
      cases h'
      refine ⟨v, rfl, ?_⟩
      unfold shiftV at hv
      by_cases hb : b < 0
      · simp [hb] at hv
      · simp only [hb, decide_false, cond_false] at hv
        cases op <;> first | (cases hs; done) | (simp only [] at hv; cases hv; simp only [binOp, Op.shift, hb, if_false]; rfl)
  · have hs' : isShift op = false := by simpa using hs
    rw [hs'] at h'
    simp only [cond_false] at h'
    by_cases hk : k = k'
    · subst hk
      simp only [ikEq, decide_true, cond_true] at h'
      cases hv : arith op k a b with
      | none => simp [hv] at h'
      | some v =>
        simp only [hv] at h'
        cases h'
        refine ⟨v, rfl, ?_⟩
        by_cases hb : b = 0
        · cases op <;> first | (cases hs'; done) | (simp only [arith, hb, decide_true, cond_true] at hv; cases hv; done) | (simp only [arith] at hv; cases hv; simp [binOp, Op.intArith, Op.intBits, Op.intCmp])
        · cases op <;> first | (cases hs'; done) | (simp only [arith, hb, decide_false, cond_false] at hv; cases hv; simp [binOp, Op.intDiv, hb]; done) | (simp only [arith] at hv; cases hv; simp [binOp, Op.intArith, Op.intBits, Op.intCmp])
    · simp [ikEq, hk] at h'

theorem binV_spec {P : Program} {ρ : Env} (op : BinOp) (t : TypeId) {x y s : SV} {vx vy : Value} (h : binV op x y = some s) (hx : relS ρ x vx) (hy : relS ρ y vy) :
    (∃ k a k' b, vx = .int k a ∧ vy = .int k' b) ∧ ∃ v, s = one v ∧ ∀ w : World, (binOp op t vx vy).run P w = .ok v w := by
  unfold binV at h
  cases h1 : x.int? with
  | none => simp [h1] at h
  | some ka =>
    obtain ⟨k, a⟩ := ka
    cases h2 : y.int? with
    | none => simp [h1, h2] at h
    | some kb =>
      obtain ⟨k', b⟩ := kb
      simp only [h1, h2] at h
      have e1 := SV.int?_spec h1 hx
      have e2 := SV.int?_spec h2 hy
      subst e1; subst e2
      refine ⟨⟨k, a, k', b, rfl, rfl⟩, ?_⟩
      have hb : binV op (one (.int k a)) (one (.int k' b)) = some s := h
      obtain ⟨v, e, r⟩ := run_binInt (P := P) (w := default) op t k k' a b hb
      refine ⟨v, e, fun w => ?_⟩
      obtain ⟨v', e', r'⟩ := run_binInt (P := P) (w := w) op t k k' a b hb
      have : v = v' := by
        rw [e] at e'
        simp only [one] at e'
        injection e' with e'; injection e' with e'; injection e'
      rw [this]; exact r'

end Eng
