/-
A program's operations carried out on values written out: numbers as arguments and results; how a function's reckoning becomes what is known of it.
-/
import Derived.Test.YtahkpabndfaoiaaE11
import Derived.Test.YtahkpabndfaoiaaF1
namespace Eng
open Go Go.RowKit

def u64 (n : Int) : PV := .one (.val (.int .u64 n))
def bo (b : Bool) : PV := .one (.val (.bool b))
def iv (n : Int) : PV := .one (.val (.int .i64 n))

def PV.ints? (k : IntKind) : PV → Option (List Int)
  | .agg cs => decInts k cs
  | .one _ => none

def intsV (k : IntKind) (l : List Int) : Value := .agg (l.map (Value.int k)).toArray
def intsC (k : IntKind) (l : List Int) : List Cell := l.map fun n => .val (.int k n)

theorem PV.ints?_spec {ρ : Env} {k : IntKind} {p : PV} {l : List Int} {v : Value} (h : p.ints? k = some l) (e : denP ρ p = some v) : v = intsV k l := by
  cases p with
  | one c => cases h
  | agg cs =>
    simp only [PV.ints?] at h
    simp only [denP, decInts_spec (ρ := ρ) h] at e
    exact (Option.some.inj e).symm

theorem intsC_val (k : IntKind) : ∀ l : List Int, cellVals (intsC k l) = some (l.map (Value.int k))
  | [] => rfl
  | n :: l => by
    have h := intsC_val k l
    simp only [intsC] at h
    simp [intsC, cellVals, cellVal, h]

theorem intsP_val (k : IntKind) (l : List Int) : (PV.agg (intsC k l)).val? = some (intsV k l) := by
  simp [PV.val?, intsC_val, intsV]

theorem intsS_val (k : IntKind) (l : List Int) : (SV.pv (.agg (intsC k l))).val? = some (intsV k l) := intsP_val k l

def PV.int? : PV → Option (IntKind × Int)
  | .one c => c.int?
  | .agg _ => none

theorem PV.int?_spec {ρ : Env} {k : IntKind} {p : PV} {n : Int} {v : Value} (h : p.int? = some (k, n)) (e : denP ρ p = some v) : v = .int k n := by
  cases p with
  | agg cs => cases h
  | one c =>
    have h1 := Cell.int?_spec (ρ := ρ) (c := c) h
    have h2 := denP_one e
    rw [h1] at h2
    cases h2
    rfl

def PV.bool? : PV → Option Bool
  | .one (.val (.bool b)) => some b
  | _ => none

theorem PV.bool?_spec {ρ : Env} {p : PV} {b : Bool} {v : Value} (h : p.bool? = some b) (e : denP ρ p = some v) : v = .bool b :=
  SV.bool?_spec (ρ := ρ) (s := .pv p) (by
    cases p with
    | agg cs => cases h
    | one c =>
      cases c with
      | val u => cases u <;> simp only [PV.bool?] at h <;> first | (cases h; done) | exact h
      | _ => cases h) e

/-- a number modulo the prime, in words; in digits of 16 bits; a number's bytes -/
def feP (x : Fin Ec.P) : PV := .agg [.fe x]
def feV (x : Fin Ec.P) : Value := intsV .u64 (digI 64 x.val 4)
theorem feP_val (x : Fin Ec.P) : (feP x).val? = some (feV x) := rfl
def nmP (x : Fin Ec.P) : PV := .agg [.nm x]
def nmV (x : Fin Ec.P) : Value := intsV .u64 (digI 16 x.val 16)
theorem nmP_val (x : Fin Ec.P) : (nmP x).val? = some (nmV x) := rfl
def keyP (x : Nat) : PV := .agg [.dig .u8 8 x 32]
def keyV (x : Nat) : Value := intsV .u8 (digI 8 x 32)
theorem keyP_val (x : Nat) : (keyP x).val? = some (keyV x) := rfl

def toF (n : Nat) : Fin Ec.P := ⟨n % Ec.P, Nat.mod_lt _ (by decide)⟩

def W4 (a b c d : Int) : Prop := Fw.W a ∧ Fw.W b ∧ Fw.W c ∧ Fw.W d

def decE (p : PV) : Option (Fin Ec.P × List Prop) :=
  match p with
  | .agg [.fe x] => some (x, [])
  | p => match p.ints? .u64 with
    | some [a, b, c, d] => some (toF (Fw.val4 a b c d).toNat, [W4 a b c d ∧ Fw.val4 a b c d < Ec.P])
    | _ => none

theorem feL_of {a b c d : Int} (h : W4 a b c d) (hp : Fw.val4 a b c d < Ec.P) : digI 64 (toF (Fw.val4 a b c d).toNat).val 4 = [a, b, c, d] := by
  obtain ⟨ha, hb, hc, hd⟩ := h
  have h0 : 0 ≤ Fw.val4 a b c d := by unfold Fw.W Fw.val4 at *; omega
  have hn : (Fw.val4 a b c d).toNat < Ec.P := by omega
  have hx : ((Fw.val4 a b c d).toNat : Int) = Fw.val4 a b c d := Int.toNat_of_nonneg h0
  obtain ⟨e0, e1, e2, e3⟩ := Fw.dg_words ha hb hc hd hx
  unfold digI toF
  simp only [Nat.mod_eq_of_lt hn]
  show [dg 64 _ 0, dg 64 _ 1, dg 64 _ 2, dg 64 _ 3] = _
  rw [e0, e1, e2, e3]

theorem decE_spec {ρ : Env} {p : PV} {x : Fin Ec.P} {pre : List Prop} {v : Value} (h : decE p = some (x, pre)) (hp : AllP pre) (e : denP ρ p = some v) : v = feV x := by
  unfold decE at h
  split at h
  · rename_i y
    cases h
    have := PV.val?_den (ρ := ρ) (feP_val x)
    unfold feP at this
    rw [this] at e
    exact (Option.some.inj e).symm
  · split at h
    · rename_i a b c d h1
      cases h
      obtain ⟨⟨hw, hlt⟩, _⟩ := hp
      have := PV.ints?_spec h1 e
      rw [this]
      unfold feV
      rw [feL_of hw hlt]
    · cases h

/-- what a function comes to, as what is known of it -/
theorem specOK_of {P : Program} {f : FuncId} {fn : Func} (hf : P.funcs[f]? = some fn) (hname : (fn.name == "runtime.NumGoroutine") = false) (hbody : fn.body.isSome = true) {g : FnSpec}
    (h : ∀ ps sv pre, g ps = some (sv, pre) → AllP pre → ∀ ρ vals, denPs ρ ps = some vals → ∃ v, sv.val? = some v ∧ ∀ w, Calls P f vals.toArray w fun e w' => e = .returned v ∧ Below w.heap.size w w') : SpecOK P f g := by
  intro ps sv pre hg hp ρ vals hd w
  obtain ⟨v, hv, hc⟩ := h ps sv pre hg hp ρ vals hd
  refine ⟨v, ?_, .inr ⟨?_, hc w⟩⟩
  · cases sv with
    | any => cases hv
    | pv p => exact PV.val?_den hv
    | tup qs =>
      simp only [SV.val?] at hv
      cases h1 : pvVals qs with
      | none => simp [h1] at hv
      | some l => simp only [h1] at hv; cases hv; exact ⟨l, pvVals_spec h1, rfl⟩
  · have hn : (fn.name == "runtime.NumGoroutine") = false := hname
    have hb : fn.body.isNone = false := by cases hx : fn.body <;> simp_all
    simp only [callFunc, Sem.run_bind, run_program, Result.andThen_ok, hf, hn, Bool.false_eq_true, if_false, hb, Sem.run_pure]

/-- the table by its rows -/
def lookP : List (FuncId × FnSpec) → FuncId → Option FnSpec
  | [], _ => none
  | (g, s) :: L, f => cond (Nat.beq g f) (some s) (lookP L f)
def lookT (L : List (FuncId × FnSpec)) : Table := ⟨lookP L, fun _ => none⟩
def lookG : List (FuncId × SlSpec) → FuncId → Option SlSpec
  | [], _ => none
  | (g, s) :: L, f => cond (Nat.beq g f) (some s) (lookG L f)
/-- with functions that take or give slices -/
def lookS (S : List (FuncId × SlSpec)) (L : List (FuncId × FnSpec)) : Table := ⟨lookP L, lookG S⟩

theorem tableOK_nil (P : Program) : TableOK P (lookT []) := ⟨(fun _ _ h => nomatch h), fun _ _ h => nomatch h⟩
theorem tableS_nil {P : Program} {L : List (FuncId × FnSpec)} (h : TableOK P (lookT L)) : TableOK P (lookS [] L) := ⟨h.fn, fun _ _ h => nomatch h⟩
theorem tableS_cons {P : Program} {f : FuncId} {s : SlSpec} {S : List (FuncId × SlSpec)} {L : List (FuncId × FnSpec)} (h : SlOK P f s) (hL : TableOK P (lookS S L)) : TableOK P (lookS ((f, s) :: S) L) := by
  refine ⟨hL.fn, fun f' g e => ?_⟩
  simp only [lookS, lookG] at e
  by_cases hb : Nat.beq f f' = true
  · rw [hb] at e
    have := Nat.eq_of_beq_eq_true hb
    subst this
    cases e
    exact h
  · rw [Bool.eq_false_iff.2 hb] at e
    exact hL.sl f' g e
theorem tableS_plain {P : Program} {f : FuncId} {s : FnSpec} {S : List (FuncId × SlSpec)} {L : List (FuncId × FnSpec)} (h : SpecOK P f s) (hL : TableOK P (lookS S L)) : TableOK P (lookS S ((f, s) :: L)) := by
  refine ⟨fun f' g e => ?_, hL.sl⟩
  simp only [lookS, lookP] at e
  by_cases hb : Nat.beq f f' = true
  · rw [hb] at e
    have := Nat.eq_of_beq_eq_true hb
    subst this
    cases e
    exact h
  · rw [Bool.eq_false_iff.2 hb] at e
    exact hL.fn f' g e

theorem tableOK_cons {P : Program} {f : FuncId} {s : FnSpec} {L : List (FuncId × FnSpec)} (h : SpecOK P f s) (hL : TableOK P (lookT L)) : TableOK P (lookT ((f, s) :: L)) := by
  refine ⟨fun f' g e => ?_, fun f' g e => by cases e⟩
  simp only [lookT, lookP] at e
  by_cases hb : Nat.beq f f' = true
  · rw [hb] at e
    have := Nat.eq_of_beq_eq_true hb
    subst this
    cases e
    exact h
  · rw [Bool.eq_false_iff.2 hb] at e
    exact hL.fn f' g e

end Eng
