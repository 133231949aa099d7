/-
A program's operations carried out on values written out: functions of one, two and three arguments of known kinds.
-/
import Derived.Test.YtahkpabndfaoiaaE12
namespace Eng
open Go Go.RowKit

/-- a kind of argument: how it is read, and how it is written -/
structure Dec (α : Type) where
  dec : PV → Option (α × List Prop)
  can : α → PV
  law : ∀ {p : PV} {x : α} {pre : List Prop} {ρ : Env} {v : Value}, dec p = some (x, pre) → AllP pre → denP ρ p = some v → (can x).val? = some v

def dE : Dec (Fin Ec.P) where
  dec := decE
  can := feP
  law := fun h hp e => by have := decE_spec h hp e; subst this; exact feP_val _

def dI (k : IntKind) : Dec Int where
  dec := fun p => match p.int? with
    | some (k', n) => cond (ikEq k' k) (some (n, [])) none
    | none => none
  can := fun n => .one (.val (.int k n))
  law := by
    intro p x pre ρ v h _ e
    cases h1 : p.int? with
    | none => simp [h1] at h
    | some kn =>
      obtain ⟨k', n⟩ := kn
      simp only [h1] at h
      by_cases hk : k' = k
      · subst hk
        simp only [ikEq, decide_true, cond_true] at h
        cases h
        rw [PV.int?_spec h1 e]
        rfl
      · simp [ikEq, hk] at h

def dL (k : IntKind) : Dec (List Int) where
  dec := fun p => (p.ints? k).map (·, [])
  can := fun l => .agg (intsC k l)
  law := by
    intro p x pre ρ v h _ e
    cases h1 : p.ints? k with
    | none => simp [h1] at h
    | some l =>
      simp only [h1, Option.map_some] at h
      cases h
      rw [PV.ints?_spec h1 e]
      exact intsP_val k _

def dB : Dec Bool where
  dec := fun p => p.bool?.map (·, [])
  can := fun b => .one (.val (.bool b))
  law := by
    intro p x pre ρ v h _ e
    cases h1 : p.bool? with
    | none => simp [h1] at h
    | some b =>
      simp only [h1, Option.map_some] at h
      cases h
      rw [PV.bool?_spec h1 e]
      rfl

def spec1 {α : Type} (A : Dec α) (res : α → SV × List Prop) : FnSpec
  | [p] => match A.dec p with
    | some (x, pre) => some ((res x).1, (res x).2 ++ pre)
    | none => none
  | _ => none

def spec2 {α β : Type} (A : Dec α) (B : Dec β) (res : α → β → SV × List Prop) : FnSpec
  | [p, q] => match A.dec p, B.dec q with
    | some (x, pre), some (y, pre') => some ((res x y).1, (res x y).2 ++ (pre ++ pre'))
    | _, _ => none
  | _ => none

def spec3 {α β γ : Type} (A : Dec α) (B : Dec β) (C : Dec γ) (res : α → β → γ → SV × List Prop) : FnSpec
  | [p, q, r] => match A.dec p, B.dec q, C.dec r with
    | some (x, pre), some (y, pre'), some (z, pre'') => some ((res x y z).1, (res x y z).2 ++ (pre ++ (pre' ++ pre'')))
    | _, _, _ => none
  | _ => none

theorem denPs_cons {ρ : Env} {p : PV} {ps : List PV} {l : List Value} (h : denPs ρ (p :: ps) = some l) : ∃ v vs, denP ρ p = some v ∧ denPs ρ ps = some vs ∧ l = v :: vs := by
  simp only [denPs] at h
  cases h1 : denP ρ p with
  | none => simp [h1] at h
  | some v =>
    cases h2 : denPs ρ ps with
    | none => simp [h1, h2] at h
    | some vs => simp only [h1, h2] at h; cases h; exact ⟨v, vs, rfl, rfl, rfl⟩
theorem denPs_nil {ρ : Env} {l : List Value} (h : denPs ρ [] = some l) : l = [] := by simp only [denPs] at h; cases h; rfl

/-- what is asked of a function's reckoning: the value, and that what it leans on holds -/
def Meets (x : Option (SV × List Prop)) (sv : SV) : Prop := ∃ sv' ob v, x = some (sv', ob) ∧ AllP ob ∧ sv'.val? = some v ∧ sv.val? = some v

theorem Meets.of {x : Option (SV × List Prop)} {sv : SV} {ob : List Prop} {v : Value} (h : x = some (sv, ob)) (ho : AllP ob) (hv : sv.val? = some v) : Meets x sv := ⟨sv, ob, v, h, ho, hv, hv⟩

section
variable {P : Program} {f : FuncId} {fn : Func} (hf : P.funcs[f]? = some fn) (hname : (fn.name == "runtime.NumGoroutine") = false) (hbody : fn.body.isSome = true)
include hf hname hbody

theorem spec1_calls {α : Type} {A : Dec α} {res : α → SV × List Prop} (h : ∀ x, AllP (res x).2 → ∀ va, (A.can x).val? = some va → ∃ v, (res x).1.val? = some v ∧ ∀ w, Calls P f #[va] w fun e w' => e = .returned v ∧ Below w.heap.size w w') : SpecOK P f (spec1 A res) := by
  refine specOK_of hf hname hbody ?_
  intro ps sv pre hg hp ρ vals hd
  unfold spec1 at hg
  split at hg
  · rename_i p
    cases h1 : A.dec p with
    | none => simp [h1] at hg
    | some xp =>
      obtain ⟨x, pre1⟩ := xp
      simp only [h1] at hg
      cases hg
      obtain ⟨hp1, hp2⟩ := AllP_append hp
      obtain ⟨v1, l1, d1, d1', rfl⟩ := denPs_cons hd
      have := denPs_nil d1'
      subst this
      obtain ⟨v, a, b⟩ := h x hp1 v1 (A.law h1 hp2 d1)
      exact ⟨v, a, b⟩
  · cases hg

theorem spec2_calls {α β : Type} {A : Dec α} {B : Dec β} {res : α → β → SV × List Prop}
    (h : ∀ x y, AllP (res x y).2 → ∀ va vb, (A.can x).val? = some va → (B.can y).val? = some vb → ∃ v, (res x y).1.val? = some v ∧ ∀ w, Calls P f #[va, vb] w fun e w' => e = .returned v ∧ Below w.heap.size w w') : SpecOK P f (spec2 A B res) := by
  refine specOK_of hf hname hbody ?_
  intro ps sv pre hg hp ρ vals hd
  unfold spec2 at hg
  split at hg
  · rename_i p q
    cases h1 : A.dec p with
    | none => simp [h1] at hg
    | some xp =>
      obtain ⟨x, pre1⟩ := xp
      cases h2 : B.dec q with
      | none => simp [h1, h2] at hg
      | some yq =>
        obtain ⟨y, pre2⟩ := yq
        simp only [h1, h2] at hg
        cases hg
        obtain ⟨hp1, hp'⟩ := AllP_append hp
        obtain ⟨hp2, hp3⟩ := AllP_append hp'
        obtain ⟨v1, l1, d1, d1', rfl⟩ := denPs_cons hd
        obtain ⟨v2, l2, d2, d2', rfl⟩ := denPs_cons d1'
        have := denPs_nil d2'
        subst this
        obtain ⟨v, a, b⟩ := h x y hp1 v1 v2 (A.law h1 hp2 d1) (B.law h2 hp3 d2)
        exact ⟨v, a, b⟩
  · cases hg

theorem spec3_calls {α β γ : Type} {A : Dec α} {B : Dec β} {C : Dec γ} {res : α → β → γ → SV × List Prop}
    (h : ∀ x y z, AllP (res x y z).2 → ∀ va vb vc, (A.can x).val? = some va → (B.can y).val? = some vb → (C.can z).val? = some vc → ∃ v, (res x y z).1.val? = some v ∧ ∀ w, Calls P f #[va, vb, vc] w fun e w' => e = .returned v ∧ Below w.heap.size w w') : SpecOK P f (spec3 A B C res) := by
  refine specOK_of hf hname hbody ?_
  intro ps sv pre hg hp ρ vals hd
  unfold spec3 at hg
  split at hg
  · rename_i p q r
    cases h1 : A.dec p with
    | none => simp [h1] at hg
    | some xp =>
      obtain ⟨x, pre1⟩ := xp
      cases h2 : B.dec q with
      | none => simp [h1, h2] at hg
      | some yq =>
        obtain ⟨y, pre2⟩ := yq
        cases h3 : C.dec r with
        | none => simp [h1, h2, h3] at hg
        | some zr =>
          obtain ⟨z, pre3⟩ := zr
          simp only [h1, h2, h3] at hg
          cases hg
          obtain ⟨hp1, hp'⟩ := AllP_append hp
          obtain ⟨hp2, hp''⟩ := AllP_append hp'
          obtain ⟨hp3, hp4⟩ := AllP_append hp''
          obtain ⟨v1, l1, d1, d1', rfl⟩ := denPs_cons hd
          obtain ⟨v2, l2, d2, d2', rfl⟩ := denPs_cons d1'
          obtain ⟨v3, l3, d3, d3', rfl⟩ := denPs_cons d2'
          have := denPs_nil d3'
          subst this
          obtain ⟨v, a, b⟩ := h x y z hp1 v1 v2 v3 (A.law h1 hp2 d1) (B.law h2 hp3 d2) (C.law h3 hp4 d3)
          exact ⟨v, a, b⟩
  · cases hg

variable {T : Table} (hT : TableOK P T) (hm : P.follows .mixedOrders = true)
include hT hm

theorem spec1_ok {α : Type} {A : Dec α} {res : α → SV × List Prop} {n : Nat} (hn : Nat.ble 1 fn.ntmps = true) (h : ∀ x, AllP (res x).2 → Meets (callX P T n fn [A.can x]) (res x).1) : SpecOK P f (spec1 A res) := by
  refine spec1_calls hf hname hbody fun x hx va ha => ?_
  obtain ⟨sv', ob, v, h1, h2, h3, h4⟩ := h x hx
  exact ⟨v, h4, fun w => calls_of_exec hT hm hf (ps := [A.can x]) (vals := [va]) (by simp only [pvVals, ha]) hn h1 h2 h3 w⟩

theorem spec2_ok {α β : Type} {A : Dec α} {B : Dec β} {res : α → β → SV × List Prop} {n : Nat} (hn : Nat.ble 2 fn.ntmps = true) (h : ∀ x y, AllP (res x y).2 → Meets (callX P T n fn [A.can x, B.can y]) (res x y).1) : SpecOK P f (spec2 A B res) := by
  refine spec2_calls hf hname hbody fun x y hx va vb ha hb => ?_
  obtain ⟨sv', ob, v, h1, h2, h3, h4⟩ := h x y hx
  exact ⟨v, h4, fun w => calls_of_exec hT hm hf (ps := [A.can x, B.can y]) (vals := [va, vb]) (by simp only [pvVals, ha, hb]) hn h1 h2 h3 w⟩

theorem spec3_ok {α β γ : Type} {A : Dec α} {B : Dec β} {C : Dec γ} {res : α → β → γ → SV × List Prop} {n : Nat} (hn : Nat.ble 3 fn.ntmps = true) (h : ∀ x y z, AllP (res x y z).2 → Meets (callX P T n fn [A.can x, B.can y, C.can z]) (res x y z).1) : SpecOK P f (spec3 A B C res) := by
  refine spec3_calls hf hname hbody fun x y z hx va vb vc ha hb hc => ?_
  obtain ⟨sv', ob, v, h1, h2, h3, h4⟩ := h x y z hx
  exact ⟨v, h4, fun w => calls_of_exec hT hm hf (ps := [A.can x, B.can y, C.can z]) (vals := [va, vb, vc]) (by simp only [pvVals, ha, hb, hc]) hn h1 h2 h3 w⟩

theorem spec0_ok {res : SV} {n : Nat} (h : Meets (callX P T n fn []) res) : SpecOK P f (fun ps => match ps with
    | [] => some (res, [])
    | _ => none) := by
  refine specOK_of hf hname hbody ?_
  intro ps s pre hg hp ρ vals hd
  split at hg
  · cases hg
    have := denPs_nil hd
    subst this
    obtain ⟨sv', ob, v, h1, h2, h3, h4⟩ := h
    exact ⟨v, h4, fun w => calls_of_exec hT hm hf rfl rfl h1 h2 h3 w⟩
  · cases hg
end

end Eng
