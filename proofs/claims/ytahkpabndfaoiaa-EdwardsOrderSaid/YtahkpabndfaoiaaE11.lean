/-
A program's operations carried out on values written out: whole functions.
-/
import Derived.Test.YtahkpabndfaoiaaE10
import Derived.KernelRfl
namespace Eng
open Go Go.RowKit

def resP (P : Program) (st : St) : ResultVar → Option PV
  | .tmp t => match getL st.tmps t with
    | some (.pv p) => some p
    | _ => none
  | .cell t ty => match getL st.tmps t with
    | some s => match loadV P ty s st.heap with
      | some (.pv p, []) => some p
      | _ => none
    | none => none

def resPs (P : Program) (st : St) : List ResultVar → Option (List PV)
  | [] => some []
  | r :: rs => match resP P st r, resPs P st rs with
    | some p, some ps => some (p :: ps)
    | _, _ => none

def tupOf : List PV → SV
  | [p] => .pv p
  | ps => .tup ps

def outSt : Out → Option St
  | .fall st => some st
  | .ret st => some st
  | _ => none

/-- a result read off a frame -/
def semR (a : Act) : ResultVar → Sem Value
  | .tmp t => pure (a.tmps.getD t undef)
  | .cell x t => do loadVar t (← asAddr (a.tmps.getD x undef))

theorem run_resP {P : Program} {w0 : World} {fb : Nat → Prop} {ρ : Env} {st : St} {a : Act} {w : World} (hr : Rel w0 fb ρ st.tmps st.heap a w) {r : ResultVar} {p : PV} (h : resP P st r = some p) :
    ∃ v, denP ρ p = some v ∧ (semR a r).run P w = .ok v w := by
  cases r with
  | tmp t =>
    simp only [resP] at h
    split at h
    · rename_i q e
      cases h
      exact ⟨_, hr.tmps t _ e, rfl⟩
    · cases h
  | cell t ty =>
    simp only [resP] at h
    cases h1 : getL st.tmps t with
    | none => simp [h1] at h
    | some s =>
      simp only [h1] at h
      split at h
      · rename_i q e
        cases h
        unfold loadV at e
        split at e
        · rename_i d i off
          cases h3 : getB st.heap d i with
          | none => simp [h3] at e
          | some blk =>
            simp only [h3] at e
            obtain ⟨b, e1, _, e3⟩ := hr.heap d i blk h3
            obtain ⟨b', g1, g2⟩ := relS_ptr (hr.tmps t _ h1)
            rw [e1] at g1
            cases g1
            rcases e3 with e3 | ⟨l, junk, q1, q2, _⟩
            · unfold getV at e
              rw [e3] at e
              cases e
            · obtain ⟨v, v1, v2⟩ := getV_spec (P := P) e trivial q1 q2
              refine ⟨v, v1, ?_⟩
              simp only [semR, g2, asAddr, Sem.run_bind, Sem.run_pure, Result.andThen_ok, v2]
        · cases e
      · cases h

theorem run_resPs {P : Program} {w0 : World} {fb : Nat → Prop} {ρ : Env} {st : St} {a : Act} {w : World} (hr : Rel w0 fb ρ st.tmps st.heap a w) : ∀ {rs : List ResultVar} {ps : List PV}, resPs P st rs = some ps →
    ∃ l, denPs ρ ps = some l ∧ (rs.mapM (semR a)).run P w = .ok l w
  | [], ps, h => by simp only [resPs] at h; cases h; exact ⟨[], rfl, rfl⟩
  | r :: rs, ps, h => by
    simp only [resPs] at h
    cases h1 : resP P st r with
    | none => simp [h1] at h
    | some p =>
      cases h2 : resPs P st rs with
      | none => simp [h1, h2] at h
      | some qs =>
        simp only [h1, h2] at h
        cases h
        obtain ⟨v, v1, v2⟩ := run_resP hr h1
        obtain ⟨l, l1, l2⟩ := run_resPs hr h2
        refine ⟨v :: l, by simp [denPs, v1, l1], ?_⟩
        rw [List.mapM_cons]
        simp only [Sem.run_bind, v2, Result.andThen_ok, l2, Sem.run_pure]

theorem run_results {P : Program} {w0 : World} {fb : Nat → Prop} {ρ : Env} {st : St} {a : Act} {w : World} {fn : Func} (hr : Rel w0 fb ρ st.tmps st.heap a w) {ps : List PV} (h : resPs P st fn.results.toList = some ps) :
    ∃ v, relS ρ (tupOf ps) v ∧ (results fn a.tmps).run P w = .ok v w := by
  obtain ⟨l, l1, l2⟩ := run_resPs hr h
  have key : results fn a.tmps = (do let vs ← fn.results.mapM (semR a); pure (if h : vs.size = 1 then vs[0] else .tuple vs)) := by
    unfold results
    exact congrArg (fun g => (Array.mapM g fn.results >>= fun vs => (pure (if h : vs.size = 1 then vs[0] else .tuple vs) : Sem Value))) (funext fun r => by cases r <;> rfl)
  rw [key, Array.mapM_eq_mapM_toList]
  simp only [Sem.run_bind, Sem.run_map, l2, Result.andThen_ok]
  cases ps with
  | nil => simp only [denPs] at l1; cases l1; exact ⟨_, ⟨[], rfl, rfl⟩, by simp⟩
  | cons p ps =>
    simp only [denPs] at l1
    cases h1 : denP ρ p with
    | none => simp [h1] at l1
    | some v =>
      cases h2 : denPs ρ ps with
      | none => simp [h1, h2] at l1
      | some vs =>
        simp only [h1, h2] at l1
        cases l1
        cases ps with
        | nil =>
          simp only [denPs] at h2
          cases h2
          exact ⟨v, h1, by simp⟩
        | cons q qs =>
          refine ⟨_, ⟨v :: vs, by simp only [denPs] at h2 ⊢; simp [h1, h2], rfl⟩, ?_⟩
          have : vs.length ≠ 0 := by
            intro e
            simp only [denPs] at h2
            cases h3 : denP ρ q <;> cases h4 : denPs ρ qs <;> simp [h3, h4] at h2
            subst h2; simp at e
          simp [this]

def pvVals : List PV → Option (List Value)
  | [] => some []
  | p :: ps => match p.val?, pvVals ps with
    | some v, some vs => some (v :: vs)
    | _, _ => none

theorem pvVals_spec {ρ : Env} : ∀ {ps : List PV} {l : List Value}, pvVals ps = some l → denPs ρ ps = some l
  | [], l, h => by simp only [pvVals] at h; cases h; rfl
  | p :: ps, l, h => by
    simp only [pvVals] at h
    cases h1 : p.val? with
    | none => simp [h1] at h
    | some v =>
      cases h2 : pvVals ps with
      | none => simp [h1, h2] at h
      | some vs =>
        simp only [h1, h2] at h
        cases h
        have : denP ρ p = some v := PV.val?_den h1
        simp [denPs, this, pvVals_spec h2]

def SV.val? : SV → Option Value
  | .any => none
  | .pv p => p.val?
  | .tup ps => match pvVals ps with
    | some l => some (.tuple l.toArray)
    | none => none

theorem SV.val?_spec {ρ : Env} {s : SV} {v u : Value} (h : s.val? = some v) (r : relS ρ s u) : u = v := by
  cases s with
  | any => cases h
  | pv p => exact PV.val?_spec h r
  | tup ps =>
    simp only [SV.val?] at h
    cases h1 : pvVals ps with
    | none => simp [h1] at h
    | some l =>
      simp only [h1] at h
      cases h
      obtain ⟨m, m1, m2⟩ := r
      rw [pvVals_spec h1] at m1
      cases m1
      exact m2

def start (ntmps : Nat) (ps : List PV) : St := ⟨ps.map .pv ++ List.replicate (ntmps - ps.length) (.tup []), List.replicate ntmps []⟩

/-- a function's own result: of arguments the value, what must hold -/
def leafV (P : Program) (fn : Func) (out : Out) (ob : List Prop) : Option (SV × List Prop) :=
  match outSt out with
  | some st => match resPs P st fn.results.toList with
    | some ps => some (tupOf ps, ob)
    | none => none
  | none => none

def callX (P : Program) (T : Table) (n : Nat) (fn : Func) (ps : List PV) : Option (SV × List Prop) :=
  match fn.body with
  | some c => exec P T (fun _ => true) (leafV P fn) n [.code c] (start fn.ntmps ps) []
  | none => none

theorem start_rel {ρ0 : Env} (hρ : ρ0 = ⟨fun _ _ => none, fun _ _ => 0⟩) {ntmps : Nat} {ps : List PV} {vals : List Value} (hps : pvVals ps = some vals) (hn : ps.length ≤ ntmps) (fb : Nat → Prop) (w : World) :
    Rel w fb ρ0 (start ntmps ps).tmps (start ntmps ps).heap { tmps := vals.toArray ++ Array.replicate (ntmps - vals.toArray.size) undef, defers := [] } w := by
  have hd := pvVals_spec (ρ := ρ0) hps
  have hl : vals.length = ps.length := by
    clear hn hρ
    induction ps generalizing vals with
    | nil => simp only [pvVals] at hps; cases hps; rfl
    | cons p ps ih =>
      simp only [pvVals] at hps
      cases h1 : p.val? with
      | none => simp [h1] at hps
      | some v =>
        cases h2 : pvVals ps with
        | none => simp [h1, h2] at hps
        | some vs =>
          simp only [h1, h2] at hps
          cases hps
          simp [ih h2 (pvVals_spec h2)]
  refine ⟨?_, ?_, rfl, ?_, ?_, ?_, ?_, ⟨rfl, rfl, rfl, Nat.le_refl _, fun _ _ _ => rfl⟩⟩
  · intro t s hs
    simp only [start, getL_eq] at hs
    rw [List.getElem?_append] at hs
    split at hs
    · rename_i ht
      simp only [List.length_map] at ht
      simp only [List.getElem?_map, Option.map_eq_some_iff] at hs
      obtain ⟨p, hp, rfl⟩ := hs
      obtain ⟨v, v1, v2⟩ := getL_denPs hd (by rw [getL_eq]; exact hp)
      have : (vals.toArray ++ Array.replicate (ntmps - vals.toArray.size) undef)[t]? = some v := by
        rw [Array.getElem?_append_left (by simp; omega)]
        simpa using v1
      simp only [Array.getD_eq_getD_getElem?, this, Option.getD_some]
      exact v2
    · rename_i ht
      simp only [List.length_map] at ht hs
      rw [List.getElem?_replicate] at hs
      split at hs
      · rename_i h2
        cases hs
        have : (vals.toArray ++ Array.replicate (ntmps - vals.toArray.size) undef)[t]? = some undef := by
          rw [Array.getElem?_append_right (by simp; omega)]
          rw [Array.getElem?_replicate, if_pos (by simp; omega)]
        simp only [Array.getD_eq_getD_getElem?, this, Option.getD_some]
        exact ⟨[], rfl, rfl⟩
      · cases hs
  · simp [start, hl]
  · intro d i blk hg
    exfalso
    simp only [start, getB, getL_eq, List.getElem?_replicate] at hg
    split at hg
    · rename_i l hl'
      split at hl'
      · cases hl'; simp at hg
      · cases hl'
    · cases hg
  · intro d i b hb; rw [hρ] at hb; cases hb
  · intro d i d' i' b hb; rw [hρ] at hb; cases hb
  · intro d i b blk hb; rw [hρ] at hb; cases hb

/-- WHAT A FUNCTION COMES TO, by the reckoning of its text. -/
theorem calls_of_exec {P : Program} {T : Table} (hT : TableOK P T) (hm : P.follows .mixedOrders = true) {f : FuncId} {fn : Func} (hf : P.funcs[f]? = some fn) {n : Nat} {ps : List PV} {vals : List Value}
    (hps : pvVals ps = some vals) (hn : Nat.ble ps.length fn.ntmps = true) {sv : SV} {ob : List Prop} (he : callX P T n fn ps = some (sv, ob)) (hob : AllP ob) {v : Value} (hv : sv.val? = some v) (w : World) :
    Calls P f vals.toArray w fun e w' => e = .returned v ∧ Below w.heap.size w w' := by
  unfold callX at he
  cases hb : fn.body with
  | none => simp [hb] at he
  | some c =>
    simp only [hb] at he
    refine calls_of_wp hf hb ?_
    have key : ∀ out ob', leafV P fn out ob' = some (sv, ob) → AllP ob' ∧ Leaf P w (fun _ => False) (bodyPost P fn fun e w' => e = .returned v ∧ Below w.heap.size w w') out := by
      intro out ob' hl
      unfold leafV at hl
      have fin : ∀ st, outSt out = some st → ob' = ob ∧ ∀ ρ a w', Rel w (fun _ => False) ρ st.tmps st.heap a w' → a.defers = [] ∧ ∃ u, (results fn a.tmps).run P w' = .ok u w' ∧ (Ending.returned u = .returned v ∧ Below w.heap.size w w') := by
        intro st hst
        simp only [hst] at hl
        cases h2 : resPs P st fn.results.toList with
        | none => simp [h2] at hl
        | some qs =>
          simp only [h2] at hl
          cases hl
          refine ⟨rfl, fun ρ a w' hr => ⟨hr.defers, ?_⟩⟩
          obtain ⟨u, u1, u2⟩ := run_results hr h2
          have := SV.val?_spec hv u1
          subst this
          refine ⟨u, u2, rfl, ?_⟩
          have k := hr.keep
          exact ⟨k.os, k.tape, k.output, k.size, fun j hj => k.block j hj id⟩
      cases out with
      | fall st => obtain ⟨e, h⟩ := fin st rfl; subst e; exact ⟨hob, fun ρ a w' hr => h ρ a w' hr⟩
      | ret st => obtain ⟨e, h⟩ := fin st rfl; subst e; exact ⟨hob, fun ρ a w' hr => h ρ a w' hr⟩
      | ex id st => simp [outSt] at hl
      | stop k st => simp [outSt] at hl
    obtain ⟨_, h⟩ := exec_sound hT hm key n [.code c] (start fn.ntmps ps) [] he
    exact wp_mono (h _ _ w (start_rel rfl hps (Nat.le_of_ble_eq_true hn) _ w)) fun e a w' hq => by cases e <;> exact hq

end Eng
