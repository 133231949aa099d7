/-
A program's operations carried out on values written out: functions with a loop that is gone through by what holds at each round's head.
-/
import Derived.Test.YtahkpabndfaoiaaE11
namespace Eng
open Go Go.RowKit

def memN (i : Nat) : List Nat → Bool
  | [] => false
  | j :: l => Nat.beq i j || memN i l

/-- only some slots are still of use -/
def wkT (keep : List Nat) : Nat → List SV → List SV
  | _, [] => []
  | i, s :: l => cond (memN i keep) s .any :: wkT keep (i + 1) l

theorem wkT_get {keep : List Nat} : ∀ {l : List SV} {i t : Nat} {s : SV}, getL (wkT keep i l) t = some s → s = .any ∨ getL l t = some s
  | [], i, t, s, h => by simp [wkT, getL] at h
  | x :: l, i, 0, s, h => by
    simp only [wkT, getL, Option.some.injEq] at h
    cases hm : memN i keep with
    | true => rw [hm] at h; exact .inr (by simp only [getL]; rw [← h]; rfl)
    | false => rw [hm] at h; exact .inl h.symm
  | x :: l, i, t + 1, s, h => by
    simp only [wkT, getL] at h
    simpa only [getL] using wkT_get h

theorem wkT_length {keep : List Nat} : ∀ {l : List SV} {i : Nat}, (wkT keep i l).length = l.length
  | [], _ => rfl
  | _ :: l, i => by simp [wkT, wkT_length]

theorem Rel.wk {w0 : World} {fb : Nat → Prop} {ρ : Env} {tm : List SV} {h : Heap} {a : Act} {w : World} (r : Rel w0 fb ρ tm h a w) (keep : List Nat) : Rel w0 fb ρ (wkT keep 0 tm) h a w where
  tmps := fun t s e => by
    rcases wkT_get e with rfl | e
    · trivial
    · exact r.tmps t s e
  len := by rw [wkT_length]; exact r.len
  defers := r.defers
  heap := r.heap
  dom := r.dom
  inj := r.inj
  low := r.low
  keep := r.keep

inductive Stop where
  | at (k : List It) (st : St)
  | out (sv : SV)

def leafL (P : Program) (fn : Func) (keep : List Nat) : Out → List Prop → Option (Stop × List Prop)
  | .stop k st, ob => some (.at k ⟨wkT keep 0 st.tmps, st.heap⟩, ob)
  | .fall st, ob => match leafV P fn (.fall st) ob with
    | some (sv, ob) => some (.out sv, ob)
    | none => none
  | .ret st, ob => match leafV P fn (.ret st) ob with
    | some (sv, ob) => some (.out sv, ob)
    | none => none
  | .ex _ _, _ => none

def runL (P : Program) (T : Table) (fn : Func) (keep : List Nat) (n : Nat) (k : List It) (st : St) : Option (Stop × List Prop) :=
  exec P T (fun _ => false) (leafL P fn keep) n k st []

/-- the round's head, of a function's first loop -/
def head1 (P : Program) (T : Table) (fn : Func) (ps : List PV) : Option (Code × List It) :=
  match fn.body with
  | some c => match runL P T fn [] 1000 [.code c] (start fn.ntmps ps) with
    | some (.at (.code (.loop b) :: k) _, _) => some (b, k)
    | _ => none
  | none => none

section
variable {P : Program} {T : Table} (hT : TableOK P T) (hm : P.follows .mixedOrders = true) {f : FuncId} {fn : Func} (hf : P.funcs[f]? = some fn)
include hT hm hf

omit hf in
theorem runL_sound {keep : List Nat} {n : Nat} {k : List It} {st : St} {r : Stop} {ob : List Prop} {v : Value} {w0 : World} (h : runL P T fn keep n k st = some (r, ob)) (hob : AllP ob)
    (hr : match r with
      | .at k' st' => ∀ ρ a w, Rel w0 (fun _ => False) ρ st'.tmps st'.heap a w → cont P (bodyPost P fn fun e w' => e = .returned v ∧ Below w0.heap.size w0 w') k' .normal a w
      | .out sv => sv.val? = some v) :
    ∀ (ρ : Env) (a : Act) (w : World), Rel w0 (fun _ => False) ρ st.tmps st.heap a w → cont P (bodyPost P fn fun e w' => e = .returned v ∧ Below w0.heap.size w0 w') k .normal a w := by
  refine (exec_sound (w0 := w0) (fb := fun _ => False) hT hm (Q := bodyPost P fn fun e w' => e = .returned v ∧ Below w0.heap.size w0 w') ?_ n k st [] h).2
  intro out ob' hl
  have fin : ∀ st, (match leafV P fn (.fall st) ob' with
    | some (sv, ob) => some (Stop.out sv, ob)
    | none => none) = some (r, ob) → ob' = ob ∧ ∀ ρ a w', Rel w0 (fun _ => False) ρ st.tmps st.heap a w' → a.defers = [] ∧ ∃ u, (results fn a.tmps).run P w' = .ok u w' ∧ (Ending.returned u = .returned v ∧ Below w0.heap.size w0 w') := by
    intro st hst
    simp only [leafV, outSt] at hst
    cases h2 : resPs P st fn.results.toList with
    | none => simp [h2] at hst
    | some qs =>
      simp only [h2] at hst
      cases hst
      refine ⟨rfl, fun ρ a w' hr' => ⟨hr'.defers, ?_⟩⟩
      obtain ⟨u, u1, u2⟩ := run_results hr' h2
      have := SV.val?_spec hr u1
      subst this
      refine ⟨u, u2, rfl, ?_⟩
      have k := hr'.keep
      exact ⟨k.os, k.tape, k.output, k.size, fun j hj => k.block j hj id⟩
  cases out with
  | fall st => exact ⟨(fin st hl).1 ▸ hob, fun ρ a w' hr => (fin st hl).2 ρ a w' hr⟩
  | ret st => exact ⟨(fin st hl).1 ▸ hob, fun ρ a w' hr => (fin st hl).2 ρ a w' hr⟩
  | ex id st => simp [leafL] at hl
  | stop k' st' =>
    simp only [leafL] at hl
    cases hl
    exact ⟨hob, fun ρ a w' hr' => hr ρ a w' (hr'.wk keep)⟩

/-- A FUNCTION WITH A LOOP -/
theorem loop_calls {c b : Code} {k : List It} {keep : List Nat} {N n m : Nat} {ps : List PV} {vals : List Value} {σ : Type} {v : Value} (S : Nat → σ → St) (I : Nat → σ → Prop) (hb : fn.body = some c)
    (hps : pvVals ps = some vals) (hn : Nat.ble ps.length fn.ntmps = true)
    (pre : ∃ ob s0, runL P T fn keep n [.code c] (start fn.ntmps ps) = some (.at (.code (.loop b) :: k) (S 0 s0), ob) ∧ AllP ob ∧ I 0 s0)
    (round : ∀ i s, i ≤ N → I i s → ∃ ob r, runL P T fn keep m (.code b :: .lp b :: k) (S i s) = some (r, ob) ∧ AllP ob ∧
      match r with
      | .at k' st' => k' = .lp b :: k ∧ i < N ∧ ∃ s', st' = S (i + 1) s' ∧ I (i + 1) s'
      | .out sv => sv.val? = some v) (w : World) :
    Calls P f vals.toArray w fun e w' => e = .returned v ∧ Below w.heap.size w w' := by
  refine calls_of_wp hf hb ?_
  have loop : ∀ d i s, N - i = d → i ≤ N → I i s → ∀ ρ a w', Rel w (fun _ => False) ρ (S i s).tmps (S i s).heap a w' → LoopW P b (cont P (bodyPost P fn fun e w' => e = .returned v ∧ Below w.heap.size w w') k) a w' := by
    intro d
    induction d with
    | zero =>
      intro i s hd hi hI ρ a w' hr
      obtain ⟨ob, r, h1, h2, h3⟩ := round i s hi hI
      refine loopW_round (runL_sound (v := v) hT hm h1 h2 ?_ ρ a w' hr)
      cases r with
      | «at» k' st' => obtain ⟨_, hlt, _⟩ := h3; omega
      | out sv => exact h3
    | succ d ih =>
      intro i s hd hi hI ρ a w' hr
      obtain ⟨ob, r, h1, h2, h3⟩ := round i s hi hI
      refine loopW_round (runL_sound (v := v) hT hm h1 h2 ?_ ρ a w' hr)
      cases r with
      | «at» k' st' =>
        obtain ⟨rfl, hlt, s', rfl, hI'⟩ := h3
        exact fun ρ a w hr => ih (i + 1) s' (by omega) (by omega) hI' ρ a w hr
      | out sv => exact h3
  obtain ⟨ob, s0, h1, h2, h3⟩ := pre
  have hw := runL_sound (v := v) (w0 := w) hT hm h1 h2 (fun ρ a w' hr => wp_of_loopW (loop N 0 s0 (by omega) (by omega) h3 ρ a w' hr))
  exact wp_mono (hw _ _ w (start_rel rfl hps (Nat.le_of_ble_eq_true hn) _ w)) fun e a w' hq => by cases e <;> exact hq
end

def bodyOf (fn : Func) : Code := match fn.body with
  | some c => c
  | none => .skip

/-- a text's first loop, and what comes behind it -/
def nav : Nat → Code → List It → Option (Code × List It)
  | 0, _, _ => none
  | _ + 1, .loop b, k => some (b, k)
  | n + 1, .seq a b, k => match nav n a (.code b :: k) with
    | some r => some r
    | none => nav n b k
  | n + 1, .block id b, k => nav n b (.blk id :: k)
  | _, _, _ => none

def hd (fn : Func) : Code × List It := match nav 100 (bodyOf fn) [] with
  | some r => r
  | none => (.skip, [])

/-- where a function comes to its first loop -/
def first (P : Program) (T : Table) (fn : Func) (keep : List Nat) (n : Nat) (ps : List PV) : Option (Stop × List Prop) :=
  runL P T fn keep n [.code (bodyOf fn)] (start fn.ntmps ps)
def first0 (P : Program) (T : Table) (fn : Func) (keep : List Nat) (n : Nat) (ps : List PV) : St :=
  match first P T fn keep n ps with
  | some (.at _ st, _) => st
  | _ => ⟨[], []⟩
def round (P : Program) (T : Table) (fn : Func) (keep : List Nat) (n : Nat) (st : St) : Option (Stop × List Prop) :=
  runL P T fn keep n (.code (hd fn).1 :: .lp (hd fn).1 :: (hd fn).2) st
def atHead (fn : Func) (st : St) : Stop := .at (.code (.loop (hd fn).1) :: (hd fn).2) st
def again (fn : Func) (st : St) : Stop := .at (.lp (hd fn).1 :: (hd fn).2) st

def setS (st : St) (t : Nat) (s : SV) : St := ⟨setL st.tmps t s, st.heap⟩
/-- the cells of a block -/
def setC (st : St) (d : Nat) (cs : List Cell) : St := ⟨st.tmps, match getL st.heap d with
  | some (b :: l) => setL st.heap d (⟨cs, b.ty, b.kd⟩ :: l)
  | _ => st.heap⟩

theorem map_range_eq {α : Type} {f g : Nat → α} {n : Nat} (h : (List.range n).map f = (List.range n).map g) {i : Nat} (hi : i < n) : f i = g i :=
  List.map_inj_left.1 h i (List.mem_range.2 hi)

theorem loopCalls {P : Program} {T : Table} (hT : TableOK P T) (hm : P.follows .mixedOrders = true) {f : FuncId} {fn : Func} (hf : P.funcs[f]? = some fn) (hb : fn.body.isSome = true) {keep : List Nat} {n m : Nat} (N : Nat) {ps : List PV} {vals : List Value} {σ : Type} {v : Value} (S : Nat → σ → St) (I : Nat → σ → Prop)
    (hps : pvVals ps = some vals) (hn : Nat.ble ps.length fn.ntmps = true)
    (pre : ∃ ob s0, first P T fn keep n ps = some (atHead fn (S 0 s0), ob) ∧ AllP ob ∧ I 0 s0)
    (rnd : ∀ i s, i < N → I i s → ∃ ob s', round P T fn keep m (S i s) = some (again fn (S (i + 1) s'), ob) ∧ AllP ob ∧ I (i + 1) s')
    (last : ∀ s, I N s → ∃ ob sv, round P T fn keep m (S N s) = some (.out sv, ob) ∧ AllP ob ∧ sv.val? = some v) (w : World) :
    Calls P f vals.toArray w fun e w' => e = .returned v ∧ Below w.heap.size w w' := by
  have hb' : fn.body = some (bodyOf fn) := by
    unfold bodyOf
    cases h : fn.body with
    | none => rw [h] at hb; cases hb
    | some c => rfl
  refine loop_calls (m := m) (N := N) hT hm hf S I hb' hps hn pre ?_ w
  intro i s hi hI
  by_cases hlt : i < N
  · obtain ⟨ob, s', h1, h2, h3⟩ := rnd i s hlt hI
    exact ⟨ob, _, h1, h2, rfl, hlt, s', rfl, h3⟩
  · have : i = N := by omega
    subst this
    obtain ⟨ob, sv, h1, h2, h3⟩ := last s hI
    exact ⟨ob, _, h1, h2, h3⟩

end Eng
