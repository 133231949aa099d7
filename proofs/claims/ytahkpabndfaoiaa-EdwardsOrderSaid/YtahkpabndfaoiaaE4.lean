/-
A program's operations carried out on values written out: all that leave memory alone, and calls by what is known of the callee.
-/
import Derived.Test.YtahkpabndfaoiaaE3
import Derived.Laws.Tables
import Derived.Laws.OwnMore
namespace Eng
open Go Go.RowKit

def AllP : List Prop → Prop
  | [] => True
  | p :: ps => p ∧ AllP ps

theorem AllP_append : ∀ {ps qs : List Prop}, AllP (ps ++ qs) → AllP ps ∧ AllP qs
  | [], _, h => ⟨trivial, h⟩
  | _ :: _, _, ⟨h1, h2⟩ => ⟨⟨h1, (AllP_append h2).1⟩, (AllP_append h2).2⟩

/-- what is known of a function: of arguments the result, and what must hold for that -/
abbrev FnSpec := List PV → Option (SV × List Prop)
/-- a result: a value, or a slice of elements of a type -/
inductive SRes where
  | val (s : SV)
  | row (e : TypeId) (cs : List Cell)
/-- an argument: a plain value, a slice that is read, a slice that is handed over -/
inductive SMode where
  | plain | read
  | own (e : TypeId)
/-- what is known of a function of one argument, it or the result a slice -/
structure SlSpec where
  mode : SMode
  res : PV → Option (SRes × List Prop)
structure Table where
  fn : FuncId → Option FnSpec
  sl : FuncId → Option SlSpec
instance : CoeFun Table (fun _ => FuncId → Option FnSpec) := ⟨Table.fn⟩

/-- carried out, it hands back v, and below its own blocks nothing has turned -/
def CallYields (P : Program) (f : FuncId) (args : Array Value) (w : World) (v : Value) : Prop :=
  (callFunc f args).run P w = .ok (.value v) w ∨
    ((callFunc f args).run P w = .ok (.enter f args) w ∧ Calls P f args w fun e w' => e = .returned v ∧ Below w.heap.size w w')

def SpecOK (P : Program) (f : FuncId) (g : FnSpec) : Prop :=
  ∀ ps sv pre, g ps = some (sv, pre) → AllP pre → ∀ ρ vals, denPs ρ ps = some vals → ∀ w, ∃ v, relS ρ sv v ∧ CallYields P f vals.toArray w v

/-- a slice and its elements -/
def rowAt (w : World) (v : Value) (l : List Value) : Prop :=
  ∃ b cap arr ty, v = .slice (some ⟨b, 0, none⟩) l.length cap ∧ w.heap[b]? = some (.cells arr ty (0, 0)) ∧ arr.toList.take l.length = l ∧ l.length ≤ cap
/-- a slice of one's own, with its row -/
def ownAt (w : World) (v : Value) (e : TypeId) (b : Nat) (l : List Value) : Prop :=
  ∃ cap arr, v = .slice (some ⟨b, 0, none⟩) l.length cap ∧ w.heap[b]? = some (.cells arr e (0, 0)) ∧ arr.toList.take l.length = l ∧ l.length ≤ cap ∧ cap ≤ maxLen ∧ arr.size = cap
def ArgRel (m : SMode) (ρ : Env) (w : World) (p : PV) (v : Value) : Prop := match m with
  | .plain => denP ρ p = some v
  | .read => ∃ cs l, p = .agg cs ∧ denCs ρ cs = some l ∧ rowAt w v l
  | .own e => ∃ cs l b, p = .agg cs ∧ denCs ρ cs = some l ∧ ownAt w v e b l
def lostBlock (m : SMode) (v : Value) : Option Nat := match m with
  | .own _ => v.ownBlock
  | _ => none
def ResRel (ρ : Env) (out : SRes) (lost : Option Nat) (w w' : World) (u : Value) : Prop := match out with
  | .val s => relS ρ s u
  | .row e cs => ∃ l b, denCs ρ cs = some l ∧ ownAt w' u e b l ∧ (w.heap.size ≤ b ∨ lost = some b)
def SlOK (P : Program) (f : FuncId) (sp : SlSpec) : Prop :=
  ∀ p out pre, sp.res p = some (out, pre) → AllP pre → ∀ ρ v w, ArgRel sp.mode ρ w p v →
    (callFunc f #[v]).run P w = .ok (.enter f #[v]) w ∧ Calls P f #[v] w fun e w' => ∃ u, e = .returned u ∧ w.grownBy w' (lostBlock sp.mode v) ∧ ResRel ρ out (lostBlock sp.mode v) w w' u
structure TableOK (P : Program) (T : Table) : Prop where
  fn : ∀ f g, T.fn f = some g → SpecOK P f g
  sl : ∀ f g, T.sl f = some g → SlOK P f g

def okC : Cell → Bool
  | .val v => isOne v
  | _ => true

def okCs : List Cell → Bool
  | [] => true
  | c :: cs => okC c && okCs cs

def PV.cells : PV → List Cell
  | .one c => [c]
  | .agg cs => cs

def PV.ok : PV → Bool
  | .one c => okC c
  | .agg _ => true

theorem okC_spec {ρ : Env} {c : Cell} {l : List Value} (h : okC c = true) (e : denC ρ c = some l) : ∀ v ∈ l, isOne v = true := by
  have dl : ∀ k w x n, ∀ v ∈ digL k w x n, isOne v = true := by
    intro k w x n v hv
    simp only [digL, List.mem_map] at hv
    obtain ⟨i, _, rfl⟩ := hv
    rfl
  cases c with
  | val u => simp only [denC] at e; cases e; intro v hv; simp at hv; subst hv; exact h
  | ptr d i off =>
    simp only [denC] at e
    cases hb : ρ d i with
    | none => simp [hb] at e
    | some b => simp only [hb] at e; cases e; intro v hv; simp at hv; subst hv; rfl
  | dg1 k w x i => simp only [denC] at e; cases e; intro v hv; simp at hv; subst hv; rfl
  | fe x => simp only [denC] at e; cases e; exact dl _ _ _ _
  | nm x => simp only [denC] at e; cases e; exact dl _ _ _ _
  | dig k w x n => simp only [denC] at e; cases e; exact dl _ _ _ _
  | arr k l => simp only [denC] at e; cases e; intro v hv; simp only [List.mem_map] at hv; obtain ⟨i, _, rfl⟩ := hv; rfl
  | sli d i off n c sym =>
    simp only [denC] at e
    cases hb : ρ d i with
    | none => simp [hb] at e
    | some b =>
      simp only [hb] at e
      cases hc : Nat.ble n (c.getD (ρ.cap d i - off)) with
      | true => rw [hc] at e; cases e; intro v hv; simp at hv; subst hv; rfl
      | false => rw [hc] at e; cases e

theorem cells_one {v : Value} (h : isOne v = true) : v.cells = #[v] := by
  cases v <;> first | rfl | (cases h)

theorem PV.cells_spec {ρ : Env} {p : PV} {v : Value} (h : p.ok = true) (e : denP ρ p = some v) : denCs ρ p.cells = some v.cells.toList := by
  cases p with
  | one c =>
    have e' := denP_one e
    rw [cells_one (okC_spec h e' v (by simp))]
    exact denCs_one e'
  | agg cs =>
    simp only [denP] at e
    cases h1 : denCs ρ cs with
    | none => simp [h1] at e
    | some l => simp only [h1] at e; cases e; exact h1

def fillS (place : Nat → Option (Nat × Nat)) (cells : List Cell) : List (Nat × PV) → Option (List Cell)
  | [] => some cells
  | (i, p) :: rest =>
    match place i with
    | none => none
    | some (off, size) =>
      cond (p.ok && Nat.beq (widS p.cells) size) (match putAt cells off p.cells with
        | some cells' => fillS place cells' rest
        | none => none) none

def buildS (P : Program) (t : TypeId) (parts : List (Nat × PV)) : Option (List Cell) :=
  match P.info? t, P.underlying t with
  | some it, some (.array _ e) =>
    match it.zero, P.info? e with
    | some z, some ie => fillS (fun i => some (i * ie.size, ie.size)) (z.cells.toList.map .val) parts
    | _, _ => none
  | some it, some (.struct fields) =>
    match it.zero, fields.toList.mapM (fun f => (P.info? f.type).map fun i => (f.offset, i.size)) with
    | some z, some places => fillS (fun i => getL places i) (z.cells.toList.map .val) parts
    | _, _ => none
  | _, _ => none

theorem fold_spl (off : Nat) : ∀ (vs : List Value) (l : List Value) (k : Nat),
    (vs.zipIdx k).foldl (fun cs (p : Value × Nat) => cs.setIfInBounds (off + p.2) p.1) l.toArray = (spl l (off + k) vs).toArray
  | [], l, k => rfl
  | v :: vs, l, k => by
    simp only [List.zipIdx_cons, List.foldl_cons, List.setIfInBounds_toArray]
    rw [fold_spl off vs (l.set (off + k) v) (k + 1)]
    rfl

/-- parts and what they stand for -/
def denParts (ρ : Env) : List (Nat × PV) → Option (List (Nat × Value))
  | [] => some []
  | (i, p) :: rest => match denP ρ p, denParts ρ rest with
    | some v, some vs => some ((i, v) :: vs)
    | _, _ => none

theorem fillS_spec {ρ : Env} (place : Nat → Option (Nat × Nat)) : ∀ (parts : List (Nat × PV)) (cells out : List Cell) (l : List Value) (vparts : List (Nat × Value)),
    fillS place cells parts = some out → denCs ρ cells = some l → denParts ρ parts = some vparts → ∃ m, Instr.fill place l.toArray vparts = some m.toArray ∧ denCs ρ out = some m := by
  intro parts
  induction parts with
  | nil =>
    intro cells out l vparts h e e'
    simp only [fillS] at h; cases h
    simp only [denParts] at e'; cases e'
    exact ⟨l, rfl, e⟩
  | cons x rest ih =>
    obtain ⟨i, p⟩ := x
    intro cells out l vparts h e e'
    simp only [denParts] at e'
    cases h1 : denP ρ p with
    | none => simp [h1] at e'
    | some v =>
      cases h2 : denParts ρ rest with
      | none => simp [h1, h2] at e'
      | some vs =>
        simp only [h1, h2] at e'
        cases e'
        simp only [fillS] at h
        cases hp : place i with
        | none => simp [hp] at h
        | some os =>
          obtain ⟨off, size⟩ := os
          simp only [hp] at h
          by_cases hok : (p.ok && Nat.beq (widS p.cells) size) = true
          · rw [hok] at h
            simp only [cond_true] at h
            obtain ⟨ok1, ok2⟩ := Bool.and_eq_true_iff.1 hok
            have hlen : widS p.cells = size := Nat.eq_of_beq_eq_true ok2
            cases hput : putAt cells off p.cells with
            | none => simp [hput] at h
            | some cells' =>
              simp only [hput] at h
              have hc := PV.cells_spec ok1 h1
              obtain ⟨g1, g2⟩ := putAt_spec cells off p.cells hput e hc
              obtain ⟨m, m1, m2⟩ := ih cells' out _ vs h g1 h2
              refine ⟨m, ?_, m2⟩
              have hsz : v.cells.size = size := by have := denCs_length hc; simp at this; omega
              simp only [Instr.fill, hp]
              rw [if_neg (by simp [hsz]; simp at g2; omega)]
              have hf := fold_spl off v.cells.toList l 0
              rw [Nat.add_zero] at hf
              rw [← m1, ← hf, ← Array.foldl_toList, Array.toList_zipIdx]
          · have hok' : (p.ok && Nat.beq (widS p.cells) size) = false := Bool.eq_false_iff.2 hok
            rw [hok'] at h
            cases h

theorem buildS_spec {P : Program} {ρ : Env} {t : TypeId} {parts : List (Nat × PV)} {out : List Cell} {vparts : List (Nat × Value)} (h : buildS P t parts = some out) (e : denParts ρ parts = some vparts) (w : World) :
    ∃ m, denCs ρ out = some m ∧ (Instr.build t vparts.toArray).run P w = .ok (.agg m.toArray) w := by
  have key : ∃ m, denCs ρ out = some m ∧ P.built t vparts = some m.toArray := by
    unfold buildS at h
    unfold Program.built
    cases hit : P.info? t with
    | none => simp [hit] at h
    | some it =>
      cases hu : P.underlying t with
      | none => simp [hit, hu] at h
      | some d =>
        cases d <;> try (simp [hit, hu] at h; done)
        case array n el =>
          cases hz : it.zero with
          | none => simp [hit, hu, hz] at h
          | some z =>
            cases hie : P.info? el with
            | none => simp [hit, hu, hz, hie] at h
            | some ie =>
              simp only [hit, hu, hz, hie] at h ⊢
              obtain ⟨m, m1, m2⟩ := fillS_spec (ρ := ρ) _ parts _ out z.cells.toList vparts h (denCs_vals ρ _) e
              exact ⟨m, m2, m1⟩
        case struct fields =>
          cases hz : it.zero with
          | none => simp [hit, hu, hz] at h
          | some z =>
            cases hp : fields.toList.mapM (fun f => (P.info? f.type).map fun i => (f.offset, i.size)) with
            | none => simp [hit, hu, hz, hp] at h
            | some places =>
              simp only [hit, hu, hz, hp] at h ⊢
              obtain ⟨m, m1, m2⟩ := fillS_spec (ρ := ρ) _ parts _ out z.cells.toList vparts h (denCs_vals ρ _) e
              refine ⟨m, m2, ?_⟩
              rw [← m1]
              congr 1
              funext i
              rw [getL_eq]
              simp
  obtain ⟨m, m1, m2⟩ := key
  exact ⟨m, m1, run_build w t _ _ (by simpa using m2)⟩

def idxOk (i : Int) (n : Nat) : Bool := decide (0 ≤ i) && decide (i < n)

def binEq (P : Program) (t : TypeId) (p q : PV) : Option Bool :=
  match p.val?, q.val? with
  | some (.bool a), some (.bool b) => eqAt P 1 t (.bool a) (.bool b)
  | some (.string a), some (.string b) => some (a.toList == b.toList)
  | some (.agg xs), some (.agg ys) => cond (P.eqGuardType P.depth t) none (eqAt P 40 t (.agg xs) (.agg ys))
  | _, _ => none

def binAny (P : Program) (op : BinOp) (t : TypeId) (x y : SV) : Option SV :=
  match binV op x y with
  | some s => some s
  | none =>
    match op, x, y with
    | .eql, .pv p, .pv q => match binEq P t p q with
      | some b => some (one (.bool b))
      | none => none
    | .neq, .pv p, .pv q => match binEq P t p q with
      | some b => some (one (.bool (!b)))
      | none => none
    | _, _, _ => none

theorem binEq_spec {P : Program} {ρ : Env} {t : TypeId} {p q : PV} {b : Bool} {vx vy : Value} (h : binEq P t p q = some b) (hx : relS ρ (.pv p) vx) (hy : relS ρ (.pv q) vy) (w : World) (ox oy : Operand) :
    (eqGuard .eql t ox oy vx vy).run P w = .ok () w ∧ (eqGuard .neq t ox oy vx vy).run P w = .ok () w ∧ (binOp .eql t vx vy).run P w = .ok (.bool b) w ∧ (binOp .neq t vx vy).run P w = .ok (.bool (!b)) w := by
  unfold binEq at h
  split at h
  · rename_i a c e1 e2
    have := PV.val?_spec e1 hx
    have := PV.val?_spec e2 hy
    subst_vars
    have hr := eqAt_spec (P := P) 9999 1 t _ _ _ h w
    refine ⟨by simp [eqGuard], by simp [eqGuard], ?_, ?_⟩
    · simp only [binOp, Op.equal, Op.maxDepth, Sem.run_bind, hr, Result.andThen_ok, Sem.run_pure]
    · simp only [binOp, Op.equal, Op.maxDepth, Sem.run_bind, hr, Result.andThen_ok, Sem.run_pure]
  · rename_i a c e1 e2
    have := PV.val?_spec e1 hx
    have := PV.val?_spec e2 hy
    subst_vars
    cases h
    refine ⟨by simp [eqGuard], by simp [eqGuard], ?_, ?_⟩
    · simp [binOp, Op.stringOp]
    · simp [binOp, Op.stringOp]
  · rename_i xs ys e1 e2
    have := PV.val?_spec e1 hx
    have := PV.val?_spec e2 hy
    subst_vars
    by_cases hg : P.eqGuardType P.depth t = true
    · simp [hg] at h
    · have hg' : P.eqGuardType P.depth t = false := by simpa using hg
      simp only [hg', cond_false] at h
      have hr := eqAt_spec (P := P) 9960 40 t _ _ _ h w
      refine ⟨run_eqGuard_agg w _ t ox oy xs ys hg', run_eqGuard_agg w _ t ox oy xs ys hg', ?_, ?_⟩
      · simp only [binOp, Op.equal, Op.maxDepth, Sem.run_bind, hr, Result.andThen_ok, Sem.run_pure]
      · simp only [binOp, Op.equal, Op.maxDepth, Sem.run_bind, hr, Result.andThen_ok, Sem.run_pure]
  · cases h

end Eng
