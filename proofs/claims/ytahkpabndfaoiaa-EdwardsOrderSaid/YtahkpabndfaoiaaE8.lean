/-
A program's operations carried out on values written out: a region whose order is open comes to what its text's order comes to.
-/
import Derived.Test.YtahkpabndfaoiaaE7
namespace Eng
open Go Go.RowKit

/-- what an operation has to do with memory -/
inductive Cls where
  | pure | read | make | write | own

def clsOf (T : Table) : Op → Cls
  | .call c => match c.callee with
    | .builtin .append => .own
    | .builtin .copy => .own
    | .value (.func f) => match T.sl f with
      | some _ => .own
      | none => .pure
    | _ => .pure
  | .makeSlice _ _ _ => .own
  | .buildSlice _ _ _ => .own
  | .load _ _ => .read
  | .store _ _ _ => .write
  | .alloc _ => .make
  | .box _ _ => .make
  | _ => .pure

def memB : Cls → Cls → Bool
  | .pure, _ => true
  | _, .pure => true
  | .read, .read => true
  | .read, .make => true
  | .make, .make => true
  | _, _ => false

/-- two operations, the first one ahead of the other one in the text, that may change places -/
def farB (T : Table) (ops : Array Oper) (y x : Oper) : Bool := match clsOf T y.op, clsOf T x.op with
  | .write, .write => match storeAt ops.toList y, storeAt ops.toList x with
    | some t, some t' => !Nat.beq t t'
    | _, _ => false
  | .make, .write => match y.dst, storeAt ops.toList x with
    | some d, some t => !Nat.beq d t
    | _, _ => false
  | .read, .write => match storeAt ops.toList y, storeAt ops.toList x with
    | some t, some t' => !Nat.beq t t'
    | _, _ => false
  | .write, .read => match storeAt ops.toList y, storeAt ops.toList x with
    | some t, some t' => !Nat.beq t t'
    | _, _ => false
  | .write, .make => match storeAt ops.toList y, x.dst with
    | some t, some d => !Nat.beq t d
    | _, _ => false
  | _, _ => false
def commB (T : Table) (ops : Array Oper) (y x : Oper) : Bool := y.apart ops x && (memB (clsOf T y.op) (clsOf T x.op) || farB T ops y x)

theorem ev_put {tm : List SV} {dst : Option Tmp} {v : SV} {x : Operand} (h : ∀ d, dst = some d → x ≠ .tmp d) : evO (putS tm dst v) x = evO tm x := by
  cases dst with
  | none => rfl
  | some d =>
    cases x with
    | tmp t =>
      have hne : d ≠ t := fun e => h d rfl (e ▸ rfl)
      simp only [putS, evO, getL_setL, if_neg hne]
    | _ => rfl

theorem argsOf_congr {ev ev' : Ev} : ∀ {xs : List Operand}, (∀ x ∈ xs, ev x = ev' x) → argsOf ev xs = argsOf ev' xs
  | [], _ => rfl
  | x :: xs, h => by
    have h1 := h x (by simp)
    have h2 := argsOf_congr (ev := ev) (ev' := ev') (xs := xs) (fun y hy => h y (by simp [hy]))
    simp only [argsOf, h1, h2]

theorem partsOf_congr {ev ev' : Ev} : ∀ {xs : List (Nat × Operand)}, (∀ x ∈ xs, ev x.2 = ev' x.2) → partsOf ev xs = partsOf ev' xs
  | [], _ => rfl
  | x :: xs, h => by
    have h1 := h x (by simp)
    have h2 := partsOf_congr (ev := ev) (ev' := ev') (xs := xs) (fun y hy => h y (by simp [hy]))
    simp only [partsOf, h1, h2]

theorem ownOp_congr {P : Program} {T : Table} {o : Oper} {ev ev' : Ev} {h : Heap} (hx : ∀ x ∈ o.op.operands, ev x = ev' x) : ownOp P T o ev h = ownOp P T o ev' h := by
  obtain ⟨dst, op, type, pos, after, guard⟩ := o
  simp only at hx
  cases op <;> simp only [ownOp]
  case call c =>
    have hc : ∀ x ∈ c.args.toList, ev x = ev' x := fun x hm => hx x (by simp [Op.operands, Call.operands]; right; simpa using hm)
    split
    · rename_i x y t t' _ ha _
      rw [ha] at hc
      simp only [hc x (by simp), hc y (by simp)]
    · rename_i x y t t' _ ha _
      rw [ha] at hc
      simp only [hc x (by simp), hc y (by simp)]
    · rename_i f x _ ha
      rw [ha] at hc
      simp only [hc x (by simp)]
    · rfl
  case makeSlice t l c => rw [hx l (by simp [Op.operands]), hx c (by simp [Op.operands])]
  case buildSlice t n parts =>
    have hc : partsOf ev parts.toList = partsOf ev' parts.toList := partsOf_congr fun x hm => hx x.2 (by simp only [Op.operands]; simp; exact ⟨x.1, by simpa using hm⟩)
    simp only [hc]

theorem evalOp_congr {P : Program} {T : Table} {o : Oper} {ev ev' : Ev} {h : Heap} (hx : ∀ x ∈ o.op.operands, ev x = ev' x) : evalOp P T o ev h = evalOp P T o ev' h := by
  have how : ownOp P T o ev h = ownOp P T o ev' h := ownOp_congr hx
  unfold evalOp
  rw [how]
  cases ownOp P T o ev' h with
  | some r => rfl
  | none =>
  obtain ⟨dst, op, type, pos, after, guard⟩ := o
  simp only at hx
  cases op <;> simp only [pureOp]
  case call c =>
    have hc0 : ∀ x ∈ c.args.toList, ev x = ev' x := fun x hm => hx x (by simp [Op.operands, Call.operands]; right; simpa using hm)
    have hc : argsOf ev c.args.toList = argsOf ev' c.args.toList := argsOf_congr hc0
    have hc' : c.args.toList.map ev = c.args.toList.map ev' := List.map_congr_left hc0
    simp only [hc, hc']
  case build t parts =>
    have hc : partsOf ev parts.toList = partsOf ev' parts.toList := partsOf_congr fun x hm => hx x.2 (by simp only [Op.operands]; simp; exact ⟨x.1, by simpa using hm⟩)
    simp only [hc]
  case move x => rw [hx x (by simp [Op.operands])]
  case assign x => rw [hx x (by simp [Op.operands])]
  case pick c x y => rw [hx c (by simp [Op.operands]), hx x (by simp [Op.operands]), hx y (by simp [Op.operands])]
  case box t x => rw [hx x (by simp [Op.operands])]
  case load t x => rw [hx x (by simp [Op.operands])]
  case store t x y => rw [hx x (by simp [Op.operands]), hx y (by simp [Op.operands])]
  case nilCheck x => rw [hx x (by simp [Op.operands])]
  case binOp op t x y t' => rw [hx x (by simp [Op.operands]), hx y (by simp [Op.operands])]
  case unOp op t x => rw [hx x (by simp [Op.operands])]
  case convert t t' x => rw [hx x (by simp [Op.operands])]
  case fieldAddr t x f => rw [hx x (by simp [Op.operands])]
  case field t x f => rw [hx x (by simp [Op.operands])]
  case indexAddr t x y => rw [hx x (by simp [Op.operands]), hx y (by simp [Op.operands])]
  case index t x y => rw [hx x (by simp [Op.operands]), hx y (by simp [Op.operands])]
  case slice t x lo hi mx =>
    rw [hx x (by simp [Op.operands])]
    cases mx with
    | some m => rfl
    | none =>
      cases lo with
      | some l => cases hi <;> rfl
      | none =>
        cases hi with
        | none => rfl
        | some hh => simp only [hx hh (by simp [Op.operands])]
  case extract x f => rw [hx x (by simp [Op.operands])]

theorem storeAt_spec {ops : List Oper} {o : Oper} {t : Tmp} (h : storeAt ops o = some t) : (∃ ty y, o.op = .store ty (addrOf o) y) ∨ ∃ ty, o.op = .load ty (addrOf o) := by
  unfold storeAt at h
  split at h
  · rename_i ty t' y e
    exact .inl ⟨ty, y, by unfold addrOf; rw [e]⟩
  · rename_i ty t' e
    exact .inr ⟨ty, by unfold addrOf; rw [e]⟩
  · cases h
theorem ownB_congr {ops : List Oper} {o : Oper} {ev ev' : Ev} (h : ∀ x ∈ o.op.operands, ev x = ev' x) : ownB ops o ev = ownB ops o ev' := by
  unfold ownB
  cases hs : storeAt ops o with
  | none => rfl
  | some t =>
    have : ev (addrOf o) = ev' (addrOf o) := by
      rcases storeAt_spec hs with ⟨ty, y, e⟩ | ⟨ty, e⟩
      · exact h _ (by rw [e]; simp [Op.operands])
      · exact h _ (by rw [e]; simp [Op.operands])
    simp only [this]
theorem ownB_other {T : Table} {ops : List Oper} {o : Oper} {ev : Ev} (h : clsOf T o.op ≠ .write) (h' : clsOf T o.op ≠ .read) : ownB ops o ev = true := by
  unfold ownB
  cases hs : storeAt ops o with
  | none => rfl
  | some t =>
    rcases storeAt_spec hs with ⟨ty, y, e⟩ | ⟨ty, e⟩
    · rw [e] at h
      exact absurd rfl h
    · rw [e] at h'
      exact absurd rfl h'
theorem evalC_other {P : Program} {T : Table} {ops : List Oper} {o : Oper} {ev : Ev} {h : Heap} (hc : clsOf T o.op ≠ .write) (hc' : clsOf T o.op ≠ .read) : evalC P T ops o ev h = evalOp P T o ev h := by
  unfold evalC
  rw [ownB_other (T := T) hc hc']
  rfl

theorem ownOp_pure {P : Program} {T : Table} {o : Oper} {ev : Ev} (hc : clsOf T o.op = .pure) (h : Heap) : ownOp P T o ev h = none := by
  obtain ⟨dst, op, type, pos, after, guard⟩ := o
  cases op <;> try (first | rfl | (cases hc; done))
  case call c =>
    simp only [clsOf] at hc
    simp only [ownOp]
    split
    · rename_i _ _ _ _ h1 _ _; rw [h1] at hc; cases hc
    · rename_i _ _ _ _ h1 _ _; rw [h1] at hc; cases hc
    · rename_i f x h1 _
      rw [h1] at hc
      simp only [] at hc
      cases h2 : T.sl f with
      | none => rfl
      | some sp => rw [h2] at hc; cases hc
    · rfl

theorem evalOp_pure {P : Program} {T : Table} {o : Oper} {ev : Ev} (hc : clsOf T o.op = .pure) (h : Heap) :
    evalOp P T o ev h = match pureOp P T ev o.op with
      | some (v, pre) => some (v, h, pre)
      | none => none := by
  unfold evalOp
  rw [ownOp_pure hc]
  obtain ⟨dst, op, type, pos, after, guard⟩ := o
  cases op <;> first | rfl | (cases hc)

/-- what a step leaves: a value, memory, what must hold and what is taken for granted -/
def effI (P : Program) (T : Table) (ops : List Oper) (F : List (Nat × Bool)) (i : Nat) (o : Oper) (tm : List SV) (h : Heap) : Option (SV × Heap × Option (List Prop × Prop)) :=
  match guardB ops o tm with
  | none => none
  | some false => some (.tup [], h, none)
  | some true => match evalC P T ops o (evO tm) h with
    | none => none
    | some (v, h', pre) => some ((lit F i v).1, h', some (pre, (lit F i v).2))

def updL {α : Type} (l : List α) (i : Nat) : Option α → List α
  | none => l
  | some p => setL l i p

def putRS (rs : RS) (i : Nat) (dst : Option Tmp) (x : SV × Heap × Option (List Prop × Prop)) : RS :=
  ⟨putS rs.tmps dst x.1, x.2.1, updL rs.ob i (x.2.2.map (·.1)), updL rs.cd i (x.2.2.map (·.2))⟩

theorem stepR_eq {P : Program} {T : Table} {ops : List Oper} {F : List (Nat × Bool)} {i : Nat} {rs : RS} {o : Oper} (ho : getL ops i = some o) :
    stepR P T ops F i rs = (effI P T ops F i o rs.tmps rs.heap).map (putRS rs i o.dst) := by
  unfold stepR effI
  simp only [ho]
  cases guardB ops o rs.tmps with
  | none => rfl
  | some b =>
    cases b with
    | false => rfl
    | true =>
      cases h : evalC P T ops o (evO rs.tmps) rs.heap with
      | none => rfl
      | some x => obtain ⟨v, h', pre⟩ := x; rfl

theorem looks_ops {ops : Array Oper} {o : Oper} {x : Operand} (hx : x ∈ o.op.operands) {d : Tmp} (hd : d ∉ o.looksAt ops) : x ≠ .tmp d := by
  intro e
  subst e
  apply hd
  unfold Oper.looksAt
  refine List.mem_append_left _ (List.mem_filterMap.2 ⟨.tmp d, by simpa using hx, rfl⟩)

theorem guardB_put {ops : Array Oper} {o : Oper} {tm : List SV} {dst : Option Tmp} {v : SV} (hd : ∀ d, dst = some d → d ∉ o.looksAt ops) : guardB ops.toList o (putS tm dst v) = guardB ops.toList o tm := by
  unfold guardB
  cases hg : o.guard with
  | none => rfl
  | some jw =>
    obtain ⟨j, want⟩ := jw
    simp only []
    cases h1 : getL ops.toList j with
    | none => rfl
    | some oj =>
      simp only []
      cases h2 : oj.dst with
      | none => rfl
      | some g =>
        simp only []
        have : getL (putS tm dst v) g = getL tm g := by
          cases dst with
          | none => rfl
          | some d =>
            have hne : d ≠ g := by
              intro e
              subst e
              apply hd d rfl
              unfold Oper.looksAt
              have ho : ops[j]? = some oj := by rw [getL_eq] at h1; simpa using h1
              refine List.mem_append_right _ ?_
              simp [hg, ho, h2]
            simp only [putS, getL_setL, if_neg hne]
        rw [this]

theorem effI_put {P : Program} {T : Table} {ops : Array Oper} {F : List (Nat × Bool)} {i : Nat} {o : Oper} {tm : List SV} {h : Heap} {dst : Option Tmp} {v : SV} (hd : ∀ d, dst = some d → d ∉ o.looksAt ops) :
    effI P T ops.toList F i o (putS tm dst v) h = effI P T ops.toList F i o tm h := by
  unfold effI
  rw [guardB_put hd]
  have h1 : ∀ x ∈ o.op.operands, evO (putS tm dst v) x = evO tm x := fun x hx => ev_put fun d e => looks_ops hx (hd d e)
  have : evalOp P T o (evO (putS tm dst v)) h = evalOp P T o (evO tm) h := evalOp_congr h1
  have h2 : ownB ops.toList o (evO (putS tm dst v)) = ownB ops.toList o (evO tm) := ownB_congr h1
  unfold evalC
  rw [this, h2]

theorem effI_pure {P : Program} {T : Table} {ops : List Oper} {F : List (Nat × Bool)} {i : Nat} {o : Oper} {tm : List SV} {h h1 : Heap} {v : SV} {u : Option (List Prop × Prop)} (hc : clsOf T o.op = .pure)
    (e : effI P T ops F i o tm h = some (v, h1, u)) : h1 = h ∧ ∀ h', effI P T ops F i o tm h' = some (v, h', u) := by
  unfold effI at *
  cases hg : guardB ops o tm with
  | none => simp [hg] at e
  | some b =>
    cases b with
    | false => simp only [hg] at e; cases e; exact ⟨rfl, fun h' => rfl⟩
    | true =>
      simp only [hg, evalC_other (show clsOf T o.op ≠ .write by rw [hc]; exact Cls.noConfusion) (show clsOf T o.op ≠ .read by rw [hc]; exact Cls.noConfusion), evalOp_pure hc] at e ⊢
      cases hp : pureOp P T (evO tm) o.op with
      | none => simp [hp] at e
      | some x =>
        obtain ⟨v', pre⟩ := x
        simp only [hp] at e ⊢
        cases e
        exact ⟨rfl, fun h' => rfl⟩

theorem evalOp_read {P : Program} {T : Table} {o : Oper} {ev : Ev} {h h1 : Heap} {v : SV} {pre : List Prop} (hc : clsOf T o.op = .read) (e : evalOp P T o ev h = some (v, h1, pre)) :
    h1 = h ∧ ∀ h', (∀ d i b, getB h d i = some b → getB h' d i = some b) → evalOp P T o ev h' = some (v, h', pre) := by
  obtain ⟨dst, op, type, pos, after, guard⟩ := o
  cases op <;> try (simp only [clsOf] at hc; (repeat' split at hc) <;> cases hc; done)
  rename_i t x
  simp only [evalOp, ownOp] at e ⊢
  cases h2 : ev x with
  | none => simp [h2] at e
  | some s =>
    simp only [h2] at e ⊢
    cases h3 : loadV P t s h with
    | none => simp [h3] at e
    | some v' =>
      obtain ⟨v', p'⟩ := v'
      simp only [h3] at e
      cases e
      refine ⟨rfl, fun h' hh => ?_⟩
      unfold loadV at h3 ⊢
      split at h3
      · rename_i d i off
        cases h4 : getB h d i with
        | none => simp [h4] at h3
        | some blk =>
          simp only [h4] at h3
          simp only [hh d i blk h4, h3]
      · cases h3

theorem evalOp_make {P : Program} {T : Table} {o : Oper} {ev : Ev} {h h1 : Heap} {v : SV} {pre : List Prop} (hc : clsOf T o.op = .make) (e : evalOp P T o ev h = some (v, h1, pre)) :
    ∃ d b n, o.dst = some d ∧ pushB h d b = some (h1, n) ∧ v = .pv (.one (.ptr d n 0)) ∧ ∀ h' h1', pushB h' d b = some (h1', n) → evalOp P T o ev h' = some (v, h1', pre) := by
  obtain ⟨dst, op, type, pos, after, guard⟩ := o
  cases op <;> try (simp only [clsOf] at hc; (repeat' split at hc) <;> cases hc; done)
  case alloc t =>
    simp only [evalOp, ownOp] at e ⊢
    cases h2 : P.info? t with
    | none => simp [h2] at e
    | some inf =>
      cases h3 : inf.zero with
      | none => simp [h2, h3] at e
      | some z =>
        simp only [h2, h3] at e ⊢
        unfold madeV at *
        cases dst with
        | none => simp at e
        | some d =>
          simp only [] at e ⊢
          cases h4 : pushB h d ⟨z.cells.toList.map .val, t, .var⟩ with
          | none => simp [h4] at e
          | some hn =>
            obtain ⟨h'', n⟩ := hn
            simp only [h4] at e
            cases e
            exact ⟨d, _, n, rfl, h4, rfl, fun h' h1' e' => by simp only [e']⟩
  case box t x =>
    simp only [evalOp, ownOp] at e ⊢
    split at e
    · rename_i p h2
      by_cases hok : p.ok = true
      · rw [hok] at e ⊢
        simp only [cond_true] at e ⊢
        unfold madeV at *
        cases dst with
        | none => simp at e
        | some d =>
          simp only [] at e ⊢
          cases h4 : pushB h d ⟨p.cells, t, .var⟩ with
          | none => simp [h4] at e
          | some hn =>
            obtain ⟨h'', n⟩ := hn
            simp only [h4] at e
            cases e
            exact ⟨d, _, n, rfl, h4, rfl, fun h' h1' e' => by simp only [e']⟩
      · rw [Bool.eq_false_iff.2 hok] at e
        cases e
    · cases e

theorem effI_read {P : Program} {T : Table} {ops : List Oper} {F : List (Nat × Bool)} {i : Nat} {o : Oper} {tm : List SV} {h h1 : Heap} {v : SV} {u : Option (List Prop × Prop)} (hc : clsOf T o.op = .read)
    (e : effI P T ops F i o tm h = some (v, h1, u)) : h1 = h ∧ (∀ h', (∀ d i b, getB h d i = some b → getB h' d i = some b) → effI P T ops F i o tm h' = some (v, h', u)) ∧
      ∀ t, storeAt ops o = some t → ∀ h', (∀ i, getB h' t i = getB h t i) → effI P T ops F i o tm h' = some (v, h', u) := by
  unfold effI at *
  cases hg : guardB ops o tm with
  | none => simp [hg] at e
  | some b =>
    cases b with
    | false => simp only [hg] at e; cases e; exact ⟨rfl, fun h' _ => rfl, fun _ _ h' _ => rfl⟩
    | true =>
      simp only [hg] at e ⊢
      cases hp : evalC P T ops o (evO tm) h with
      | none => simp [hp] at e
      | some x =>
        obtain ⟨v', h2, pre⟩ := x
        simp only [hp] at e
        cases e
        obtain ⟨hp1, hown⟩ := evalC_some hp
        obtain ⟨r1, r2⟩ := evalOp_read hc hp1
        refine ⟨r1, fun h' hh => ?_, fun t ht h' hh => ?_⟩
        · unfold evalC
          rw [hown]
          simp only [cond_true, r2 h' hh]
        · unfold evalC
          rw [hown]
          simp only [cond_true]
          unfold ownB at hown
          rw [ht] at hown
          obtain ⟨dst, op, type, pos, after, guard⟩ := o
          rcases storeAt_spec ht with ⟨ty, y, e'⟩ | ⟨ty, e'⟩
          · simp only at e'; rw [e'] at hc; simp only [clsOf] at hc; cases hc
          · simp only at e'
            generalize addrOf _ = x at e' hown
            cases e'
            simp only [evalOp, ownOp] at hp1 ⊢
            cases hx : evO tm x with
            | none => simp [hx] at hp1
            | some s =>
              simp only [hx] at hp1 hown ⊢
              cases hl : loadV P ty s h with
              | none => simp [hl] at hp1
              | some v2 =>
                obtain ⟨v2, p2⟩ := v2
                simp only [hl] at hp1
                cases hp1
                have : loadV P ty s h' = some (v', pre) := by
                  unfold loadV at hl ⊢
                  split at hl
                  · rename_i d k off
                    have hd : d = t := Nat.eq_of_beq_eq_true hown
                    subst hd
                    rw [hh k]
                    exact hl
                  · cases hl
                rw [this]

theorem effI_make {P : Program} {T : Table} {ops : List Oper} {F : List (Nat × Bool)} {i : Nat} {o : Oper} {tm : List SV} {h h1 : Heap} {v : SV} {u : Option (List Prop × Prop)} (hc : clsOf T o.op = .make)
    (e : effI P T ops F i o tm h = some (v, h1, u)) : (h1 = h ∧ ∀ h', effI P T ops F i o tm h' = some (v, h', u)) ∨
      ∃ d b n, o.dst = some d ∧ pushB h d b = some (h1, n) ∧ ∀ h' h1', pushB h' d b = some (h1', n) → effI P T ops F i o tm h' = some (v, h1', u) := by
  unfold effI at *
  cases hg : guardB ops o tm with
  | none => simp [hg] at e
  | some b =>
    cases b with
    | false => simp only [hg] at e; cases e; exact .inl ⟨rfl, fun h' => rfl⟩
    | true =>
      simp only [hg, evalC_other (show clsOf T o.op ≠ .write by rw [hc]; exact Cls.noConfusion) (show clsOf T o.op ≠ .read by rw [hc]; exact Cls.noConfusion)] at e ⊢
      cases hp : evalOp P T o (evO tm) h with
      | none => simp [hp] at e
      | some x =>
        obtain ⟨v', h2, pre⟩ := x
        simp only [hp] at e
        cases e
        obtain ⟨d, b, n, m1, m2, m3, m4⟩ := evalOp_make hc hp
        exact .inr ⟨d, b, n, m1, m2, fun h' h1' e' => by simp only [m4 h' h1' e']⟩

theorem effI_write {P : Program} {T : Table} {ops : List Oper} {F : List (Nat × Bool)} {i : Nat} {o : Oper} {tm : List SV} {h h1 : Heap} {v : SV} {u : Option (List Prop × Prop)} (hc : clsOf T o.op = .write)
    (e : effI P T ops F i o tm h = some (v, h1, u)) : (h1 = h ∧ ∀ h', effI P T ops F i o tm h' = some (v, h', u)) ∨
      ∃ d k blk blk', getB h d k = some blk ∧ h1 = setB h d k blk' ∧ (∀ t, storeAt ops o = some t → d = t) ∧ ∀ h', getB h' d k = some blk → effI P T ops F i o tm h' = some (v, setB h' d k blk', u) := by
  unfold effI at *
  cases hg : guardB ops o tm with
  | none => simp [hg] at e
  | some b =>
    cases b with
    | false => simp only [hg] at e; cases e; exact .inl ⟨rfl, fun h' => rfl⟩
    | true =>
      simp only [hg] at e ⊢
      cases hp : evalC P T ops o (evO tm) h with
      | none => simp [hp] at e
      | some x =>
        obtain ⟨v', h2, pre⟩ := x
        simp only [hp] at e
        cases e
        obtain ⟨hp1, hown⟩ := evalC_some hp
        right
        obtain ⟨dst, op, type, pos, after, guard⟩ := o
        cases op <;> try (simp only [clsOf] at hc; (repeat' split at hc) <;> cases hc; done)
        rename_i t x y
        simp only [evalOp, ownOp] at hp1
        cases hx : evO tm x with
        | none => simp [hx] at hp1
        | some s =>
          cases hy : evO tm y with
          | none => simp [hx, hy] at hp1
          | some sy =>
            simp only [hx, hy] at hp1
            cases hs : storeV P t s sy h with
            | none => simp [hs] at hp1
            | some h3 =>
              obtain ⟨h3, p3⟩ := h3
              simp only [hs] at hp1
              cases hp1
              have hs0 := hs
              unfold storeV at hs
              split at hs
              · rename_i d k off p
                cases hb : getB h d k with
                | none => simp [hb] at hs
                | some blk =>
                  simp only [hb] at hs
                  cases hpv : putV P t p off blk with
                  | none => simp [hpv] at hs
                  | some bp =>
                    obtain ⟨blk', p'⟩ := bp
                    simp only [hpv] at hs
                    cases hs
                    refine ⟨d, k, blk, blk', hb, rfl, ?_, ?_⟩
                    · intro t' ht'
                      unfold ownB at hown
                      rw [ht'] at hown
                      rcases storeAt_spec ht' with ⟨ty, y', e'⟩ | ⟨ty, e'⟩
                      · have hadd : addrOf ⟨dst, .store t x y, type, pos, after, guard⟩ = x := rfl
                        rw [hadd] at hown
                        simp only [hx] at hown
                        exact Nat.eq_of_beq_eq_true hown
                      · cases e'
                    · intro h' hb'
                      unfold evalC
                      rw [hown]
                      simp only [evalOp, ownOp, hx, hy, storeV, hb', hpv, cond_true]
              · cases hs

theorem setB_comm {h : Heap} {d i d' i' : Nat} {b b' : Blk} (hne : d ≠ d') : setB (setB h d i b) d' i' b' = setB (setB h d' i' b') d i b := by
  unfold setB
  cases h1 : getL h d with
  | none =>
    cases h2 : getL h d' with
    | none => simp only [h1]
    | some l' => simp only [getL_setL, if_neg (Ne.symm hne), h1]
  | some l =>
    cases h2 : getL h d' with
    | none => simp only [getL_setL, if_neg hne, h2, h1]
    | some l' =>
      simp only [getL_setL, if_neg hne, if_neg (Ne.symm hne), h1, h2]
      simp only [setL_eq]
      rw [List.set_comm _ _ hne]

theorem pushB_setB {h h1 : Heap} {d n d' i' : Nat} {b b' : Blk} (hne : d ≠ d') (e : pushB h d b = some (h1, n)) : pushB (setB h d' i' b') d b = some (setB h1 d' i' b', n) := by
  unfold pushB setB at *
  cases h1' : getL h d with
  | none => simp [h1'] at e
  | some l =>
    simp only [h1'] at e
    cases e
    cases h2 : getL h d' with
    | none => simp only [getL_setL, if_neg hne, h2, h1']
    | some l' =>
      simp only [getL_setL, if_neg hne, if_neg (Ne.symm hne), h1', h2]
      simp only [setL_eq]
      rw [List.set_comm _ _ hne]

theorem getB_set_ne {h : Heap} {d i d' i' : Nat} {b : Blk} (hne : d ≠ d') : getB (setB h d i b) d' i' = getB h d' i' := by
  unfold getB setB
  cases h1 : getL h d with
  | none => rfl
  | some l => simp only [getL_setL, if_neg hne]

theorem getB_push_ne {h h1 : Heap} {d n d' i' : Nat} {b : Blk} (hne : d ≠ d') (e : pushB h d b = some (h1, n)) : getB h1 d' i' = getB h d' i' := by
  unfold pushB at e
  cases h1' : getL h d with
  | none => simp [h1'] at e
  | some l =>
    simp only [h1'] at e
    cases e
    unfold getB
    simp only [getL_setL, if_neg hne]

theorem pushB_comm {h h1 h2 : Heap} {d d' n n' : Nat} {b b' : Blk} (hne : d ≠ d') (e : pushB h d b = some (h1, n)) (e' : pushB h1 d' b' = some (h2, n')) :
    ∃ g, pushB h d' b' = some (g, n') ∧ pushB g d b = some (h2, n) := by
  unfold pushB at *
  cases hl : getL h d with
  | none => simp [hl] at e
  | some l =>
    simp only [hl] at e
    cases e
    rw [getL_setL, if_neg hne] at e'
    cases hl' : getL h d' with
    | none => simp [hl'] at e'
    | some l' =>
      simp only [hl'] at e'
      cases e'
      refine ⟨_, rfl, ?_⟩
      rw [getL_setL, if_neg (Ne.symm hne), hl]
      simp only [setL_eq]
      rw [List.set_comm _ _ hne]

theorem pushB_keeps {h h1 : Heap} {d n : Nat} {b : Blk} (e : pushB h d b = some (h1, n)) : ∀ d' i' b', getB h d' i' = some b' → getB h1 d' i' = some b' := by
  obtain ⟨g1, _, g3⟩ := getB_pushB e
  intro d' i' b' hb
  rw [g3 d' i' (by rintro ⟨rfl, rfl⟩; rw [g1] at hb; cases hb)]
  exact hb

theorem putS_comm {tm : List SV} {x y : Option Tmp} {v u : SV} (h : ∀ d, x = some d → y ≠ some d) : putS (putS tm x v) y u = putS (putS tm y u) x v := by
  cases x with
  | none => rfl
  | some d =>
    cases y with
    | none => rfl
    | some e =>
      have hne : d ≠ e := fun he => h d rfl (he ▸ rfl)
      simp only [putS, setL_eq]
      rw [List.set_comm _ _ hne]

theorem updL_comm {α : Type} {l : List α} {i j : Nat} (p q : Option α) (h : i ≠ j) : updL (updL l i p) j q = updL (updL l j q) i p := by
  cases p <;> cases q <;> simp only [updL, setL_eq]
  rw [List.set_comm _ _ h]

/-- effects change places -/
theorem eff_comm {P : Program} {T : Table} {ops : Array Oper} {F : List (Nat × Bool)} {i j : Nat} {oy ox : Oper} (hc : commB T ops oy ox = true)
    {tm : List SV} {h h1 h2 : Heap} {vy vx : SV} {uy ux : Option (List Prop × Prop)} (ey : effI P T ops.toList F i oy tm h = some (vy, h1, uy)) (ex : effI P T ops.toList F j ox tm h1 = some (vx, h2, ux)) :
    ∃ g, effI P T ops.toList F j ox tm h = some (vx, g, ux) ∧ effI P T ops.toList F i oy tm g = some (vy, h2, uy) := by
  unfold commB at hc
  obtain ⟨hap, hm⟩ := Bool.and_eq_true_iff.1 hc
  obtain ⟨_, hdst, _⟩ := Oper.apart_spec hap
  cases cy : clsOf T oy.op with
  | pure =>
    obtain ⟨rfl, hy⟩ := effI_pure cy ey
    exact ⟨h2, ex, hy h2⟩
  | read =>
    cases cx : clsOf T ox.op with
    | pure =>
      obtain ⟨rfl, hx⟩ := effI_pure cx ex
      exact ⟨h, hx h, ey⟩
    | read =>
      obtain ⟨rfl, hy, hy'⟩ := effI_read cy ey
      obtain ⟨rfl, hx, hx'⟩ := effI_read cx ex
      exact ⟨_, ex, ey⟩
    | make =>
      obtain ⟨rfl, hy, hy'⟩ := effI_read cy ey
      rcases effI_make cx ex with ⟨rfl, _⟩ | ⟨d, b, n, m1, m2, m3⟩
      · exact ⟨_, ex, ey⟩
      · exact ⟨h2, ex, hy h2 (pushB_keeps m2)⟩
    | write =>
      obtain ⟨rfl, hy, hy'⟩ := effI_read cy ey
      rcases effI_write cx ex with ⟨rfl, hx⟩ | ⟨d', k', bl, bl', v1, v2, v3, v4⟩
      · exact ⟨_, ex, ey⟩
      · simp only [memB, farB, cy, cx, Bool.false_or] at hm
        cases hs : storeAt ops.toList oy with
        | none => simp [hs] at hm
        | some t =>
          cases hs' : storeAt ops.toList ox with
          | none => simp [hs, hs'] at hm
          | some t' =>
            simp only [hs, hs'] at hm
            have e2 := v3 t' hs'
            have hne : d' ≠ t := by
              intro e
              rw [← e2, e] at hm
              simp at hm
            subst v2
            exact ⟨_, ex, hy' t hs _ fun i => getB_set_ne hne⟩
    | own => simp [memB, farB, cy, cx] at hm
  | make =>
    cases cx : clsOf T ox.op with
    | pure =>
      obtain ⟨rfl, hx⟩ := effI_pure cx ex
      exact ⟨h, hx h, ey⟩
    | make =>
      rcases effI_make cy ey with ⟨rfl, hy⟩ | ⟨d, b, n, m1, m2, m3⟩
      · exact ⟨h2, ex, hy h2⟩
      · rcases effI_make cx ex with ⟨rfl, hx⟩ | ⟨d', b', n', m1', m2', m3'⟩
        · exact ⟨h, hx h, ey⟩
        · have hne : d ≠ d' := fun e => hdst d m1 (by rw [m1', e])
          obtain ⟨g, g1, g2⟩ := pushB_comm hne m2 m2'
          exact ⟨g, m3' h g g1, m3 g h2 g2⟩
    | read => simp [memB, farB, cy, cx] at hm
    | write =>
      rcases effI_make cy ey with ⟨rfl, hy⟩ | ⟨d, b, n, m1, m2, m3⟩
      · exact ⟨h2, ex, hy h2⟩
      · rcases effI_write cx ex with ⟨rfl, hx⟩ | ⟨d', k, blk, blk', w1, w2, w3, w4⟩
        · exact ⟨h, hx h, ey⟩
        · simp only [memB, farB, cy, cx, Bool.false_or, m1] at hm
          cases hs : storeAt ops.toList ox with
          | none => simp [hs] at hm
          | some t =>
            simp only [hs] at hm
            have e1 := w3 t hs
            have hne : d ≠ d' := by
              intro e
              rw [e, e1] at hm
              simp at hm
            have w1' : getB h d' k = some blk := by rw [← getB_push_ne hne m2]; exact w1
            subst w2
            exact ⟨_, w4 h w1', m3 _ _ (pushB_setB hne m2)⟩
    | own => simp [memB, farB, cy, cx] at hm
  | write =>
    cases cx : clsOf T ox.op with
    | pure =>
      obtain ⟨rfl, hx⟩ := effI_pure cx ex
      exact ⟨h, hx h, ey⟩
    | read =>
      obtain ⟨rfl, hx, hx'⟩ := effI_read cx ex
      rcases effI_write cy ey with ⟨rfl, hy⟩ | ⟨d, k, blk, blk', w1, w2, w3, w4⟩
      · exact ⟨_, ex, ey⟩
      · simp only [memB, farB, cy, cx, Bool.false_or] at hm
        cases hs : storeAt ops.toList oy with
        | none => simp [hs] at hm
        | some t =>
          cases hs' : storeAt ops.toList ox with
          | none => simp [hs, hs'] at hm
          | some t' =>
            simp only [hs, hs'] at hm
            have e1 := w3 t hs
            have hne : d ≠ t' := by
              intro e
              rw [← e1, e] at hm
              simp at hm
            subst w2
            exact ⟨h, hx' t' hs' h fun i => (getB_set_ne hne).symm, ey⟩
    | make =>
      rcases effI_write cy ey with ⟨rfl, hy⟩ | ⟨d, k, blk, blk', w1, w2, w3, w4⟩
      · exact ⟨h2, ex, hy h2⟩
      · rcases effI_make cx ex with ⟨rfl, hx⟩ | ⟨d', b, n, m1, m2, m3⟩
        · exact ⟨h, hx h, ey⟩
        · simp only [memB, farB, cy, cx, Bool.false_or, m1] at hm
          cases hs : storeAt ops.toList oy with
          | none => simp [hs] at hm
          | some t =>
            simp only [hs] at hm
            have e1 := w3 t hs
            have hne : d' ≠ d := by
              intro e
              rw [e, e1] at hm
              simp at hm
            subst w2
            cases hpu : pushB h d' b with
            | none =>
              exfalso
              unfold pushB setB at m2
              unfold pushB at hpu
              cases q1 : getL h d' with
              | none =>
                cases q2 : getL h d with
                | none => simp [q1, q2] at m2
                | some l => simp [q2, getL_setL, if_neg (Ne.symm hne), q1] at m2
              | some l => simp [q1] at hpu
            | some gn =>
              obtain ⟨g, n'⟩ := gn
              have q := pushB_setB (d' := d) (i' := k) (b' := blk') hne hpu
              rw [q] at m2
              cases m2
              refine ⟨g, m3 h g hpu, w4 g ?_⟩
              rw [getB_push_ne hne hpu]
              exact w1
    | write =>
      rcases effI_write cy ey with ⟨rfl, hy⟩ | ⟨d, k, blk, blk', w1, w2, w3, w4⟩
      · exact ⟨h2, ex, hy h2⟩
      · rcases effI_write cx ex with ⟨rfl, hx⟩ | ⟨d', k', bl, bl', v1, v2, v3, v4⟩
        · exact ⟨h, hx h, ey⟩
        · simp only [memB, farB, cy, cx, Bool.false_or] at hm
          cases hs : storeAt ops.toList oy with
          | none => simp [hs] at hm
          | some t =>
            cases hs' : storeAt ops.toList ox with
            | none => simp [hs, hs'] at hm
            | some t' =>
              simp only [hs, hs'] at hm
              have e1 := w3 t hs
              have e2 := v3 t' hs'
              have hne : d ≠ d' := by
                intro e
                rw [← e1, ← e2, e] at hm
                simp at hm
              subst w2
              rw [getB_set_ne hne] at v1
              subst v2
              refine ⟨_, v4 h v1, ?_⟩
              rw [w4 _ (by rw [getB_set_ne (Ne.symm hne)]; exact w1), setB_comm (Ne.symm hne)]
    | own => simp [memB, farB, cy, cx] at hm
  | own =>
    cases cx : clsOf T ox.op with
    | pure =>
      obtain ⟨rfl, hx⟩ := effI_pure cx ex
      exact ⟨h, hx h, ey⟩
    | read => simp [memB, farB, cy, cx] at hm
    | make => simp [memB, farB, cy, cx] at hm
    | write => simp [memB, farB, cy, cx] at hm
    | own => simp [memB, farB, cy, cx] at hm

theorem step_comm {P : Program} {T : Table} {ops : Array Oper} {F : List (Nat × Bool)} {i j : Nat} {oy ox : Oper} (hi : getL ops.toList i = some oy) (hj : getL ops.toList j = some ox) (hij : i ≠ j) (hc : commB T ops oy ox = true)
    {rs r1 r2 : RS} (ey : stepR P T ops.toList F i rs = some r1) (ex : stepR P T ops.toList F j r1 = some r2) :
    ∃ g, stepR P T ops.toList F j rs = some g ∧ stepR P T ops.toList F i g = some r2 := by
  obtain ⟨hap, hm⟩ := Bool.and_eq_true_iff.1 hc
  obtain ⟨hl1, hdst, hl2⟩ := Oper.apart_spec hap
  rw [stepR_eq hi] at ey
  rw [stepR_eq hj] at ex
  cases e1 : effI P T ops.toList F i oy rs.tmps rs.heap with
  | none => simp [e1] at ey
  | some a =>
    obtain ⟨vy, h1, uy⟩ := a
    simp only [e1, Option.map_some, Option.some.injEq] at ey
    subst ey
    cases e2 : effI P T ops.toList F j ox (putRS rs i oy.dst (vy, h1, uy)).tmps (putRS rs i oy.dst (vy, h1, uy)).heap with
    | none => simp [e2] at ex
    | some b =>
      obtain ⟨vx, h2, ux⟩ := b
      simp only [e2, Option.map_some, Option.some.injEq] at ex
      subst ex
      have e2' : effI P T ops.toList F j ox rs.tmps h1 = some (vx, h2, ux) := by
        have := effI_put (P := P) (T := T) (ops := ops) (F := F) (i := j) (o := ox) (tm := rs.tmps) (h := h1) (dst := oy.dst) (v := vy) hl1
        rw [← this]; exact e2
      obtain ⟨g, g1, g2⟩ := eff_comm hc e1 e2'
      refine ⟨putRS rs j ox.dst (vx, g, ux), by rw [stepR_eq hj, g1]; rfl, ?_⟩
      rw [stepR_eq hi]
      have e3 : effI P T ops.toList F i oy (putRS rs j ox.dst (vx, g, ux)).tmps (putRS rs j ox.dst (vx, g, ux)).heap = some (vy, h2, uy) := by
        have := effI_put (P := P) (T := T) (ops := ops) (F := F) (i := i) (o := oy) (tm := rs.tmps) (h := g) (dst := ox.dst) (v := vx) hl2
        exact this.trans g2
      rw [e3]
      simp only [Option.map_some, Option.some.injEq]
      unfold putRS
      simp only []
      rw [putS_comm (x := oy.dst) (y := ox.dst) hdst, updL_comm (i := i) (j := j) _ _ hij, updL_comm (l := rs.cd) (i := i) (j := j) _ _ hij]

end Eng
