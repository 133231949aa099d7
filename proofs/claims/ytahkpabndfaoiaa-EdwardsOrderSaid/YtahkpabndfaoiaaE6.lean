/-
A program's operations carried out on values written out: blocks of one's own read, written and made; one operation of a region.
-/
import Derived.Test.YtahkpabndfaoiaaE5
namespace Eng
open Go Go.RowKit

def getB (h : Heap) (d i : Nat) : Option Blk :=
  match getL h d with
  | some l => getL l i
  | none => none

def setB (h : Heap) (d i : Nat) (b : Blk) : Heap :=
  match getL h d with
  | some l => setL h d (setL l i b)
  | none => h

def pushB (h : Heap) (d : Nat) (b : Blk) : Option (Heap × Nat) :=
  match getL h d with
  | some l => some (setL h d (l ++ [b]), l.length)
  | none => none

def digI (w x n : Nat) : List Int := (List.range n).map (dg w x)

/-- a cell's whole numbers, of a kind -/
def Cell.ints? (k : IntKind) : Cell → Option (List Int)
  | .val (.int k' n) => cond (ikEq k' k) (some [n]) none
  | .dg1 k' w x i => cond (ikEq k' k) (some [dg w x i]) none
  | .fe x => cond (ikEq .u64 k) (some (digI 64 x.val 4)) none
  | .nm x => cond (ikEq .u64 k) (some (digI 16 x.val 16)) none
  | .dig k' w x n => cond (ikEq k' k) (some (digI w x n)) none
  | .arr k' l => cond (ikEq k' k) (some l) none
  | _ => none

theorem digL_I (k : IntKind) (w x n : Nat) : digL k w x n = (digI w x n).map (Value.int k) := by simp [digL, digI]

theorem ikEq_spec {a b : IntKind} (h : ikEq a b = true) : a = b := by simpa [ikEq] using h

theorem Cell.ints?_spec {ρ : Env} {k : IntKind} {c : Cell} {l : List Int} (h : c.ints? k = some l) : denC ρ c = some (l.map (Value.int k)) := by
  have fin : ∀ {k' : IntKind} {m : List Int}, cond (ikEq k' k) (some m) none = some l → k' = k ∧ m = l := by
    intro k' m h
    by_cases hk : ikEq k' k = true
    · rw [hk] at h; cases h; exact ⟨ikEq_spec hk, rfl⟩
    · rw [Bool.eq_false_iff.2 hk] at h; cases h
  cases c with
  | val v =>
    cases v <;> simp only [Cell.ints?] at h <;> try (cases h; done)
    obtain ⟨rfl, rfl⟩ := fin h
    rfl
  | ptr d i off => cases h
  | dg1 k' w x i => obtain ⟨rfl, rfl⟩ := fin h; rfl
  | fe x => obtain ⟨rfl, rfl⟩ := fin h; simp only [denC, digL_I]
  | nm x => obtain ⟨rfl, rfl⟩ := fin h; simp only [denC, digL_I]
  | dig k' w x n => obtain ⟨rfl, rfl⟩ := fin h; simp only [denC, digL_I]
  | arr k' l => obtain ⟨rfl, rfl⟩ := fin h; rfl
  | sli d i off n c sym => cases h

/-- cells that are all whole numbers of a kind -/
def decInts (k : IntKind) : List Cell → Option (List Int)
  | [] => some []
  | [c] => c.ints? k
  | c :: cs => match c.ints? k, decInts k cs with
    | some n, some l => some (n ++ l)
    | _, _ => none

theorem decInts_spec {ρ : Env} {k : IntKind} : ∀ {cs : List Cell} {l : List Int}, decInts k cs = some l → denCs ρ cs = some (l.map (Value.int k))
  | [], l, h => by simp only [decInts] at h; cases h; rfl
  | [c], l, h => by
    simp only [decInts] at h
    exact denCs_one (Cell.ints?_spec h)
  | c :: c' :: cs, l, h => by
    simp only [decInts] at h
    cases h1 : c.ints? k with
    | none => simp [h1] at h
    | some n =>
      cases h2 : decInts k (c' :: cs) with
      | none => simp [h1, h2] at h
      | some l' =>
        simp only [h1, h2] at h
        cases h
        rw [denCs_mk (Cell.ints?_spec h1) (decInts_spec h2), List.map_append]

def Kd.live : Kd → Bool
  | .dead => false
  | _ => true
def Kd.wr : Kd → Bool
  | .var => true
  | .sl => true
  | _ => false

/-- what is read of a block -/
def getV (P : Program) (t : TypeId) (off : Nat) (blk : Blk) : Option (SV × List Prop) :=
  cond blk.kd.live (match blk.cells with
    | [.arr k l] => match isAggT P t, P.info? t with
      | some false, some _ => some (one (.int k (l.getD off 0)), [Nat.blt off l.length = true])
      | _, _ => none
    | cs => match partS P t cs off with
      | some s => some (s, [])
      | none => none) none

/-- a block, written -/
def putV (P : Program) (t : TypeId) (p : PV) (off : Nat) (blk : Blk) : Option (Blk × List Prop) :=
  match P.info? t with
  | some inf => cond (blk.kd.wr && p.ok && okCs p.cells && Nat.beq (widS p.cells) inf.size) (match blk.cells with
    | [.arr k l] => match SV.int? (.pv p) with
      | some (k', v) => cond (ikEq k' k) (some (⟨[.arr k (l.set off v)], blk.ty, blk.kd⟩, [Nat.blt off l.length = true])) none
      | none => none
    | cs => match putAt cs off p.cells with
      | some cs' => some (⟨cs', blk.ty, blk.kd⟩, [])
      | none => none) none
  | none => none

def loadV (P : Program) (t : TypeId) (s : SV) (h : Heap) : Option (SV × List Prop) :=
  match s with
  | .pv (.one (.ptr d i off)) => match getB h d i with
    | some blk => getV P t off blk
    | none => none
  | _ => none

def storeV (P : Program) (t : TypeId) (s x : SV) (h : Heap) : Option (Heap × List Prop) :=
  match s, x with
  | .pv (.one (.ptr d i off)), .pv p => match getB h d i with
    | some blk => match putV P t p off blk with
      | some (blk', pre) => some (setB h d i blk', pre)
      | none => none
    | none => none
  | _, _ => none

def madeV (dst : Option Tmp) (b : Blk) (h : Heap) : Option (SV × Heap) :=
  match dst with
  | some d => match pushB h d b with
    | some (h', n) => some (.pv (.one (.ptr d n 0)), h')
    | none => none
  | none => none

/-- no more ours -/
def killB (h : Heap) (d i : Nat) : Heap := match getB h d i with
  | some blk => setB h d i ⟨[], blk.ty, .dead⟩
  | none => h

/-- some of a row's cells -/
def takeC (cs : List Cell) (off n : Nat) : Option (List Cell × List Prop) :=
  match cs with
  | [.arr k l] => some ([.arr k ((l.drop off).take n)], [Nat.ble (off + n) l.length = true])
  | cs => match takeAt cs off n with
    | some ds => some (ds, [])
    | none => none

/-- a row's first cells, all of it where its length is no literal -/
def takeW (cs : List Cell) (off n : Nat) (sym : Bool) : Option (List Cell × List Prop) :=
  cond sym (cond (Nat.beq off 0) (some (cs, [Nat.beq n (widS cs) = true])) none) (takeC cs off n)

/-- a slice's elements, and how many -/
def srcV (h : Heap) : SV → Option (List Cell × Nat × List Prop)
  | .pv (.one (.sli d i off n _ sym)) => match getB h d i with
    | some blk => cond blk.kd.live (match takeW blk.cells off n sym with
      | some (cs, pre) => some (cs, n, pre)
      | none => none) none
    | none => none
  | _ => none

/-- a slice that one may hand over: nothing, or a whole row of one's own -/
def ownV (h : Heap) : SV → Option (Option (Nat × Nat × TypeId) × List Cell × Nat × List Prop)
  | .pv (.one (.val (.slice none 0 0))) => some (none, [], 0, [])
  | .pv (.one (.sli d i 0 n none sym)) => match getB h d i with
    | some blk => match blk.kd with
      | .sl => match takeW blk.cells 0 n sym with
        | some (cs, pre) => some (some (d, i, blk.ty), cs, n, pre)
        | none => none
      | _ => none
    | none => none
  | _ => none

def hasArr : List Cell → Bool
  | [] => false
  | .arr _ _ :: _ => true
  | _ :: l => hasArr l

def joinC (k : IntKind) (cs ds : List Cell) : Option (List Cell) :=
  cond (hasArr cs || hasArr ds) (match decInts k cs, decInts k ds with
    | some a, some b => some [.arr k (a ++ b)]
    | _, _ => none) (some (cs ++ ds))

def killO (h : Heap) : Option (Nat × Nat × TypeId) → Heap
  | some (d, i, _) => killB h d i
  | none => h

def tyB (e : TypeId) : Option (Nat × Nat × TypeId) → Bool
  | some (_, _, t) => Nat.beq t e
  | none => true

/-- a new slice of one's own -/
def newRowV (dst : Option Tmp) (cs : List Cell) (e : TypeId) (n : Nat) (h : Heap) : Option (SV × Heap) :=
  match dst with
  | some d => match pushB h d ⟨cs, e, .sl⟩ with
    | some (h', i) => some (.pv (.one (.sli d i 0 n none (hasArr cs))), h')
    | none => none
  | none => none

def oneZ (i : TypeInfo) : Bool := match i.zero with
  | some z => Nat.beq z.cells.size 1
  | none => false
def limN : Nat := 1099511627776

def appendV (P : Program) (t : TypeId) (dst : Option Tmp) (s x : SV) (h : Heap) : Option (SV × Heap × List Prop) :=
  match P.underlying t with
  | some (.slice e) => match P.underlying e, P.info? e with
    | some (.int k), some inf => match ownV h s, srcV h x with
      | some (o, cs, n, p1), some (ds, m, p2) => match joinC k cs ds with
        | some js => match guardP (hasArr js) (Nat.ble 1 (n + m) && Nat.ble (n + m) limN), newRowV dst js e (n + m) (killO h o) with
          | some p3, some (v, h') => cond (Nat.ble inf.bytes 16 && Nat.beq inf.size 1 && okCs ds && tyB e o && oneZ inf) (some (v, h', p1 ++ (p2 ++ p3))) none
          | _, _ => none
        | none => none
      | _, _ => none
    | _, _ => none
  | _ => none

/-- the first elements, one by one -/
def firstC (cs : List Cell) (off n : Nat) : Option (List Cell × List Prop) :=
  match cs with
  | [.arr k l] => some ((List.range n).map fun j => .val (.int k (l.getD (off + j) 0)), [Nat.ble (off + n) l.length = true])
  | cs => match takeAt cs off n with
    | some ds => some (ds, [])
    | none => none

/-- as many elements as there are in the place to be written -/
def copyV (P : Program) (t : TypeId) (dst src : SV) (h : Heap) : Option (SV × Heap × List Prop) :=
  match P.underlying t with
  | some (.slice e) => match P.info? e with
    | some inf => match dst, src with
      | .pv (.one (.sli d i off n _ _)), .pv (.one (.sli d' i' off' m _ sym)) => match getB h d i, getB h d' i' with
        | some blk, some blk' => match firstC blk'.cells off' n, guardP sym (Nat.ble n m) with
          | some (cs, p1), some p2 => cond (blk.kd.wr && blk'.kd.live && okCs cs && Nat.beq inf.size 1) (match putAt blk.cells off cs with
            | some cs' => some (one (.int .i64 n), setB h d i ⟨cs', blk.ty, blk.kd⟩, p1 ++ p2)
            | none => none) none
          | _, _ => none
        | _, _ => none
      | _, _ => none
    | none => none
  | _ => none

/-- a slice's zeros -/
def zerosC (z : Array Value) : Nat → List Cell
  | 0 => []
  | n + 1 => z.toList.map .val ++ zerosC z n

def makeSliceV (P : Program) (t : TypeId) (dst : Option Tmp) (l c : SV) (h : Heap) : Option (SV × Heap × List Prop) :=
  match P.underlying t with
  | some (.slice e) => match P.info? e with
    | some inf => match inf.zero, l.int?, c.int? with
      | some z, some (_, n), some (_, m) => cond (Nat.beq inf.size 1 && Nat.beq z.cells.size 1 && decide (0 ≤ n) && decide (n = m) && decide (n ≤ limN) && Nat.ble inf.bytes 16) (match newRowV dst (zerosC z.cells n.toNat) e n.toNat h with
        | some (v, h') => some (v, h', [])
        | none => none) none
      | _, _, _ => none
    | none => none
  | _ => none

def buildSliceV (P : Program) (t : TypeId) (len : Nat) (dst : Option Tmp) (parts : List (Nat × PV)) (h : Heap) : Option (SV × Heap × List Prop) :=
  match P.underlying t with
  | some (.slice e) => match P.info? e with
    | some inf => match inf.zero with
      | some z => cond (Nat.beq inf.size 1 && Nat.beq z.cells.size 1 && Nat.ble 1 len && Nat.ble len 65536) (match fillS (fun i => some (i * 1, 1)) (zerosC z.cells len) parts with
        | some cs => match newRowV dst cs e len h with
          | some (v, h') => some (v, h', [])
          | none => none
        | none => none) none
      | none => none
    | none => none
  | _ => none

def argC (m : SMode) (h : Heap) (s : SV) : Option (PV × Option (Nat × Nat × TypeId) × List Prop) :=
  match m with
  | .plain => match s with
    | .pv p => some (p, none, [])
    | _ => none
  | .read => match s with
    | .pv (.one (.sli d i 0 n c sym)) => match srcV h (.pv (.one (.sli d i 0 n c sym))) with
      | some (cs, _, pre) => some (.agg cs, none, pre)
      | none => none
    | _ => none
  | .own e => match ownV h s with
    | some (some o, cs, _, pre) => cond (tyB e (some o)) (some (.agg cs, some o, pre)) none
    | _ => none

/-- a call of a function of one argument, it or the result a slice -/
def slCallV (sp : SlSpec) (dst : Option Tmp) (s : SV) (h : Heap) : Option (SV × Heap × List Prop) :=
  match argC sp.mode h s with
  | some (p, o, p1) => match sp.res p with
    | some (.val v, p2) => some (v, killO h o, p2 ++ p1)
    | some (.row e cs, p2) => match newRowV dst cs e (widS cs) (killO h o) with
      | some (v, h') => some (v, h', p2 ++ p1)
      | none => none
    | none => none
  | none => none

/-- an operation on slices that is no plain one -/
def ownOp (P : Program) (T : Table) (o : Oper) (ev : Ev) (h : Heap) : Option (Option (SV × Heap × List Prop)) :=
  match o.op with
  | .call c => match c.callee, c.args.toList, c.argTypes.toList with
    | .builtin .append, [x, y], [t, t'] => some (cond (Nat.beq t t') (match ev x, ev y with
      | some s, some u => appendV P t o.dst s u h
      | _, _ => none) none)
    | .builtin .copy, [x, y], [t, _] => some (match ev x, ev y with
      | some s, some u => copyV P t s u h
      | _, _ => none)
    | .value (.func f), [x], _ => match T.sl f with
      | some sp => some (match ev x with
        | some s => slCallV sp o.dst s h
        | none => none)
      | none => none
    | _, _, _ => none
  | .makeSlice t l c => some (match ev l, ev c with
    | some sl, some sc => makeSliceV P t o.dst sl sc h
    | _, _ => none)
  | .buildSlice t len parts => some (match partsOf ev parts.toList with
    | some ps => buildSliceV P t len o.dst ps h
    | none => none)
  | _ => none

/-- one operation: its value, memory behind it, what must hold -/
def evalOp (P : Program) (T : Table) (o : Oper) (ev : Ev) (h : Heap) : Option (SV × Heap × List Prop) :=
  match ownOp P T o ev h with
  | some r => r
  | none => match o.op with
  | .load t x => match ev x with
    | some s => match loadV P t s h with
      | some (v, pre) => some (v, h, pre)
      | none => none
    | none => none
  | .store t x y => match ev x, ev y with
    | some s, some v => match storeV P t s v h with
      | some (h', pre) => some (.tup [], h', pre)
      | none => none
    | _, _ => none
  | .alloc t => match P.info? t with
    | some inf => match inf.zero with
      | some z => match madeV o.dst ⟨z.cells.toList.map .val, t, .var⟩ h with
        | some (v, h') => some (v, h', [])
        | none => none
      | none => none
    | none => none
  | .box t x => match ev x with
    | some (.pv p) => cond p.ok (match madeV o.dst ⟨p.cells, t, .var⟩ h with
      | some (v, h') => some (v, h', [])
      | none => none) none
    | _ => none
  | _ => match pureOp P T ev o.op with
    | some (v, pre) => some (v, h, pre)
    | none => none

/-- of what was there when the call began, but for the blocks that one knows, nothing has turned -/
structure Keep (w0 : World) (fb : Nat → Prop) (w : World) : Prop where
  os : w.os = w0.os
  tape : w.tape = w0.tape
  output : w.output = w0.output
  size : w0.heap.size ≤ w.heap.size
  block : ∀ k, k < w0.heap.size → ¬ fb k → w.heap[k]? = w0.heap[k]?

def deadAt (h : Heap) (d i : Nat) : Prop := ∃ blk, getB h d i = some blk ∧ blk.kd = .dead

structure Rel (w0 : World) (fb : Nat → Prop) (ρ : Env) (tm : List SV) (h : Heap) (a : Act) (w : World) : Prop where
  tmps : ∀ t s, getL tm t = some s → relS ρ s (a.tmps.getD t undef)
  len : a.tmps.size = tm.length
  defers : a.defers = []
  heap : ∀ d i blk, getB h d i = some blk → ∃ b, ρ d i = some b ∧ b < w.heap.size ∧ (blk.kd = .dead ∨ ∃ l junk, denCs ρ blk.cells = some l ∧ w.heap[b]? = some (.cells (l ++ junk).toArray blk.ty (0, 0)) ∧ (blk.kd = .sl → (l ++ junk).length = ρ.cap d i ∧ ρ.cap d i ≤ maxLen))
  dom : ∀ d i b, ρ d i = some b → ∃ blk, getB h d i = some blk
  inj : ∀ d i d' i' b, ρ d i = some b → ρ d' i' = some b → (d = d' ∧ i = i') ∨ deadAt h d i ∨ deadAt h d' i'
  low : ∀ d i b blk, ρ d i = some b → getB h d i = some blk → blk.kd = .ro ∨ w0.heap.size ≤ b ∨ fb b
  keep : Keep w0 fb w

theorem getL_some_lt {α : Type} : ∀ {l : List α} {n : Nat} {x : α}, getL l n = some x → n < l.length := by
  intro l n x h
  rw [getL_eq] at h
  exact (List.getElem?_eq_some_iff.1 h).1

theorem setL_length {α : Type} (l : List α) (n : Nat) (b : α) : (setL l n b).length = l.length := by rw [setL_eq]; simp

theorem getL_setL {α : Type} (l : List α) (n m : Nat) (b : α) : getL (setL l n b) m = if n = m then (if n < l.length then some b else none) else getL l m := by
  rw [setL_eq, getL_eq, getL_eq, List.getElem?_set]

def putS (tm : List SV) (dst : Option Tmp) (v : SV) : List SV :=
  match dst with
  | some d => setL tm d v
  | none => tm

theorem Rel.put {w0 : World} {fb : Nat → Prop} {ρ : Env} {tm : List SV} {h : Heap} {a : Act} {w : World} (r : Rel w0 fb ρ tm h a w) (dst : Option Tmp) {s : SV} {v : Value} (hv : relS ρ s v) :
    Rel w0 fb ρ (putS tm dst s) h (a.put dst v) w := by
  cases dst with
  | none => exact r
  | some d =>
    refine ⟨?_, by simp [Act.put, putS, setL_length, r.len], r.defers, r.heap, r.dom, r.inj, r.low, r.keep⟩
    intro t s' hs
    simp only [putS, getL_setL] at hs
    simp only [Act.put]
    by_cases hd : d = t
    · subst hd
      rw [if_pos rfl] at hs
      by_cases hl : d < tm.length
      · rw [if_pos hl] at hs
        cases hs
        have : d < a.tmps.size := by rw [r.len]; exact hl
        simpa [Array.getElem?_setIfInBounds, this] using hv
      · rw [if_neg hl] at hs; cases hs
    · rw [if_neg hd] at hs
      have := r.tmps t s' hs
      simpa [Array.getElem?_setIfInBounds_ne hd] using this

theorem block_lt {w : World} {b : Nat} {o : Obj} (h : w.heap[b]? = some o) : b < w.heap.size := (Array.getElem?_eq_some_iff.1 h).1

theorem Rel.grown {w0 : World} {fb : Nat → Prop} {ρ : Env} {tm : List SV} {h : Heap} {a : Act} {w w' : World} (r : Rel w0 fb ρ tm h a w) {row : Option Nat} (hg : w.grownBy w' row)
    (hd : ∀ b, row = some b → (w0.heap.size ≤ b ∨ fb b) ∧ ∀ d i, ρ d i = some b → deadAt h d i) : Rel w0 fb ρ tm h a w' := by
  refine ⟨r.tmps, r.len, r.defers, ?_, r.dom, r.inj, r.low, ?_⟩
  · intro d i blk hb
    obtain ⟨b, h1, h2, h3⟩ := r.heap d i blk hb
    refine ⟨b, h1, Nat.lt_of_lt_of_le h2 hg.size, ?_⟩
    rcases h3 with h3 | ⟨l, junk, e1, e2, e3⟩
    · exact .inl h3
    · by_cases hr : row = some b
      · obtain ⟨blk', q1, q2⟩ := (hd b hr).2 d i h1
        rw [hb] at q1
        cases q1
        exact .inl q2
      · exact .inr ⟨l, junk, e1, by rw [hg.block b h2 (fun e => hr e.symm)]; exact e2, e3⟩
  · have k := r.keep
    refine ⟨hg.os.trans k.os, hg.tape.trans k.tape, hg.output.trans k.output, Nat.le_trans k.size hg.size, fun j hj hn => ?_⟩
    rw [hg.block j (Nat.lt_of_lt_of_le hj k.size) (fun e => by
      rcases (hd j e.symm).1 with h1 | h1
      · omega
      · exact hn h1)]
    exact k.block j hj hn

theorem Rel.below {w0 : World} {fb : Nat → Prop} {ρ : Env} {tm : List SV} {h : Heap} {a : Act} {w w' : World} (r : Rel w0 fb ρ tm h a w) (hb : Below w.heap.size w w') : Rel w0 fb ρ tm h a w' :=
  r.grown (row := none) ⟨hb.os, hb.tape, hb.output, hb.size, fun k hk _ => hb.block k hk⟩ (fun b e => by cases e)

theorem Rel.drew {w0 : World} {fb : Nat → Prop} {ρ : Env} {tm : List SV} {h : Heap} {a : Act} {w : World} (r : Rel w0 fb ρ tm h a w) : Rel w0 fb ρ tm h a { w with drawn := w.drawn + 1 } :=
  ⟨r.tmps, r.len, r.defers, r.heap, r.dom, r.inj, r.low, ⟨r.keep.os, r.keep.tape, r.keep.output, r.keep.size, r.keep.block⟩⟩

theorem getB_setB {h : Heap} {d i : Nat} {old b : Blk} (e : getB h d i = some old) (d' i' : Nat) : getB (setB h d i b) d' i' = if d = d' ∧ i = i' then some b else getB h d' i' := by
  unfold getB at e
  cases hl : getL h d with
  | none => simp [hl] at e
  | some l =>
    simp only [hl] at e
    have h1 := getL_some_lt hl
    have h2 := getL_some_lt e
    unfold getB setB
    simp only [hl, getL_setL]
    by_cases hd : d = d'
    · subst hd
      simp only [if_true, h1, getL_setL, true_and, hl]
      by_cases hi : i = i'
      · subst hi; simp [h2]
      · simp [hi]
    · simp [hd]

theorem getB_pushB {h h' : Heap} {d n : Nat} {b : Blk} (e : pushB h d b = some (h', n)) :
    getB h d n = none ∧ getB h' d n = some b ∧ (∀ d' i', ¬(d' = d ∧ i' = n) → getB h' d' i' = getB h d' i') := by
  unfold pushB at e
  cases hl : getL h d with
  | none => simp [hl] at e
  | some l =>
    simp only [hl] at e
    cases e
    have h1 := getL_some_lt hl
    refine ⟨?_, ?_, ?_⟩
    · unfold getB; rw [hl]; simp [getL_eq]
    · unfold getB; rw [getL_setL, if_pos rfl, if_pos h1]; simp [getL_eq]
    · intro d' i' hne
      unfold getB
      rw [getL_setL]
      by_cases hd : d = d'
      · subst hd
        rw [if_pos rfl, if_pos h1, hl]
        simp only [getL_eq]
        have hi : i' ≠ l.length := fun e => hne ⟨rfl, e⟩
        rcases Nat.lt_or_ge i' l.length with h2 | h2
        · rw [List.getElem?_append_left h2]
        · rw [List.getElem?_eq_none (by simp; omega), List.getElem?_eq_none h2]
      · rw [if_neg hd]

/-- a block that is now one's own -/
theorem Rel.added {w0 : World} {fb : Nat → Prop} {ρ : Env} {tm : List SV} {h h' : Heap} {a : Act} {w : World} (r : Rel w0 fb ρ tm h a w) {d n : Nat} {cs : List Cell} {t : TypeId} {kd : Kd} {l junk : List Value} {g c : Nat}
    (hc : denCs ρ cs = some l) (e : pushB h d ⟨cs, t, kd⟩ = some (h', n)) (hw : w.heap[g]? = some (.cells (l ++ junk).toArray t (0, 0))) (hs : kd = .sl → (l ++ junk).length = c ∧ c ≤ maxLen)
    (hlow : kd = .ro ∨ w0.heap.size ≤ g ∨ fb g) (hfree : ∀ d i, ρ d i = some g → deadAt h d i) :
    ∃ ρ' : Env, ρ.le ρ' ∧ ρ' d n = some g ∧ ρ'.cap d n = c ∧ Rel w0 fb ρ' tm h' a w := by
  obtain ⟨g1, g2, g3⟩ := getB_pushB e
  have hn : ρ d n = none := by
    cases hr : ρ d n with
    | none => rfl
    | some b => obtain ⟨blk, hb⟩ := r.dom d n b hr; rw [g1] at hb; cases hb
  let ρ' : Env := ⟨fun d' i' => if d' = d ∧ i' = n then some g else ρ d' i', fun d' i' => if d' = d ∧ i' = n then c else ρ.cap d' i'⟩
  have hle : ρ.le ρ' := by
    intro d' i' b hb
    have hne : ¬ (d' = d ∧ i' = n) := by rintro ⟨rfl, rfl⟩; rw [hn] at hb; cases hb
    constructor
    · show (if d' = d ∧ i' = n then some g else ρ d' i') = some b
      rw [if_neg hne]; exact hb
    · show (if d' = d ∧ i' = n then c else ρ.cap d' i') = _
      rw [if_neg hne]
  have hnew : ρ' d n = some g := by show (if d = d ∧ n = n then some g else ρ d n) = _; simp
  have hcap : ρ'.cap d n = c := by show (if d = d ∧ n = n then c else ρ.cap d n) = _; simp
  have hold : ∀ {d' i' b}, ρ' d' i' = some b → (d' = d ∧ i' = n ∧ b = g) ∨ (¬(d' = d ∧ i' = n) ∧ ρ d' i' = some b) := by
    intro d' i' b hb
    by_cases hd : d' = d ∧ i' = n
    · left
      have : ρ' d' i' = some g := by show (if d' = d ∧ i' = n then some g else ρ d' i') = _; rw [if_pos hd]
      rw [this] at hb
      exact ⟨hd.1, hd.2, (Option.some.inj hb).symm⟩
    · right
      have : ρ' d' i' = ρ d' i' := by show (if d' = d ∧ i' = n then some g else ρ d' i') = _; rw [if_neg hd]
      rw [this] at hb
      exact ⟨hd, hb⟩
  have hdead : ∀ {d' i'}, deadAt h d' i' → deadAt h' d' i' := by
    rintro d' i' ⟨blk, q1, q2⟩
    refine ⟨blk, ?_, q2⟩
    rw [g3 d' i' (by rintro ⟨rfl, rfl⟩; rw [g1] at q1; cases q1)]
    exact q1
  refine ⟨ρ', hle, hnew, hcap, ⟨fun t s hs => relS_mono hle (r.tmps t s hs), r.len, r.defers, ?_, ?_, ?_, ?_, r.keep⟩⟩
  · intro d' i' blk hg
    by_cases hd : d' = d ∧ i' = n
    · obtain ⟨rfl, rfl⟩ := hd
      rw [g2] at hg
      cases hg
      exact ⟨g, hnew, block_lt hw, .inr ⟨l, junk, denCs_mono hle hc, hw, fun hk => by rw [hcap]; exact hs hk⟩⟩
    · rw [g3 d' i' hd] at hg
      obtain ⟨b, e1, e2, e3⟩ := r.heap d' i' blk hg
      refine ⟨b, (hle _ _ _ e1).1, e2, ?_⟩
      rcases e3 with e3 | ⟨l', junk', q1, q2, q3⟩
      · exact .inl e3
      · exact .inr ⟨l', junk', denCs_mono hle q1, q2, fun hk => by rw [(hle _ _ _ e1).2]; exact q3 hk⟩
  · intro d' i' b hb
    rcases hold hb with ⟨rfl, rfl, _⟩ | ⟨hne, hb'⟩
    · exact ⟨_, g2⟩
    · obtain ⟨blk, hb1⟩ := r.dom d' i' b hb'
      exact ⟨blk, by rw [g3 d' i' hne]; exact hb1⟩
  · intro d1 i1 d2 i2 b h1 h2
    rcases hold h1 with ⟨rfl, rfl, rfl⟩ | ⟨_, h1'⟩ <;> rcases hold h2 with ⟨rfl, rfl, e2⟩ | ⟨_, h2'⟩
    · exact .inl ⟨rfl, rfl⟩
    · exact .inr (.inr (hdead (hfree _ _ h2')))
    · subst e2; exact .inr (.inl (hdead (hfree _ _ h1')))
    · rcases r.inj _ _ _ _ _ h1' h2' with q | q | q
      · exact .inl q
      · exact .inr (.inl (hdead q))
      · exact .inr (.inr (hdead q))
  · intro d' i' b blk hb hg
    rcases hold hb with ⟨rfl, rfl, rfl⟩ | ⟨hne, hb'⟩
    · rw [g2] at hg
      cases hg
      exact hlow
    · rw [g3 d' i' hne] at hg
      exact r.low d' i' b blk hb' hg

/-- a new block of one's own -/
theorem Rel.made {w0 : World} {fb : Nat → Prop} {ρ : Env} {tm : List SV} {h h' : Heap} {a : Act} {w : World} (r : Rel w0 fb ρ tm h a w) {d n : Nat} {cs : List Cell} {t : TypeId} {kd : Kd} {l : List Value}
    (hc : denCs ρ cs = some l) (e : pushB h d ⟨cs, t, kd⟩ = some (h', n)) (hk : kd = .sl → l.length ≤ maxLen) :
    ∃ ρ' : Env, ρ.le ρ' ∧ ρ' d n = some w.heap.size ∧ ρ'.cap d n = l.length ∧ Rel w0 fb ρ' tm h' a { w with heap := w.heap.push (.cells l.toArray t) } := by
  have hg : w.grownBy { w with heap := w.heap.push (.cells l.toArray t) } none := ⟨rfl, rfl, rfl, by simp, fun k hk _ => by
    show (w.heap.push _)[k]? = _
    rw [Array.getElem?_push, if_neg (by omega)]⟩
  have r' := r.grown hg (fun b e => by cases e)
  refine r'.added (junk := []) hc e (by simp) (fun h => ⟨by simp, hk h⟩) (.inr (.inl r.keep.size)) ?_
  intro d i hd
  obtain ⟨blk, q⟩ := r.dom d i _ hd
  obtain ⟨b, q1, q2, _⟩ := r.heap d i blk q
  rw [hd] at q1
  cases q1
  exact absurd q2 (Nat.lt_irrefl _)

/-- a row of one's own, handed over -/
theorem Rel.kill {w0 : World} {fb : Nat → Prop} {ρ : Env} {tm : List SV} {h : Heap} {a : Act} {w : World} (r : Rel w0 fb ρ tm h a w) {d i : Nat} {blk : Blk} (hg : getB h d i = some blk) (hk : blk.kd ≠ .ro) :
    Rel w0 fb ρ tm (killB h d i) a w ∧ deadAt (killB h d i) d i ∧ ∀ d' i', deadAt h d' i' → deadAt (killB h d i) d' i' := by
  have hkb : killB h d i = setB h d i ⟨[], blk.ty, .dead⟩ := by unfold killB; rw [hg]
  rw [hkb]
  have hdead : ∀ {d' i'}, deadAt h d' i' → deadAt (setB h d i ⟨[], blk.ty, .dead⟩) d' i' := by
    rintro d' i' ⟨blk', q1, q2⟩
    by_cases hd : d = d' ∧ i = i'
    · exact ⟨_, by rw [getB_setB hg, if_pos hd], rfl⟩
    · exact ⟨blk', by rw [getB_setB hg, if_neg hd]; exact q1, q2⟩
  refine ⟨⟨r.tmps, r.len, r.defers, ?_, ?_, ?_, ?_, r.keep⟩, ⟨_, by rw [getB_setB hg, if_pos ⟨rfl, rfl⟩], rfl⟩, fun _ _ => hdead⟩
  · intro d' i' blk' hg'
    rw [getB_setB hg] at hg'
    by_cases hd : d = d' ∧ i = i'
    · rw [if_pos hd] at hg'
      obtain ⟨rfl, rfl⟩ := hd
      cases hg'
      obtain ⟨b, q1, q2, _⟩ := r.heap d i blk hg
      exact ⟨b, q1, q2, .inl rfl⟩
    · rw [if_neg hd] at hg'
      exact r.heap d' i' blk' hg'
  · intro d' i' b' hb'
    obtain ⟨blk', e⟩ := r.dom d' i' b' hb'
    rw [getB_setB hg]
    by_cases hd : d = d' ∧ i = i'
    · exact ⟨_, if_pos hd⟩
    · exact ⟨blk', by rw [if_neg hd]; exact e⟩
  · intro d1 i1 d2 i2 b h1 h2
    rcases r.inj _ _ _ _ _ h1 h2 with q | q | q
    · exact .inl q
    · exact .inr (.inl (hdead q))
    · exact .inr (.inr (hdead q))
  · intro d' i' b blk' hb hg'
    rw [getB_setB hg] at hg'
    by_cases hd : d = d' ∧ i = i'
    · rw [if_pos hd] at hg'
      obtain ⟨rfl, rfl⟩ := hd
      cases hg'
      rcases r.low d i b blk hb hg with q | q
      · exact absurd q hk
      · exact .inr q
    · rw [if_neg hd] at hg'
      exact r.low d' i' b blk' hb hg'

/-- a block of one's own, written -/
theorem Rel.wrote {w0 : World} {fb : Nat → Prop} {ρ : Env} {tm : List SV} {h : Heap} {a : Act} {w w' : World} (r : Rel w0 fb ρ tm h a w) {d i b : Nat} {blk : Blk} {cs : List Cell} {l l0 junk : List Value}
    (hg : getB h d i = some blk) (hk : blk.kd.wr = true) (hb : ρ d i = some b) (hc : denCs ρ cs = some l) (hw0 : w.heap[b]? = some (.cells (l0 ++ junk).toArray blk.ty (0, 0))) (hl : l.length = l0.length) (hw : w'.heap[b]? = some (.cells (l ++ junk).toArray blk.ty (0, 0))) (hs : sameBut w w' b) :
    Rel w0 fb ρ tm (setB h d i ⟨cs, blk.ty, blk.kd⟩) a w' := by
  obtain ⟨s1, s2, s3, s4, s5⟩ := hs
  have nd : ¬ deadAt h d i := by
    rintro ⟨blk', q1, q2⟩
    rw [hg] at q1
    cases q1
    rw [q2] at hk
    cases hk
  have hdead : ∀ {d' i'}, deadAt h d' i' → deadAt (setB h d i ⟨cs, blk.ty, blk.kd⟩) d' i' := by
    rintro d' i' ⟨blk', q1, q2⟩
    by_cases hd : d = d' ∧ i = i'
    · obtain ⟨rfl, rfl⟩ := hd
      exact absurd ⟨blk', q1, q2⟩ nd
    · exact ⟨blk', by rw [getB_setB hg, if_neg hd]; exact q1, q2⟩
  refine ⟨r.tmps, r.len, r.defers, ?_, ?_, ?_, ?_, ?_⟩
  · intro d' i' blk' hg'
    rw [getB_setB hg] at hg'
    by_cases hd : d = d' ∧ i = i'
    · rw [if_pos hd] at hg'
      obtain ⟨rfl, rfl⟩ := hd
      cases hg'
      refine ⟨b, hb, by rw [s4]; exact block_lt hw0, .inr ⟨l, junk, hc, hw, fun hkk => ?_⟩⟩
      obtain ⟨b', q1, _, q3⟩ := r.heap d i blk hg
      rw [hb] at q1
      cases q1
      rcases q3 with q3 | ⟨l', junk', q4, q5, q6⟩
      · exact absurd ⟨blk, hg, q3⟩ nd
      · have := q6 hkk
        rw [hw0] at q5
        have e := congrArg Array.size (Obj.cells.inj (Option.some.inj q5)).1
        simp only [List.size_toArray] at e
        refine ⟨?_, this.2⟩
        rw [← this.1, ← e]
        simp [hl]
    · rw [if_neg hd] at hg'
      obtain ⟨b', e1, e2, e3⟩ := r.heap d' i' blk' hg'
      refine ⟨b', e1, by rw [s4]; exact e2, ?_⟩
      rcases e3 with e3 | ⟨l', junk', q1, q2, q3⟩
      · exact .inl e3
      · by_cases hbb : b' = b
        · subst hbb
          rcases r.inj _ _ _ _ _ hb e1 with q | q | ⟨blk2, q, q'⟩
          · exact absurd q hd
          · exact absurd q nd
          · rw [hg'] at q
            cases q
            exact .inl q'
        · exact .inr ⟨l', junk', q1, by rw [s5 b' hbb]; exact q2, q3⟩
  · intro d' i' b' hb'
    obtain ⟨blk', e⟩ := r.dom d' i' b' hb'
    rw [getB_setB hg]
    by_cases hd : d = d' ∧ i = i'
    · exact ⟨_, if_pos hd⟩
    · exact ⟨blk', by rw [if_neg hd]; exact e⟩
  · intro d1 i1 d2 i2 b h1 h2
    rcases r.inj _ _ _ _ _ h1 h2 with q | q | q
    · exact .inl q
    · exact .inr (.inl (hdead q))
    · exact .inr (.inr (hdead q))
  · intro d' i' b' blk' hb' hg'
    rw [getB_setB hg] at hg'
    by_cases hd : d = d' ∧ i = i'
    · rw [if_pos hd] at hg'
      obtain ⟨rfl, rfl⟩ := hd
      cases hg'
      exact r.low d i b' blk hb' hg
    · rw [if_neg hd] at hg'
      exact r.low d' i' b' blk' hb' hg'
  · have k := r.keep
    refine ⟨s1.trans k.os, s2.trans k.tape, s3.trans k.output, by rw [s4]; exact k.size, fun j hj hn => ?_⟩
    rw [s5 j (fun e => by
      rcases r.low d i b blk hb hg with h1 | h1 | h1
      · rw [h1] at hk; cases hk
      · omega
      · exact hn (by rw [e]; exact h1))]
    exact k.block j hj hn

theorem okCs_spec {ρ : Env} : ∀ {cs : List Cell} {l : List Value}, okCs cs = true → denCs ρ cs = some l → ∀ v, v ∈ l → isOne v = true
  | [], l, _, e, v, hv => by simp only [denCs] at e; cases e; cases hv
  | c :: cs, l, h, e, v, hv => by
    obtain ⟨u, us, h1, h2, rfl⟩ := denCs_cons e
    simp only [okCs, Bool.and_eq_true] at h
    rcases List.mem_append.1 hv with hm | hm
    · exact okC_spec h.1 h1 v hm
    · exact okCs_spec h.2 h2 v hm

theorem run_loadVar {P : Program} {ρ : Env} {t : TypeId} {cs : List Cell} {off : Nat} {s : SV} {l : List Value} {w : World} {b : Nat} {ty : TypeId} (h : partS P t cs off = some s) (e : denCs ρ cs = some l)
    {junk : List Value} (hb : w.heap[b]? = some (.cells (l ++ junk).toArray ty (0, 0))) : ∃ v, relS ρ s v ∧ (loadVar t ⟨b, off, none⟩).run P w = .ok v w := by
  unfold partS at h
  cases h1 : isAggT P t with
  | none => simp [h1] at h
  | some bb =>
    cases h2 : P.info? t with
    | none => cases bb <;> simp [h1, h2] at h
    | some inf =>
      cases bb with
      | true =>
        simp only [h1, h2] at h
        cases h3 : takeAt cs off inf.size with
        | none => simp [h3] at h
        | some ds =>
          simp only [h3] at h
          cases h
          obtain ⟨m, a1, a2, a3, a4⟩ := takeAt_spec cs off inf.size h3 e
          refine ⟨.agg m.toArray, by simp [relS, denP, a1], ?_⟩
          have := run_load_cells (P := P) hb off inf.size 0 #[] m a2 (fun j hj => by rw [Nat.add_zero, List.getElem?_append_left (by omega)]; exact a4 j hj)
          unfold loadVar
          simp only [Sem.run_bind, run_isAgg h1, Result.andThen_ok, Go.sizeOf, run_typeInfo w h2, Sem.run_pure, if_true, loadCells, this]
          simp
      | false =>
        simp only [h1, h2] at h
        cases h3 : cellAt cs off with
        | none => simp [h3] at h
        | some c =>
          simp only [h3] at h
          cases h
          obtain ⟨v, b1, b2⟩ := cellAt_spec e h3
          refine ⟨v, b2, ?_⟩
          unfold loadVar
          have b1' : (l ++ junk)[off]? = some v := by rw [List.getElem?_append_left (List.getElem?_eq_some_iff.1 b1).1]; exact b1
          simp only [Sem.run_bind, run_isAgg h1, Result.andThen_ok, Bool.false_eq_true, if_false, run_load, cell_in hb, b1']

end Eng
