/-
A program's operations carried out on values written out: the values, memory's blocks, what they stand for; how rows of cells are read and written.
A program's operations carried out on values written out: the operations that leave memory alone.
A program's operations carried out on values written out: '==' of whatever plain values; parts of arrays and structs.
A program's operations carried out on values written out: what is known of memory.
A program's operations carried out on values written out: all that leave memory alone, and calls by what is known of the callee.
A program's operations carried out on values written out: one operation that leaves memory alone.
A program's operations carried out on values written out: blocks of one's own read, written and made; one operation of a region.
-/
import Derived.Test.YtahkpabndfaoiaaUA
import Derived.Calls
import Derived.Orders
import Derived.Below
import Derived.Laws.Sem
import Derived.Laws.Entries
import Derived.Laws.StructEq
import Derived.ChangeKeysEq
import Derived.Laws.OwnMore
import Derived.Laws.Tables

/- A program's operations carried out on values written out: the values, memory's blocks, what they stand for; how rows of cells are read and written. -/
namespace Eng
open Go

/-- a cell, or several in a row: a value; the address of a block of the call's own (its place d, its number i); a digit; the words of a number modulo the prime; its digits of 16 bits; n digits of w bits of a number; whole numbers of a list; a slice: of a block of the call's own, from a place on, so many elements, its capacity (none: the block's), is its length no literal?; a slice of what one reads alone, so many elements, its capacity, if it is known; an address in what one reads alone -/
inductive Cell where
  | val (v : Value)
  | ptr (d i off : Nat)
  | dg1 (k : IntKind) (w x i : Nat)
  | fe (x : Fin Ec.P)
  | nm (x : Fin Ec.P)
  | dig (k : IntKind) (w x n : Nat)
  | arr (k : IntKind) (l : List Int)
  | sli (d i off n : Nat) (c : Option Nat) (sym : Bool)
  | gs (d i n : Nat) (c : Option Nat) (sym : Bool)
  | gp (d i k : Nat)

/-- the digit i, of w bits, of a number -/
def dg (w x i : Nat) : Int := ((x / 2 ^ (w * i) % 2 ^ w : Nat) : Int)

def digL (k : IntKind) (w x n : Nat) : List Value := (List.range n).map fun i => .int k (dg w x i)

/-- how many cells -/
def wid : Cell → Nat
  | .fe _ => 4
  | .nm _ => 16
  | .dig _ _ _ n => n
  | .arr _ l => l.length
  | _ => 1

/-- one by one -/
def expand : Cell → List Cell
  | .fe x => [.dg1 .u64 64 x.val 0, .dg1 .u64 64 x.val 1, .dg1 .u64 64 x.val 2, .dg1 .u64 64 x.val 3]
  | .nm x => (List.range 16).map (.dg1 .u64 16 x.val)
  | .dig k w x n => (List.range n).map (.dg1 k w x)
  | .arr k l => l.map fun n => .val (.int k n)
  | c => [c]

inductive PV where
  | one (c : Cell)
  | agg (cs : List Cell)

inductive SV where
  | any
  | pv (p : PV)
  | tup (ps : List PV)

/-- what a block is: a variable, a slice's own row, what may be read alone, what is no more ours, what a slice or an address shows that is read alone -/
inductive Kd where
  | var | sl | ro | dead | gs
structure Blk where
  cells : List Cell
  ty : TypeId
  kd : Kd

abbrev Heap := List (List Blk)

def getL {α : Type} : List α → Nat → Option α
  | [], _ => none
  | a :: _, 0 => some a
  | _ :: l, n + 1 => getL l n

def setL {α : Type} : List α → Nat → α → List α
  | [], _, _ => []
  | _ :: l, 0, b => b :: l
  | a :: l, n + 1, b => a :: setL l n b

theorem getL_eq {α : Type} : ∀ (l : List α) (n : Nat), getL l n = l[n]?
  | [], _ => by simp [getL]
  | a :: l, 0 => by simp [getL]
  | a :: l, n + 1 => by simp [getL, getL_eq l n]

theorem setL_eq {α : Type} : ∀ (l : List α) (n : Nat) (b : α), setL l n b = l.set n b
  | [], _, _ => by simp [setL]
  | a :: l, 0, b => by simp [setL]
  | a :: l, n + 1, b => by simp [setL, setL_eq l n b]

/-- where the blocks of one's own lie -/
structure Env where
  pos : Nat → Nat → Option Nat
  cap : Nat → Nat → Nat
  sv : Nat → Nat → Option Value
instance : CoeFun Env (fun _ => Nat → Nat → Option Nat) := ⟨Env.pos⟩

/-- no place at all -/
def Env.no : Env := ⟨fun _ _ => none, fun _ _ => 0, fun _ _ => none⟩

def capOk (c : Option Nat) (m : Nat) : Bool := match c with
  | some n => Nat.beq n m
  | none => true

/-- may an address be a slice's of so many elements? -/
def okA (a : Option Addr) (n : Nat) : Bool := match a, n with
  | some ⟨_, _, none⟩, _ => true
  | none, 0 => true
  | _, _ => false

def denC (ρ : Env) : Cell → Option (List Value)
  | .val v => some [v]
  | .ptr d i off => match ρ d i with
    | some b => some [.pointer (some ⟨b, off, none⟩)]
    | none => none
  | .dg1 k w x i => some [.int k (dg w x i)]
  | .fe x => some (digL .u64 64 x.val 4)
  | .nm x => some (digL .u64 16 x.val 16)
  | .dig k w x n => some (digL k w x n)
  | .arr k l => some (l.map (.int k))
  | .sli d i off n c _ => match ρ d i with
    | some b => cond (Nat.ble n (c.getD (ρ.cap d i - off))) (some [.slice (some ⟨b, off, none⟩) n (c.getD (ρ.cap d i - off))]) none
    | none => none
  | .gs d i n c _ => match ρ.sv d i with
    | some (.slice a m cp) => cond (Nat.beq m n && capOk c cp && okA a m) (some [.slice a m cp]) none
    | _ => none
  | .gp d i k => match ρ.sv d i with
    | some (.slice (some ⟨b, o, none⟩) m _) => cond (Nat.blt 0 m) (some [.pointer (some ⟨b, o + k, none⟩)]) none
    | some (.pointer (some ⟨b, o, none⟩)) => some [.pointer (some ⟨b, o + k, none⟩)]
    | _ => none

def denCs (ρ : Env) : List Cell → Option (List Value)
  | [] => some []
  | c :: cs => match denC ρ c, denCs ρ cs with
    | some v, some vs => some (v ++ vs)
    | _, _ => none

def denP (ρ : Env) : PV → Option Value
  | .one c => match denC ρ c with
    | some [v] => some v
    | _ => none
  | .agg cs => match denCs ρ cs with
    | some l => some (.agg l.toArray)
    | none => none

def denPs (ρ : Env) : List PV → Option (List Value)
  | [] => some []
  | p :: ps => match denP ρ p, denPs ρ ps with
    | some v, some vs => some (v :: vs)
    | _, _ => none

/-- what is known of a slot -/
def relS (ρ : Env) : SV → Value → Prop
  | .any, _ => True
  | .pv p, v => denP ρ p = some v
  | .tup ps, v => ∃ l, denPs ρ ps = some l ∧ v = .tuple l.toArray

structure Env.le (ρ ρ' : Env) : Prop where
  pos : ∀ d i b, ρ d i = some b → ρ' d i = some b ∧ ρ'.cap d i = ρ.cap d i
  sv : ∀ d i v, ρ.sv d i = some v → ρ'.sv d i = some v

theorem Env.le_refl (ρ : Env) : ρ.le ρ := ⟨fun _ _ _ h => ⟨h, rfl⟩, fun _ _ _ h => h⟩
theorem Env.le_trans {a b c : Env} (h : a.le b) (k : b.le c) : a.le c := ⟨fun d i x e => ⟨(k.pos d i x (h.pos d i x e).1).1, (k.pos d i x (h.pos d i x e).1).2.trans (h.pos d i x e).2⟩, fun d i v e => k.sv d i v (h.sv d i v e)⟩

theorem denC_mono {ρ ρ' : Env} (h : ρ.le ρ') {c : Cell} {v : List Value} (e : denC ρ c = some v) : denC ρ' c = some v := by
  cases c with
  | ptr d i off =>
    simp only [denC] at *
    cases hb : ρ d i with
    | none => simp [hb] at e
    | some b => simp only [hb] at e; simp only [(h.pos d i b hb).1]; exact e
  | sli d i off n c sym =>
    simp only [denC] at *
    cases hb : ρ d i with
    | none => simp [hb] at e
    | some b => simp only [hb] at e; simp only [(h.pos d i b hb).1, (h.pos d i b hb).2]; exact e
  | gs d i n c sym =>
    simp only [denC] at *
    cases hb : ρ.sv d i with
    | none => simp [hb] at e
    | some u => rw [hb] at e; rw [h.sv d i u hb]; exact e
  | gp d i k =>
    simp only [denC] at *
    cases hb : ρ.sv d i with
    | none => simp [hb] at e
    | some u => rw [hb] at e; rw [h.sv d i u hb]; exact e
  | _ => exact e

theorem denCs_cons {ρ : Env} {c : Cell} {cs : List Cell} {l : List Value} (e : denCs ρ (c :: cs) = some l) : ∃ v vs, denC ρ c = some v ∧ denCs ρ cs = some vs ∧ l = v ++ vs := by
  unfold denCs at e
  cases h1 : denC ρ c with
  | none => simp [h1] at e
  | some v =>
    cases h2 : denCs ρ cs with
    | none => simp [h1, h2] at e
    | some vs => simp [h1, h2] at e; exact ⟨v, vs, rfl, rfl, e.symm⟩

theorem denCs_mk {ρ : Env} {c : Cell} {cs : List Cell} {v vs : List Value} (h1 : denC ρ c = some v) (h2 : denCs ρ cs = some vs) : denCs ρ (c :: cs) = some (v ++ vs) := by simp [denCs, h1, h2]

theorem denCs_mono {ρ ρ' : Env} (h : ρ.le ρ') : ∀ {cs : List Cell} {l : List Value}, denCs ρ cs = some l → denCs ρ' cs = some l
  | [], l, e => e
  | c :: cs, l, e => by
    obtain ⟨v, vs, h1, h2, rfl⟩ := denCs_cons e
    exact denCs_mk (denC_mono h h1) (denCs_mono h h2)

theorem denP_one {ρ : Env} {c : Cell} {v : Value} (e : denP ρ (.one c) = some v) : denC ρ c = some [v] := by
  simp only [denP] at e
  split at e
  · rename_i u h; cases e; exact h
  · cases e

theorem denP_one' {ρ : Env} {c : Cell} {v : Value} (e : denC ρ c = some [v]) : denP ρ (.one c) = some v := by simp only [denP, e]

theorem denP_mono {ρ ρ' : Env} (h : ρ.le ρ') {p : PV} {v : Value} (e : denP ρ p = some v) : denP ρ' p = some v := by
  cases p with
  | one c => exact denP_one' (denC_mono h (denP_one e))
  | agg cs =>
    simp only [denP] at *
    cases h1 : denCs ρ cs with
    | none => simp [h1] at e
    | some l => rw [denCs_mono h h1]; simpa [h1] using e

theorem denPs_mono {ρ ρ' : Env} (h : ρ.le ρ') : ∀ {ps : List PV} {l : List Value}, denPs ρ ps = some l → denPs ρ' ps = some l
  | [], l, e => e
  | p :: ps, l, e => by
    unfold denPs at *
    cases h1 : denP ρ p with
    | none => simp [h1] at e
    | some v =>
      cases h2 : denPs ρ ps with
      | none => simp [h1, h2] at e
      | some vs => rw [denP_mono h h1, denPs_mono h h2]; simpa [h1, h2] using e

theorem relS_mono {ρ ρ' : Env} (h : ρ.le ρ') {s : SV} {v : Value} (e : relS ρ s v) : relS ρ' s v := by
  cases s with
  | any => trivial
  | pv p => exact denP_mono h e
  | tup ps => obtain ⟨l, h1, h2⟩ := e; exact ⟨l, denPs_mono h h1, h2⟩

theorem digL_length (k : IntKind) (w x n : Nat) : (digL k w x n).length = n := by simp [digL]

theorem denC_gs {ρ : Env} {d i n : Nat} {c : Option Nat} {sym : Bool} {l : List Value} (e : denC ρ (.gs d i n c sym) = some l) : ∃ v, l = [v] ∧ ρ.sv d i = some v ∧ ∃ a cp, v = .slice a n cp ∧ capOk c cp = true ∧ okA a n = true := by
  simp only [denC] at e
  split at e
  · rename_i a m cp h
    cases hc : (Nat.beq m n && capOk c cp && okA a m) with
    | true =>
      rw [hc] at e
      cases e
      obtain ⟨h1, h3⟩ := Bool.and_eq_true_iff.1 hc
      obtain ⟨h1, h2⟩ := Bool.and_eq_true_iff.1 h1
      have := Nat.eq_of_beq_eq_true h1
      subst this
      exact ⟨_, rfl, h, a, cp, rfl, h2, h3⟩
    | false => rw [hc] at e; cases e
  · cases e
theorem denC_gs' {ρ : Env} {d i n : Nat} {c : Option Nat} {sym : Bool} {a : Option Addr} {cp : Nat} (h : ρ.sv d i = some (.slice a n cp)) (hc : capOk c cp = true) (ha : okA a n = true) : denC ρ (.gs d i n c sym) = some [.slice a n cp] := by
  simp only [denC, h, hc, ha, Nat.beq_refl, Bool.and_true, cond_true]
theorem okA_pos {a : Option Addr} {n : Nat} (h : okA a n = true) (hn : 0 < n) : ∃ b o, a = some ⟨b, o, none⟩ := by
  cases a with
  | none => cases n with
    | zero => omega
    | succ n => cases h
  | some x =>
    obtain ⟨b, o, v⟩ := x
    cases v with
    | none => exact ⟨b, o, rfl⟩
    | some v => cases n <;> cases h
theorem denC_gp {ρ : Env} {d i k : Nat} {l : List Value} (e : denC ρ (.gp d i k) = some l) : ∃ b o, l = [.pointer (some ⟨b, o + k, none⟩)] ∧ ((∃ n c, 0 < n ∧ ρ.sv d i = some (.slice (some ⟨b, o, none⟩) n c)) ∨ ρ.sv d i = some (.pointer (some ⟨b, o, none⟩))) := by
  simp only [denC] at e
  split at e
  · rename_i b o n c h
    cases hn : Nat.blt 0 n with
    | true => rw [hn] at e; cases e; exact ⟨b, o, rfl, .inl ⟨n, c, by simpa [Nat.blt_eq] using hn, h⟩⟩
    | false => rw [hn] at e; cases e
  · rename_i b o h
    cases e
    exact ⟨b, o, rfl, .inr h⟩
  · cases e

theorem denC_length {ρ : Env} {c : Cell} {l : List Value} (e : denC ρ c = some l) : l.length = wid c := by
  cases c with
  | ptr d i off =>
    simp only [denC] at e
    cases hb : ρ d i with
    | none => simp [hb] at e
    | some b => simp only [hb] at e; cases e; rfl
  | val v => cases e; rfl
  | dg1 k w x i => cases e; rfl
  | fe x => cases e; rfl
  | nm x => cases e; rfl
  | dig k w x n => cases e; exact digL_length _ _ _ _
  | arr k l => cases e; simp [wid]
  | sli d i off n c sym =>
    simp only [denC] at e
    cases hb : ρ d i with
    | none => simp [hb] at e
    | some b =>
      simp only [hb] at e
      cases hc : Nat.ble n (c.getD (ρ.cap d i - off)) with
      | true => rw [hc] at e; cases e; rfl
      | false => rw [hc] at e; cases e
  | gs d i n c sym =>
    obtain ⟨u, rfl, _⟩ := denC_gs e
    rfl
  | gp d i k =>
    obtain ⟨b, o, rfl, _⟩ := denC_gp e
    rfl

def widS : List Cell → Nat
  | [] => 0
  | c :: cs => wid c + widS cs

theorem denCs_length {ρ : Env} : ∀ {cs : List Cell} {l : List Value}, denCs ρ cs = some l → l.length = widS cs
  | [], l, e => by simp [denCs] at e; subst e; rfl
  | c :: cs, l, e => by
    obtain ⟨v, vs, h1, h2, rfl⟩ := denCs_cons e
    simp [widS, denC_length h1, denCs_length h2]

theorem denCs_append {ρ : Env} : ∀ {cs ds : List Cell} {l m : List Value}, denCs ρ cs = some l → denCs ρ ds = some m → denCs ρ (cs ++ ds) = some (l ++ m)
  | [], ds, l, m, e, e' => by simp [denCs] at e; subst e; simpa using e'
  | c :: cs, ds, l, m, e, e' => by
    obtain ⟨v, vs, h1, h2, rfl⟩ := denCs_cons e
    have := denCs_append h2 e'
    simp [denCs, h1, this]

theorem denCs_digits (ρ : Env) (k : IntKind) (w x : Nat) : ∀ is : List Nat, denCs ρ (is.map (.dg1 k w x)) = some (is.map fun i => .int k (dg w x i))
  | [] => rfl
  | i :: is => by simp [denCs, denC, denCs_digits ρ k w x is]

theorem denCs_one {ρ : Env} {c : Cell} {v : List Value} (e : denC ρ c = some v) : denCs ρ [c] = some v := by simp [denCs, e]

theorem denCs_ints (ρ : Env) (k : IntKind) : ∀ l : List Int, denCs ρ (l.map fun n => Cell.val (.int k n)) = some (l.map (.int k))
  | [] => rfl
  | n :: l => by simp [denCs, denC, denCs_ints ρ k l]

theorem denCs_expand {ρ : Env} {c : Cell} {l : List Value} (e : denC ρ c = some l) : denCs ρ (expand c) = some l := by
  cases c with
  | fe x => rw [← e]; rfl
  | nm x => simp only [denC] at e; cases e; exact denCs_digits ρ _ _ _ _
  | dig k w x n => simp only [denC] at e; cases e; exact denCs_digits ρ _ _ _ _
  | val v => exact denCs_one e
  | ptr d i off => exact denCs_one e
  | dg1 k w x i => exact denCs_one e
  | arr k l => simp only [denC] at e; cases e; exact denCs_ints ρ k l
  | sli d i off n c sym => exact denCs_one e
  | gs d i n c sym => exact denCs_one e
  | gp d i k => exact denCs_one e

/-- cells of one each -/
def flat1 (cs : List Cell) : Prop := ∀ c ∈ cs, wid c = 1

theorem expand_flat (c : Cell) : flat1 (expand c) := by
  cases c with
  | fe x => intro c hc; simp [expand] at hc; rcases hc with rfl | rfl | rfl | rfl <;> rfl
  | nm x => intro c hc; simp only [expand, List.mem_map] at hc; obtain ⟨i, _, rfl⟩ := hc; rfl
  | dig k w x n => intro c hc; simp only [expand, List.mem_map] at hc; obtain ⟨i, _, rfl⟩ := hc; rfl
  | val v => intro c hc; simp [expand] at hc; subst hc; rfl
  | ptr d i off => intro c hc; simp [expand] at hc; subst hc; rfl
  | dg1 k w x i => intro c hc; simp [expand] at hc; subst hc; rfl
  | arr k l => intro c hc; simp only [expand, List.mem_map] at hc; obtain ⟨i, _, rfl⟩ := hc; rfl
  | sli d i off n c sym => intro c hc; simp [expand] at hc; subst hc; rfl
  | gs d i n c sym => intro c hc; simp [expand] at hc; subst hc; rfl
  | gp d i k => intro c hc; simp [expand] at hc; subst hc; rfl

theorem flat_take {ρ : Env} : ∀ {cs : List Cell} {l : List Value} (k : Nat), flat1 cs → denCs ρ cs = some l → denCs ρ (cs.take k) = some (l.take k) ∧ denCs ρ (cs.drop k) = some (l.drop k)
  | [], l, k, _, e => by simp [denCs] at e; subst e; simp [denCs]
  | c :: cs, l, 0, _, e => by simp [denCs, e]
  | c :: cs, l, k + 1, hf, e => by
    obtain ⟨v, vs, h1, h2, rfl⟩ := denCs_cons e
    have hl := denC_length h1
    rw [hf c (by simp)] at hl
    obtain ⟨a, b⟩ := flat_take (ρ := ρ) (cs := cs) k (fun c hc => hf c (by simp [hc])) h2
    match v, hl with
    | [u], _ => simp [denCs, h1, a, b]

/-- the first k cells, and the others -/
def cut : List Cell → Nat → Option (List Cell × List Cell)
  | cs, 0 => some ([], cs)
  | [], _ + 1 => none
  | c :: cs, k + 1 => cond (Nat.ble (wid c) (k + 1)) (match cut cs (k + 1 - wid c) with
      | some (a, b) => some (c :: a, b)
      | none => none) (some ((expand c).take (k + 1), (expand c).drop (k + 1) ++ cs))

theorem cut_spec {ρ : Env} : ∀ (cs : List Cell) (k : Nat) {a b : List Cell} {l : List Value}, cut cs k = some (a, b) → denCs ρ cs = some l →
    denCs ρ a = some (l.take k) ∧ denCs ρ b = some (l.drop k) ∧ k ≤ l.length
  | cs, 0, a, b, l, h, e => by
    have : cut cs 0 = some ([], cs) := by cases cs <;> rfl
    rw [this] at h
    cases h
    exact ⟨rfl, by simpa using e, by omega⟩
  | [], k + 1, a, b, l, h, _ => by simp [cut] at h
  | c :: cs, k + 1, a, b, l, h, e => by
    obtain ⟨v, vs, h1, h2, rfl⟩ := denCs_cons e
    have hl := denC_length h1
    simp only [cut] at h
    by_cases hb : Nat.ble (wid c) (k + 1) = true
    · rw [hb] at h
      simp only [cond_true] at h
      have hle := Nat.le_of_ble_eq_true hb
      cases h3 : cut cs (k + 1 - wid c) with
      | none => simp [h3] at h
      | some ab =>
        obtain ⟨a', b'⟩ := ab
        simp only [h3] at h
        cases h
        obtain ⟨p, q, r⟩ := cut_spec cs (k + 1 - wid c) h3 h2
        refine ⟨?_, ?_, by simp; omega⟩
        · have ht : List.take (k + 1) v = v := List.take_of_length_le (by omega)
          rw [denCs_mk h1 p, List.take_append, ht, hl]
        · have ht : List.drop (k + 1) v = [] := List.drop_eq_nil_of_le (by omega)
          rw [q, List.drop_append, ht, hl]; rfl
    · rw [Bool.eq_false_iff.2 hb] at h
      simp only [cond_false] at h
      cases h
      have hgt : k + 1 < wid c := by
        rcases Nat.lt_or_ge (k + 1) (wid c) with h4 | h4
        · exact h4
        · exact absurd (Nat.ble_eq_true_of_le h4) hb
      obtain ⟨p, q⟩ := flat_take (k + 1) (expand_flat c) (denCs_expand h1)
      refine ⟨?_, ?_, by simp; omega⟩
      · rw [p, List.take_append_of_le_length (by omega)]
      · rw [denCs_append q h2, List.drop_append_of_le_length (by omega)]

/-- so many cells, from a place on -/
def takeAt (cs : List Cell) (k n : Nat) : Option (List Cell) :=
  match cut cs k with
  | some (_, b) => match cut b n with
    | some (m, _) => some m
    | none => none
  | none => none

/-- cells put in the place of others, from a place on -/
def putAt (cs : List Cell) (k : Nat) (ds : List Cell) : Option (List Cell) :=
  match cut cs k with
  | some (a, b) => match cut b (widS ds) with
    | some (_, c) => some (a ++ (ds ++ c))
    | none => none
  | none => none

theorem takeAt_spec {ρ : Env} (cs : List Cell) (k n : Nat) {ds : List Cell} {l : List Value} (h : takeAt cs k n = some ds) (e : denCs ρ cs = some l) :
    ∃ m, denCs ρ ds = some m ∧ m.length = n ∧ k + n ≤ l.length ∧ ∀ j, j < n → l[k + j]? = m[j]? := by
  unfold takeAt at h
  cases h1 : cut cs k with
  | none => simp [h1] at h
  | some ab =>
    obtain ⟨a, b⟩ := ab
    simp only [h1] at h
    cases h2 : cut b n with
    | none => simp [h2] at h
    | some mb =>
      obtain ⟨m, b'⟩ := mb
      simp only [h2] at h
      cases h
      obtain ⟨p1, p2, p3⟩ := cut_spec cs k h1 e
      obtain ⟨q1, q2, q3⟩ := cut_spec b n h2 p2
      simp at q3
      refine ⟨_, q1, by simp; omega, by omega, fun j hj => ?_⟩
      rw [List.getElem?_take, if_pos hj, List.getElem?_drop]

/-- a list with others' values from a place on -/
def spl {α : Type} (l : List α) (k : Nat) : List α → List α
  | [] => l
  | v :: vs => spl (l.set k v) (k + 1) vs

theorem spl_length {α : Type} : ∀ (vs l : List α) (k : Nat), (spl l k vs).length = l.length
  | [], l, k => rfl
  | v :: vs, l, k => by simp [spl, spl_length vs]

theorem spl_eq {α : Type} : ∀ (vs l : List α) (k : Nat), k + vs.length ≤ l.length → spl l k vs = l.take k ++ (vs ++ l.drop (k + vs.length))
  | [], l, k, _ => by simp [spl]
  | v :: vs, l, k, h => by
    simp at h
    rw [spl, spl_eq vs (l.set k v) (k + 1) (by simp; omega)]
    apply List.ext_getElem?
    intro j
    have hk : k < l.length := by omega
    simp only [List.getElem?_append, List.getElem?_take, List.getElem?_drop, List.getElem?_set, List.length_take, List.length_set, List.length_cons, List.getElem?_cons]
    have m1 : min (k + 1) l.length = k + 1 := by omega
    have m2 : min k l.length = k := by omega
    rw [m1, m2]
    by_cases h1 : j < k
    · rw [if_pos (by omega), if_pos (by omega), if_pos h1, if_pos h1, if_neg (by omega)]
    · by_cases h2 : j = k
      · subst h2
        rw [if_pos (by omega), if_pos (by omega), if_neg h1, if_pos (by omega)]
        simp [hk]
      · rw [if_neg (by omega), if_neg h1]
        by_cases h3 : j - (k + 1) < vs.length
        · rw [if_pos h3, if_pos (by omega), if_neg (by omega)]
          congr 1
        · rw [if_neg h3, if_neg (by omega), if_neg (by omega)]
          congr 1
          omega

theorem putAt_spec {ρ : Env} (cs : List Cell) (k : Nat) (ds : List Cell) {es : List Cell} {l m : List Value} (h : putAt cs k ds = some es) (e : denCs ρ cs = some l) (e' : denCs ρ ds = some m) :
    denCs ρ es = some (spl l k m) ∧ k + m.length ≤ l.length := by
  unfold putAt at h
  cases h1 : cut cs k with
  | none => simp [h1] at h
  | some ab =>
    obtain ⟨a, b⟩ := ab
    simp only [h1] at h
    cases h2 : cut b (widS ds) with
    | none => simp [h2] at h
    | some mb =>
      obtain ⟨x, c⟩ := mb
      simp only [h2] at h
      cases h
      obtain ⟨p1, p2, p3⟩ := cut_spec cs k h1 e
      obtain ⟨q1, q2, q3⟩ := cut_spec b (widS ds) h2 p2
      have hm := denCs_length e'
      simp at q3
      refine ⟨?_, by omega⟩
      rw [spl_eq m l k (by omega), denCs_append p1 (denCs_append e' q2), List.drop_drop, hm]

/-- is it the value of one cell? -/
def isOne : Value → Bool
  | .agg _ => false
  | .tuple _ => false
  | _ => true

/-- rows of cells in memory -/
theorem cell_in {w : World} {b : Nat} {l : List Value} {t : TypeId} {fr : Nat × Nat} (h : w.heap[b]? = some (.cells l.toArray t fr)) (k : Nat) : w.cell? ⟨b, k, none⟩ = l[k]? := by
  simp [World.cell?, h]

theorem add_none (b k n : Nat) : (⟨b, k, none⟩ : Addr).add n = ⟨b, k + n, none⟩ := by
  unfold Addr.add
  split
  · subst_vars; rfl
  · rfl

theorem run_load_cells {P : Program} {w : World} {b : Nat} {l : List Value} {t : TypeId} {fr : Nat × Nat} (h : w.heap[b]? = some (.cells l.toArray t fr)) (k : Nat) :
    ∀ (n i : Nat) (acc : Array Value) (m : List Value), m.length = n → (∀ j, j < n → l[k + i + j]? = m[j]?) →
      (loadCellsFrom ⟨b, k, none⟩ i n acc).run P w = .ok (acc ++ m.toArray) w := by
  intro n
  induction n with
  | zero =>
    intro i acc m hm _
    have : m = [] := by simpa using hm
    subst this
    simp [loadCellsFrom, pure]
  | succ n ih =>
    intro i acc m hm hj
    cases m with
    | nil => simp at hm
    | cons v m =>
      have h0 := hj 0 (by omega)
      have hc : w.cell? ⟨b, k + i, none⟩ = some v := by rw [cell_in h]; simpa using h0
      have := ih (i + 1) (acc.push v) m (by simpa using hm) (fun j hlt => by
        have := hj (j + 1) (by omega)
        rw [show k + (i + 1) + j = k + i + (j + 1) from by omega, this]; simp)
      simp only [loadCellsFrom, add_none, load, bind, Sem.bind, Sem.run, hc, this]
      simp

def sameBut (w w' : World) (b : Nat) : Prop :=
  w'.os = w.os ∧ w'.tape = w.tape ∧ w'.output = w.output ∧ w'.heap.size = w.heap.size ∧ ∀ k, k ≠ b → w'.heap[k]? = w.heap[k]?

theorem spl_app {α : Type} : ∀ (vs l m : List α) (k : Nat), k + vs.length ≤ l.length → spl (l ++ m) k vs = spl l k vs ++ m
  | [], l, m, k, _ => rfl
  | v :: vs, l, m, k, h => by
    simp only [List.length_cons] at h
    simp only [spl]
    rw [List.set_append_left _ _ (by omega), spl_app vs (l.set k v) m (k + 1) (by simp; omega)]

theorem run_store_cells {P : Program} {b : Nat} {t : TypeId} (k : Nat) :
    ∀ (vs : List Value) (i : Nat) (l : List Value) (w : World), w.heap[b]? = some (.cells l.toArray t (0, 0)) → k + i + vs.length ≤ l.length → (∀ v, v ∈ vs → isOne v = true) →
      ∃ w', (storeCells ⟨b, k, none⟩ vs i).run P w = .ok () w' ∧ w'.heap[b]? = some (.cells (spl l (k + i) vs).toArray t (0, 0)) ∧ sameBut w w' b := by
  intro vs
  induction vs with
  | nil =>
    intro i l w h _ _
    exact ⟨w, by simp [storeCells, pure], h, rfl, rfl, rfl, rfl, fun _ _ => rfl⟩
  | cons v vs ih =>
    intro i l w h hle hone
    have hlt : b < w.heap.size := by
      rcases Nat.lt_or_ge b w.heap.size with h1 | h1
      · exact h1
      · simp [Array.getElem?_eq_none h1] at h
    have hc : ∃ x, w.cell? ⟨b, k + i, none⟩ = some x := by
      rw [cell_in h]
      have : k + i < l.length := by simp at hle; omega
      exact ⟨_, List.getElem?_eq_getElem this⟩
    obtain ⟨x, hc⟩ := hc
    have hf : w.frozen? ⟨b, k + i, none⟩ = false := by simp [World.frozen?, h]
    have h' : (w.setCell ⟨b, k + i, none⟩ v).heap[b]? = some (.cells (l.set (k + i) v).toArray t (0, 0)) := by
      have hg : w.heap[b] = .cells l.toArray t (0, 0) := by
        rw [Array.getElem?_eq_getElem hlt] at h
        exact Option.some.inj h
      simp [World.setCell, Array.getElem?_modify, h]
    obtain ⟨w', e1, e2, e3⟩ := ih (i + 1) (l.set (k + i) v) (w.setCell ⟨b, k + i, none⟩ v) h' (by simp at hle ⊢; omega) (fun u hu => hone u (by simp [hu]))
    refine ⟨w', ?_, ?_, ?_⟩
    · have h1 := hone v (by simp)
      simp only [storeCells, add_none, store, bind, Sem.bind]
      cases v <;> first | (simp [isOne] at h1; done) | (simp only [Sem.run, hc, hf]; exact e1)
    · rw [show k + (i + 1) = k + i + 1 from by omega] at e2
      exact e2
    · obtain ⟨a1, a2, a3, a4, a5⟩ := e3
      refine ⟨a1.trans rfl, a2.trans rfl, a3.trans rfl, a4.trans (by simp [World.setCell]), fun j hj => ?_⟩
      rw [a5 j hj]
      simp only [World.setCell, Array.getElem?_modify]
      rw [if_neg (fun e => hj e.symm)]

end Eng

/- A program's operations carried out on values written out: the operations that leave memory alone. -/
namespace Eng
open Go

abbrev Ev := Operand → Option SV

def ofVal : Value → Option SV
  | .agg cs => some (.pv (.agg (cs.toList.map .val)))
  | .tuple _ => none
  | v => some (.pv (.one (.val v)))

def evO (tm : List SV) : Ev
  | .tmp t => getL tm t
  | .const v => ofVal v
  | .global g => some (.pv (.one (.val (.pointer (some ⟨g, 0, none⟩)))))
  | .func f => some (.pv (.one (.val (.func (.func f) #[] #[]))))

theorem denCs_vals (ρ : Env) : ∀ l : List Value, denCs ρ (l.map .val) = some l
  | [] => rfl
  | v :: l => by simp [denCs, denC, denCs_vals ρ l]

theorem ofVal_spec {ρ : Env} {v : Value} {s : SV} (h : ofVal v = some s) : relS ρ s v := by
  cases v <;> simp only [ofVal] at h <;> first | (cases h; done) | skip
  case agg cs => cases h; simp [relS, denP, denCs_vals]
  all_goals (cases h; simp [relS, denP, denC])

/-- what the slots hold is what is known of them -/
def evR (ρ : Env) (ev : Ev) (a : Act) : Prop := ∀ x s, ev x = some s → relS ρ s (a.eval x)

theorem evO_spec {ρ : Env} {tm : List SV} {a : Act} (h : ∀ t s, getL tm t = some s → relS ρ s (a.tmps.getD t undef)) : evR ρ (evO tm) a := by
  intro x s e
  cases x with
  | tmp t => exact h t s e
  | const v => exact ofVal_spec e
  | global g => simp only [evO] at e; cases e; rfl
  | func f => simp only [evO] at e; cases e; rfl

def Cell.int? : Cell → Option (IntKind × Int)
  | .val (.int k n) => some (k, n)
  | .dg1 k w x i => some (k, dg w x i)
  | _ => none

def SV.int? : SV → Option (IntKind × Int)
  | .pv (.one c) => c.int?
  | _ => none

def SV.bool? : SV → Option Bool
  | .pv (.one (.val (.bool b))) => some b
  | _ => none

theorem Cell.int?_spec {ρ : Env} {c : Cell} {k : IntKind} {n : Int} (h : c.int? = some (k, n)) : denC ρ c = some [.int k n] := by
  cases c with
  | val v => cases v <;> simp only [Cell.int?] at h <;> cases h; rfl
  | dg1 k w x i => simp only [Cell.int?] at h; cases h; rfl
  | _ => cases h

theorem SV.int?_spec {ρ : Env} {s : SV} {k : IntKind} {n : Int} {v : Value} (h : s.int? = some (k, n)) (r : relS ρ s v) : v = .int k n := by
  cases s with
  | any => cases h
  | tup ps => cases h
  | pv p =>
    cases p with
    | agg cs => cases h
    | one c =>
      have h1 := Cell.int?_spec (ρ := ρ) (c := c) h
      have h2 := denP_one (ρ := ρ) r
      rw [h1] at h2
      cases h2
      rfl

theorem SV.bool?_spec {ρ : Env} {s : SV} {b : Bool} {v : Value} (h : s.bool? = some b) (r : relS ρ s v) : v = .bool b := by
  cases s with
  | any => cases h
  | tup ps => cases h
  | pv p =>
    cases p with
    | agg cs => cases h
    | one c =>
      cases c with
      | val u =>
        cases u <;> simp only [SV.bool?] at h <;> cases h
        have h2 := denP_one (ρ := ρ) r
        simp only [denC] at h2
        cases h2
        rfl
      | _ => cases h

def arith (op : BinOp) (k : IntKind) (a b : Int) : Option Value :=
  match op with
  | .add => some (.int k (k.wrap (a + b)))
  | .sub => some (.int k (k.wrap (a - b)))
  | .mul => some (.int k (k.wrap (a * b)))
  | .quo => cond (decide (b = 0)) none (some (.int k (k.wrap (a.tdiv b))))
  | .rem => cond (decide (b = 0)) none (some (.int k (a.tmod b)))
  | .and => some (.int k (k.wrap ((BitVec.ofInt k.bits a &&& BitVec.ofInt k.bits b).toNat)))
  | .or => some (.int k (k.wrap ((BitVec.ofInt k.bits a ||| BitVec.ofInt k.bits b).toNat)))
  | .xor => some (.int k (k.wrap ((BitVec.ofInt k.bits a ^^^ BitVec.ofInt k.bits b).toNat)))
  | .andNot => some (.int k (k.wrap ((BitVec.ofInt k.bits a &&& ~~~BitVec.ofInt k.bits b).toNat)))
  | .eql => some (.bool (a == b))
  | .neq => some (.bool (a != b))
  | .lss => some (.bool (decide (a < b)))
  | .leq => some (.bool (decide (a ≤ b)))
  | .gtr => some (.bool (decide (a > b)))
  | .geq => some (.bool (decide (a ≥ b)))
  | .shl => none
  | .shr => none

def shiftV (op : BinOp) (k : IntKind) (a y : Int) : Option Value :=
  cond (decide (y < 0)) none (match op with
    | .shl => some (.int k (k.wrap (a * 2 ^ (min y.toNat k.bits))))
    | .shr => some (.int k (a.fdiv (2 ^ (min y.toNat k.bits))))
    | _ => none)

def isShift : BinOp → Bool
  | .shl => true
  | .shr => true
  | _ => false

def ikEq (a b : IntKind) : Bool := decide (a = b)

def one (v : Value) : SV := .pv (.one (.val v))

def binV (op : BinOp) (x y : SV) : Option SV :=
  match x.int?, y.int? with
  | some (k, a), some (k', b) =>
    cond (isShift op) (match shiftV op k a b with | some v => some (one v) | none => none)
      (cond (ikEq k k') (match arith op k a b with | some v => some (one v) | none => none) none)
  | _, _ => none

theorem run_binInt {P : Program} {w : World} (op : BinOp) (t : TypeId) (k k' : IntKind) (a b : Int) {s : SV}
    (h : binV op (one (.int k a)) (one (.int k' b)) = some s) : ∃ v, s = one v ∧ (binOp op t (.int k a) (.int k' b)).run P w = .ok v w := by
  have h' : cond (isShift op) (match shiftV op k a b with | some v => some (one v) | none => none)
      (cond (ikEq k k') (match arith op k a b with | some v => some (one v) | none => none) none) = some s := h
  clear h
  by_cases hs : isShift op = true
  · rw [hs] at h'
    simp only [cond_true] at h'
    cases hv : shiftV op k a b with
    | none => simp [hv] at h'
    | some v =>
      simp only [hv] at h'
      cases h'
      refine ⟨v, rfl, ?_⟩
      unfold shiftV at hv
      by_cases hb : b < 0
      · simp [hb] at hv
      · simp only [hb, decide_false, cond_false] at hv
        cases op <;> first | (cases hs; done) | (simp only [] at hv; cases hv; simp only [binOp, Op.shift, hb, if_false]; rfl)
  · have hs' : isShift op = false := by simpa using hs
    rw [hs'] at h'
    simp only [cond_false] at h'
    by_cases hk : k = k'
    · subst hk
      simp only [ikEq, decide_true, cond_true] at h'
      cases hv : arith op k a b with
      | none => simp [hv] at h'
      | some v =>
        simp only [hv] at h'
        cases h'
        refine ⟨v, rfl, ?_⟩
        by_cases hb : b = 0
        · cases op <;> first | (cases hs'; done) | (simp only [arith, hb, decide_true, cond_true] at hv; cases hv; done) | (simp only [arith] at hv; cases hv; simp [binOp, Op.intArith, Op.intBits, Op.intCmp])
        · cases op <;> first | (cases hs'; done) | (simp only [arith, hb, decide_false, cond_false] at hv; cases hv; simp [binOp, Op.intDiv, hb]; done) | (simp only [arith] at hv; cases hv; simp [binOp, Op.intArith, Op.intBits, Op.intCmp])
    · simp [ikEq, hk] at h'

theorem binV_spec {P : Program} {ρ : Env} (op : BinOp) (t : TypeId) {x y s : SV} {vx vy : Value} (h : binV op x y = some s) (hx : relS ρ x vx) (hy : relS ρ y vy) :
    (∃ k a k' b, vx = .int k a ∧ vy = .int k' b) ∧ ∃ v, s = one v ∧ ∀ w : World, (binOp op t vx vy).run P w = .ok v w := by
  unfold binV at h
  cases h1 : x.int? with
  | none => simp [h1] at h
  | some ka =>
    obtain ⟨k, a⟩ := ka
    cases h2 : y.int? with
    | none => simp [h1, h2] at h
    | some kb =>
      obtain ⟨k', b⟩ := kb
      simp only [h1, h2] at h
      have e1 := SV.int?_spec h1 hx
      have e2 := SV.int?_spec h2 hy
      subst e1; subst e2
      refine ⟨⟨k, a, k', b, rfl, rfl⟩, ?_⟩
      have hb : binV op (one (.int k a)) (one (.int k' b)) = some s := h
      obtain ⟨v, e, r⟩ := run_binInt (P := P) (w := default) op t k k' a b hb
      refine ⟨v, e, fun w => ?_⟩
      obtain ⟨v', e', r'⟩ := run_binInt (P := P) (w := w) op t k k' a b hb
      have : v = v' := by
        rw [e] at e'
        simp only [one] at e'
        injection e' with e'; injection e' with e'; injection e'
      rw [this]; exact r'

end Eng

/- A program's operations carried out on values written out: '==' of whatever plain values; parts of arrays and structs. -/
namespace Eng
open Go

def cellVal : Cell → Option (List Value)
  | .val v => some [v]
  | .ptr _ _ _ => none
  | .dg1 k w x i => some [.int k (dg w x i)]
  | .fe x => some (digL .u64 64 x.val 4)
  | .nm x => some (digL .u64 16 x.val 16)
  | .dig k w x n => some (digL k w x n)
  | .arr k l => some (l.map (.int k))
  | .sli _ _ _ _ _ _ => none
  | .gs _ _ _ _ _ => none
  | .gp _ _ _ => none

def cellVals : List Cell → Option (List Value)
  | [] => some []
  | c :: cs => match cellVal c, cellVals cs with
    | some v, some vs => some (v ++ vs)
    | _, _ => none

def PV.val? : PV → Option Value
  | .one c => match cellVal c with
    | some [v] => some v
    | _ => none
  | .agg cs => match cellVals cs with
    | some l => some (.agg l.toArray)
    | none => none

theorem cellVal_spec {ρ : Env} {c : Cell} {v : List Value} (h : cellVal c = some v) : denC ρ c = some v := by
  cases c <;> simp only [cellVal] at h <;> first | (cases h; done) | exact h

theorem cellVals_spec {ρ : Env} : ∀ {cs : List Cell} {l : List Value}, cellVals cs = some l → denCs ρ cs = some l
  | [], l, h => by simpa [cellVals, denCs] using h
  | c :: cs, l, h => by
    unfold cellVals at h
    cases h1 : cellVal c with
    | none => simp [h1] at h
    | some v =>
      cases h2 : cellVals cs with
      | none => simp [h1, h2] at h
      | some vs => simp [h1, h2] at h; subst h; simp [denCs, cellVal_spec h1, cellVals_spec h2]

theorem PV.val?_den {ρ : Env} {p : PV} {v : Value} (h : p.val? = some v) : denP ρ p = some v := by
  cases p with
  | one c =>
    simp only [PV.val?] at h
    split at h
    · rename_i u e; cases h; exact denP_one' (cellVal_spec e)
    · cases h
  | agg cs =>
    simp only [PV.val?] at h
    cases h1 : cellVals cs with
    | none => simp [h1] at h
    | some l => simp [h1] at h; subst h; simp [denP, cellVals_spec h1]

theorem PV.val?_spec {ρ : Env} {p : PV} {v u : Value} (h : p.val? = some v) (r : relS ρ (.pv p) u) : u = v := by
  have := PV.val?_den (ρ := ρ) h
  simp only [relS, this] at r
  exact (Option.some.inj r).symm

def allB {α : Type} (f : α → Option Bool) : List α → Option Bool
  | [] => some true
  | a :: l => match f a, allB f l with
    | some x, some y => some (x && y)
    | _, _ => none

/-- is a type's value one of several cells? -/
def isAggT (P : Program) (t : TypeId) : Option Bool :=
  match P.underlying t with
  | some (.struct _) => some true
  | some (.array _ _) => some true
  | some _ => some false
  | none => none

def partV (P : Program) (t : TypeId) (cs : List Value) (off : Nat) : Option Value :=
  match isAggT P t, P.info? t with
  | some true, some i => some (.agg (cs.toArray.extract off (off + i.size)))
  | some false, some _ => cs[off]?
  | _, _ => none

theorem run_isAgg {P : Program} {t : TypeId} {b : Bool} (h : isAggT P t = some b) (w : World) : (isAgg t).run P w = .ok b w := by
  unfold isAggT at h
  cases hu : P.underlying t with
  | none => simp [hu] at h
  | some d =>
    simp only [hu] at h
    unfold isAgg
    simp only [Sem.run_bind, run_underlying hu, Result.andThen_ok]
    cases d <;> simp_all

theorem run_part {P : Program} {t : TypeId} {cs : List Value} {off : Nat} {v : Value} (h : partV P t cs off = some v) (w : World) : (part t cs.toArray off).run P w = .ok v w := by
  unfold partV at h
  cases ha : isAggT P t with
  | none => simp [ha] at h
  | some b =>
    cases hi : P.info? t with
    | none => cases b <;> simp [ha, hi] at h
    | some i =>
      unfold part
      simp only [Sem.run_bind, run_isAgg ha, Result.andThen_ok]
      cases b with
      | true =>
        simp only [ha, hi] at h
        cases h
        simp [Go.sizeOf, run_typeInfo w hi]
      | false =>
        simp only [ha, hi] at h
        simp only [Bool.false_eq_true, if_false, List.getElem?_toArray]
        cases hc : cs[off]? with
        | none => rw [hc] at h; cases h
        | some u => rw [hc] at h; cases h; rfl

/-- are two values the same? -/
def eqAt (P : Program) : Nat → TypeId → Value → Value → Option Bool
  | 0, _, _, _ => none
  | d + 1, t, x, y =>
    match P.underlying t, x, y with
    | some (.int _), .int k a, .int k' b => cond (ikEq k k') (some (a == b)) none
    | some .bool, .bool a, .bool b => some (a == b)
    | some .string, .string a, .string b => some (a.toList == b.toList)
    | some (.array n e), .agg xs, .agg ys => match P.info? e with
      | none => none
      | some _ => allB (fun i => match partV P e xs.toList (i * P.cellsOf e), partV P e ys.toList (i * P.cellsOf e) with
        | some a, some b => eqAt P d e a b
        | _, _ => none) (List.range n)
    | some (.struct fs), .agg xs, .agg ys => cond (P.stoodInHeld t) none (allB (fun (f : Field) => match partV P f.type xs.toList f.offset, partV P f.type ys.toList f.offset with
        | some a, some b => cond (f.name == "_") none (eqAt P d f.type a b)
        | _, _ => none) fs.toList)
    | _, _, _ => none

theorem info_some {P : Program} {t : TypeId} {d : TypeDesc} (h : P.underlying t = some d) : ∃ i, P.info? t = some i := info_of_underlying h

theorem eqAt_spec {P : Program} (D : Nat) : ∀ (d : Nat) (t : TypeId) (x y : Value) (r : Bool), eqAt P d t x y = some r → ∀ w : World, (Op.equalIn (D + d) t x y).run P w = .ok r w := by
  intro d
  induction d with
  | zero => intro t x y r h; simp [eqAt] at h
  | succ d ih =>
    intro t x y r h w
    rw [show D + (d + 1) = (D + d) + 1 from rfl]
    unfold eqAt at h
    split at h
    · rename_i k k' a k'' b hu
      by_cases hk : k' = k''
      · subst hk
        simp only [ikEq, decide_true, cond_true] at h
        cases h
        exact run_equalIn_int w (D + d) t k' k a b hu
      · simp [ikEq, hk] at h
    · rename_i a b hu
      cases h
      exact run_equalIn_bool' w (D + d) t a b hu
    · rename_i a b hu
      cases h
      exact run_equalIn_string w (D + d) t a b hu
    · rename_i n e xs ys hu
      cases hie : P.info? e with
      | none => simp [hie] at h
      | some i =>
        simp only [hie] at h
        rw [run_equalIn_array w (D + d) xs ys hu hie]
        generalize List.range n = is at h
        induction is generalizing r w with
        | nil => simp only [allB] at h; cases h; simp [Op.eqItems]
        | cons j is ihl =>
          simp only [allB] at h
          cases h1 : partV P e xs.toList (j * P.cellsOf e) with
          | none => simp [h1] at h
          | some a =>
            cases h2 : partV P e ys.toList (j * P.cellsOf e) with
            | none => simp [h1, h2] at h
            | some b =>
              simp only [h1, h2] at h
              cases h3 : eqAt P d e a b with
              | none => simp [h3] at h
              | some rr =>
                simp only [h3] at h
                split at h
                · rename_i x' y' e1 e2
                  cases e1
                  cases h
                  have p1 := run_part h1 w
                  have p2 := run_part h2 w
                  simp only [Array.toArray_toList] at p1 p2
                  have hr := ihl _ w e2
                  simp only [Op.eqItems, Sem.run_bind, p1, p2, Result.andThen_ok, ih _ _ _ _ h3]
                  cases rr
                  · simp
                  · simpa using hr
                · cases h
    · rename_i fs xs ys hu
      by_cases hp : P.stoodInHeld t = true
      · simp [hp] at h
      · have hp' : P.stoodInHeld t = false := by simpa using hp
        simp only [hp', cond_false] at h
        have hf : P.fieldsOf t = fs := by simp [Program.fieldsOf, hu]
        rw [run_equalIn_struct w (D + d) t xs ys (by rw [hf]; exact hu) hp', hf]
        generalize fs.toList = l at h
        induction l generalizing r w with
        | nil => simp only [allB] at h; cases h; simp [Op.eqFields]
        | cons f l ihl =>
          simp only [allB] at h
          cases h1 : partV P f.type xs.toList f.offset with
          | none => simp [h1] at h
          | some a =>
            cases h2 : partV P f.type ys.toList f.offset with
            | none => simp [h1, h2] at h
            | some b =>
              simp only [h1, h2] at h
              by_cases hn : f.name = "_"
              · simp [hn] at h
              · have hn' : (f.name == "_") = false := by simpa using hn
                simp only [hn', cond_false] at h
                cases h3 : eqAt P d f.type a b with
                | none => simp [h3] at h
                | some rr =>
                  simp only [h3] at h
                  split at h
                  · rename_i x' y' e1 e2
                    cases e1
                    cases h
                    have p1 := run_part h1 w
                    have p2 := run_part h2 w
                    simp only [Array.toArray_toList] at p1 p2
                    have hr := ihl _ w e2
                    simp only [Op.eqFields, ne_eq, hn, not_false_eq_true, if_true, Sem.run_bind, p1, p2, Result.andThen_ok, ih _ _ _ _ h3]
                    cases rr
                    · simp
                    · simpa using hr
                  · cases h
    · cases h

end Eng

/- A program's operations carried out on values written out: what is known of memory. -/
namespace Eng
open Go Go.RowKit

def getB (h : Heap) (d i : Nat) : Option Blk :=
  match getL h d with
  | some l => getL l i
  | none => none

def Kd.live : Kd → Bool
  | .dead => false
  | .gs => false
  | _ => true
def Kd.sees : Kd → Bool
  | .ro => true
  | .gs => true
  | _ => false
def Kd.isGs : Kd → Bool
  | .gs => true
  | _ => false
def Kd.wr : Kd → Bool
  | .var => true
  | .sl => true
  | _ => false

/-- of what was there when the call began, but for the blocks that one knows, nothing has turned -/
structure Keep (w0 : World) (fb : Nat → Prop) (w : World) : Prop where
  os : w.os = w0.os
  tape : w.tape = w0.tape
  output : w.output = w0.output
  size : w0.heap.size ≤ w.heap.size
  block : ∀ k, k < w0.heap.size → ¬ fb k → w.heap[k]? = w0.heap[k]?

def deadAt (h : Heap) (d i : Nat) : Prop := ∃ blk, getB h d i = some blk ∧ blk.kd = .dead
def seesAt (h : Heap) (d i : Nat) : Prop := ∃ blk, getB h d i = some blk ∧ blk.kd.sees = true
/-- what a slice, or an address, shows -/
def Shows (ρ : Env) (w : World) (d i : Nat) (ty : TypeId) (v : Value) (l : List Value) : Prop :=
  (∃ a c, v = .slice a 0 c ∧ l = []) ∨
  ∃ b pre junk fz, ρ d i = some b ∧ b < w.heap.size ∧ w.heap[b]? = some (.cells (pre ++ (l ++ junk)).toArray ty fz) ∧ ((∃ n c, 0 < n ∧ n ≤ c ∧ v = .slice (some ⟨b, pre.length, none⟩) n c) ∨ v = .pointer (some ⟨b, pre.length, none⟩))
/-- what a block is that one knows -/
def HoldsAt (ρ : Env) (w : World) (d i : Nat) (blk : Blk) : Prop :=
  (blk.kd = .gs ∧ ∃ l v, denCs ρ blk.cells = some l ∧ ρ.sv d i = some v ∧ Shows ρ w d i blk.ty v l) ∨
  ∃ b, ρ d i = some b ∧ b < w.heap.size ∧ blk.kd ≠ .gs ∧ (blk.kd = .dead ∨ ∃ l junk, denCs ρ blk.cells = some l ∧ w.heap[b]? = some (.cells (l ++ junk).toArray blk.ty (0, 0)) ∧ (blk.kd = .sl → (l ++ junk).length = ρ.cap d i ∧ ρ.cap d i ≤ maxLen))

/-- blocks that were there and may be written; of guests of one's own place, where they lie -/
structure Gh where
  fb : Nat → Prop
  anc : Nat → Option (Nat × Nat)
instance : CoeFun Gh (fun _ => Nat → Prop) := ⟨Gh.fb⟩
def Gh.row (row : Option Nat) : Gh := ⟨fun b => row = some b, fun _ => none⟩
def Gh.no : Gh := ⟨fun _ => False, fun _ => none⟩

/-- what is known of memory -/
structure HRel (w0 : World) (fb : Gh) (ρ : Env) (h : Heap) (w : World) : Prop where
  at_ : ∀ d i blk, getB h d i = some blk → HoldsAt ρ w d i blk
  dom : ∀ d i b, ρ d i = some b → ∃ blk, getB h d i = some blk
  doms : ∀ d i v, ρ.sv d i = some v → ∃ blk, getB h d i = some blk
  inj : ∀ d i d' i' b, ρ d i = some b → ρ d' i' = some b → (d = d' ∧ i = i') ∨ deadAt h d i ∨ deadAt h d' i' ∨ (seesAt h d i ∧ seesAt h d' i')
  low : ∀ d i b blk, ρ d i = some b → getB h d i = some blk → blk.kd.sees = true ∨ w0.heap.size ≤ b ∨ fb b
  lt : ∀ d i b, ρ d i = some b → b < w.heap.size
  anc : ∀ j p, fb.anc j = some p → ρ 0 j = some p.1 ∧ ρ.cap 0 j = p.2
  keep : Keep w0 fb.fb w


end Eng

/- A program's operations carried out on values written out: all that leave memory alone, and calls by what is known of the callee. -/
namespace Eng
open Go Go.RowKit

def AllP : List Prop → Prop
  | [] => True
  | p :: ps => p ∧ AllP ps

theorem AllP_append : ∀ {ps qs : List Prop}, AllP (ps ++ qs) → AllP ps ∧ AllP qs
  | [], _, h => ⟨trivial, h⟩
  | _ :: _, _, ⟨h1, h2⟩ => ⟨⟨h1, (AllP_append h2).1⟩, (AllP_append h2).2⟩

/-- what is known of a function: of arguments the result, and what must hold for that -/
abbrev FnSpec := List PV → Option (SV × List Prop)
/-- a result: a value, or a slice of elements of a type -/
inductive SRes where
  | val (s : SV)
  | row (e : TypeId) (cs : List Cell)
/-- an argument: a plain value, a slice that is read, a slice that is handed over -/
inductive SMode where
  | plain | read
  | own (e : TypeId)
/-- what is known of a function of one argument, it or the result a slice -/
structure SlSpec where
  mode : SMode
  res : PV → Option (SRes × List Prop)
/-- what a function leaves whose arguments tell of blocks: its results; those of the blocks that are written through, and new ones; what must hold -/
structure GOut where
  rs : List PV
  gs : List Blk
  pre : List Prop
/-- what is known of such a function (may it write through addresses?): of its arguments and of the blocks that they tell of, at place 0 -/
structure GSpec where
  wr : Bool
  fn : List PV → List Blk → Option GOut
structure Table where
  fn : FuncId → Option FnSpec
  sl : FuncId → Option SlSpec
  g : FuncId → Option GSpec
instance : CoeFun Table (fun _ => FuncId → Option FnSpec) := ⟨Table.fn⟩

/-- carried out, it hands back v, and below its own blocks nothing has turned -/
def CallYields (P : Program) (f : FuncId) (args : Array Value) (w : World) (v : Value) : Prop :=
  (callFunc f args).run P w = .ok (.value v) w ∨
    ((callFunc f args).run P w = .ok (.enter f args) w ∧ Calls P f args w fun e w' => e = .returned v ∧ Below w.heap.size w w')

def SpecOK (P : Program) (f : FuncId) (g : FnSpec) : Prop :=
  ∀ ps sv pre, g ps = some (sv, pre) → AllP pre → ∀ ρ vals, denPs ρ ps = some vals → ∀ w, ∃ v, relS ρ sv v ∧ CallYields P f vals.toArray w v

/-- a slice and its elements -/
def rowAt (w : World) (v : Value) (l : List Value) : Prop :=
  ∃ b cap arr ty, v = .slice (some ⟨b, 0, none⟩) l.length cap ∧ w.heap[b]? = some (.cells arr ty (0, 0)) ∧ arr.toList.take l.length = l ∧ l.length ≤ cap
/-- a slice of one's own, with its row -/
def ownAt (w : World) (v : Value) (e : TypeId) (b : Nat) (l : List Value) : Prop :=
  ∃ cap arr, v = .slice (some ⟨b, 0, none⟩) l.length cap ∧ w.heap[b]? = some (.cells arr e (0, 0)) ∧ arr.toList.take l.length = l ∧ l.length ≤ cap ∧ cap ≤ maxLen ∧ arr.size = cap
def ArgRel (m : SMode) (ρ : Env) (w : World) (p : PV) (v : Value) : Prop := match m with
  | .plain => denP ρ p = some v
  | .read => ∃ cs l, p = .agg cs ∧ denCs ρ cs = some l ∧ rowAt w v l
  | .own e => ∃ cs l b, p = .agg cs ∧ denCs ρ cs = some l ∧ ownAt w v e b l
def lostBlock (m : SMode) (v : Value) : Option Nat := match m with
  | .own _ => v.ownBlock
  | _ => none
def ResRel (ρ : Env) (out : SRes) (lost : Option Nat) (w w' : World) (u : Value) : Prop := match out with
  | .val s => relS ρ s u
  | .row e cs => ∃ l b, denCs ρ cs = some l ∧ ownAt w' u e b l ∧ (w.heap.size ≤ b ∨ lost = some b)
def SlOK (P : Program) (f : FuncId) (sp : SlSpec) : Prop :=
  ∀ p out pre, sp.res p = some (out, pre) → AllP pre → ∀ ρ v w, ArgRel sp.mode ρ w p v →
    (callFunc f #[v]).run P w = .ok (.enter f #[v]) w ∧ Calls P f #[v] w fun e w' => ∃ u, e = .returned u ∧ w.grownBy w' (lostBlock sp.mode v) ∧ ResRel ρ out (lostBlock sp.mode v) w w' u
def tupOf : List PV → SV
  | [p] => .pv p
  | ps => .tup ps
/-- the blocks that may be written through -/
def wjs : List Blk → Nat → List Nat
  | [], _ => []
  | b :: l, j => cond b.kd.wr (j :: wjs l (j + 1)) (wjs l (j + 1))
def GOK (P : Program) (f : FuncId) (sp : GSpec) : Prop :=
  ∀ ps gs out, sp.fn ps gs = some out → AllP out.pre → ∀ (ρ : Env) vals w (fb : Nat → Prop), denPs ρ ps = some vals → HRel w ⟨fb, fun _ => none⟩ ρ [gs] w →
    (callFunc f vals.toArray).run P w = .ok (.enter f vals.toArray) w ∧ Calls P f vals.toArray w fun e w' => ∃ u ρ', e = .returned u ∧ relS ρ' (tupOf out.rs) u ∧ HRel w ⟨fb, fun _ => none⟩ ρ' [out.gs] w' ∧
      (∀ k j, getL (wjs gs 0) k = some j → ρ' 0 k = ρ 0 j ∧ ρ'.cap 0 k = ρ.cap 0 j) ∧ ∀ k b, (wjs gs 0).length ≤ k → ρ' 0 k = some b → w.heap.size ≤ b ∨ fb b
structure TableOK (P : Program) (T : Table) : Prop where
  fn : ∀ f g, T.fn f = some g → SpecOK P f g
  sl : ∀ f g, T.sl f = some g → SlOK P f g
  g : ∀ f g, T.g f = some g → GOK P f g

def okC : Cell → Bool
  | .val v => isOne v
  | _ => true

def okCs : List Cell → Bool
  | [] => true
  | c :: cs => okC c && okCs cs

def PV.cells : PV → List Cell
  | .one c => [c]
  | .agg cs => cs

def PV.ok : PV → Bool
  | .one c => okC c
  | .agg _ => true

theorem okC_spec {ρ : Env} {c : Cell} {l : List Value} (h : okC c = true) (e : denC ρ c = some l) : ∀ v ∈ l, isOne v = true := by
  have dl : ∀ k w x n, ∀ v ∈ digL k w x n, isOne v = true := by
    intro k w x n v hv
    simp only [digL, List.mem_map] at hv
    obtain ⟨i, _, rfl⟩ := hv
    rfl
  cases c with
  | val u => simp only [denC] at e; cases e; intro v hv; simp at hv; subst hv; exact h
  | ptr d i off =>
    simp only [denC] at e
    cases hb : ρ d i with
    | none => simp [hb] at e
    | some b => simp only [hb] at e; cases e; intro v hv; simp at hv; subst hv; rfl
  | dg1 k w x i => simp only [denC] at e; cases e; intro v hv; simp at hv; subst hv; rfl
  | fe x => simp only [denC] at e; cases e; exact dl _ _ _ _
  | nm x => simp only [denC] at e; cases e; exact dl _ _ _ _
  | dig k w x n => simp only [denC] at e; cases e; exact dl _ _ _ _
  | arr k l => simp only [denC] at e; cases e; intro v hv; simp only [List.mem_map] at hv; obtain ⟨i, _, rfl⟩ := hv; rfl
  | sli d i off n c sym =>
    simp only [denC] at e
    cases hb : ρ d i with
    | none => simp [hb] at e
    | some b =>
      simp only [hb] at e
      cases hc : Nat.ble n (c.getD (ρ.cap d i - off)) with
      | true => rw [hc] at e; cases e; intro v hv; simp at hv; subst hv; rfl
      | false => rw [hc] at e; cases e
  | gs d i n c sym =>
    obtain ⟨u, rfl, _, a, cp, rfl, _, _⟩ := denC_gs e
    intro v hv; simp at hv; subst hv; rfl
  | gp d i k =>
    obtain ⟨b, o, rfl, _⟩ := denC_gp e
    intro v hv; simp at hv; subst hv; rfl

theorem cells_one {v : Value} (h : isOne v = true) : v.cells = #[v] := by
  cases v <;> first | rfl | (cases h)

theorem PV.cells_spec {ρ : Env} {p : PV} {v : Value} (h : p.ok = true) (e : denP ρ p = some v) : denCs ρ p.cells = some v.cells.toList := by
  cases p with
  | one c =>
    have e' := denP_one e
    rw [cells_one (okC_spec h e' v (by simp))]
    exact denCs_one e'
  | agg cs =>
    simp only [denP] at e
    cases h1 : denCs ρ cs with
    | none => simp [h1] at e
    | some l => simp only [h1] at e; cases e; exact h1

def fillS (place : Nat → Option (Nat × Nat)) (cells : List Cell) : List (Nat × PV) → Option (List Cell)
  | [] => some cells
  | (i, p) :: rest =>
    match place i with
    | none => none
    | some (off, size) =>
      cond (p.ok && Nat.beq (widS p.cells) size) (match putAt cells off p.cells with
        | some cells' => fillS place cells' rest
        | none => none) none

def buildS (P : Program) (t : TypeId) (parts : List (Nat × PV)) : Option (List Cell) :=
  match P.info? t, P.underlying t with
  | some it, some (.array _ e) =>
    match it.zero, P.info? e with
    | some z, some ie => fillS (fun i => some (i * ie.size, ie.size)) (z.cells.toList.map .val) parts
    | _, _ => none
  | some it, some (.struct fields) =>
    match it.zero, fields.toList.mapM (fun f => (P.info? f.type).map fun i => (f.offset, i.size)) with
    | some z, some places => fillS (fun i => getL places i) (z.cells.toList.map .val) parts
    | _, _ => none
  | _, _ => none

theorem fold_spl (off : Nat) : ∀ (vs : List Value) (l : List Value) (k : Nat),
    (vs.zipIdx k).foldl (fun cs (p : Value × Nat) => cs.setIfInBounds (off + p.2) p.1) l.toArray = (spl l (off + k) vs).toArray
  | [], l, k => rfl
  | v :: vs, l, k => by
    simp only [List.zipIdx_cons, List.foldl_cons, List.setIfInBounds_toArray]
    rw [fold_spl off vs (l.set (off + k) v) (k + 1)]
    rfl

/-- parts and what they stand for -/
def denParts (ρ : Env) : List (Nat × PV) → Option (List (Nat × Value))
  | [] => some []
  | (i, p) :: rest => match denP ρ p, denParts ρ rest with
    | some v, some vs => some ((i, v) :: vs)
    | _, _ => none

theorem fillS_spec {ρ : Env} (place : Nat → Option (Nat × Nat)) : ∀ (parts : List (Nat × PV)) (cells out : List Cell) (l : List Value) (vparts : List (Nat × Value)),
    fillS place cells parts = some out → denCs ρ cells = some l → denParts ρ parts = some vparts → ∃ m, Instr.fill place l.toArray vparts = some m.toArray ∧ denCs ρ out = some m := by
  intro parts
  induction parts with
  | nil =>
    intro cells out l vparts h e e'
    simp only [fillS] at h; cases h
    simp only [denParts] at e'; cases e'
    exact ⟨l, rfl, e⟩
  | cons x rest ih =>
    obtain ⟨i, p⟩ := x
    intro cells out l vparts h e e'
    simp only [denParts] at e'
    cases h1 : denP ρ p with
    | none => simp [h1] at e'
    | some v =>
      cases h2 : denParts ρ rest with
      | none => simp [h1, h2] at e'
      | some vs =>
        simp only [h1, h2] at e'
        cases e'
        simp only [fillS] at h
        cases hp : place i with
        | none => simp [hp] at h
        | some os =>
          obtain ⟨off, size⟩ := os
          simp only [hp] at h
          by_cases hok : (p.ok && Nat.beq (widS p.cells) size) = true
          · rw [hok] at h
            simp only [cond_true] at h
            obtain ⟨ok1, ok2⟩ := Bool.and_eq_true_iff.1 hok
            have hlen : widS p.cells = size := Nat.eq_of_beq_eq_true ok2
            cases hput : putAt cells off p.cells with
            | none => simp [hput] at h
            | some cells' =>
              simp only [hput] at h
              have hc := PV.cells_spec ok1 h1
              obtain ⟨g1, g2⟩ := putAt_spec cells off p.cells hput e hc
              obtain ⟨m, m1, m2⟩ := ih cells' out _ vs h g1 h2
              refine ⟨m, ?_, m2⟩
              have hsz : v.cells.size = size := by have := denCs_length hc; simp at this; omega
              simp only [Instr.fill, hp]
              rw [if_neg (by simp [hsz]; simp at g2; omega)]
              have hf := fold_spl off v.cells.toList l 0
              rw [Nat.add_zero] at hf
              rw [← m1, ← hf, ← Array.foldl_toList, Array.toList_zipIdx]
          · have hok' : (p.ok && Nat.beq (widS p.cells) size) = false := Bool.eq_false_iff.2 hok
            rw [hok'] at h
            cases h

theorem buildS_spec {P : Program} {ρ : Env} {t : TypeId} {parts : List (Nat × PV)} {out : List Cell} {vparts : List (Nat × Value)} (h : buildS P t parts = some out) (e : denParts ρ parts = some vparts) (w : World) :
    ∃ m, denCs ρ out = some m ∧ (Instr.build t vparts.toArray).run P w = .ok (.agg m.toArray) w := by
  have key : ∃ m, denCs ρ out = some m ∧ P.built t vparts = some m.toArray := by
    unfold buildS at h
    unfold Program.built
    cases hit : P.info? t with
    | none => simp [hit] at h
    | some it =>
      cases hu : P.underlying t with
      | none => simp [hit, hu] at h
      | some d =>
        cases d <;> try (simp [hit, hu] at h; done)
        case array n el =>
          cases hz : it.zero with
          | none => simp [hit, hu, hz] at h
          | some z =>
            cases hie : P.info? el with
            | none => simp [hit, hu, hz, hie] at h
            | some ie =>
              simp only [hit, hu, hz, hie] at h ⊢
              obtain ⟨m, m1, m2⟩ := fillS_spec (ρ := ρ) _ parts _ out z.cells.toList vparts h (denCs_vals ρ _) e
              exact ⟨m, m2, m1⟩
        case struct fields =>
          cases hz : it.zero with
          | none => simp [hit, hu, hz] at h
          | some z =>
            cases hp : fields.toList.mapM (fun f => (P.info? f.type).map fun i => (f.offset, i.size)) with
            | none => simp [hit, hu, hz, hp] at h
            | some places =>
              simp only [hit, hu, hz, hp] at h ⊢
              obtain ⟨m, m1, m2⟩ := fillS_spec (ρ := ρ) _ parts _ out z.cells.toList vparts h (denCs_vals ρ _) e
              refine ⟨m, m2, ?_⟩
              rw [← m1]
              congr 1
              funext i
              rw [getL_eq]
              simp
  obtain ⟨m, m1, m2⟩ := key
  exact ⟨m, m1, run_build w t _ _ (by simpa using m2)⟩

def idxOk (i : Int) (n : Nat) : Bool := decide (0 ≤ i) && decide (i < n)

def binEq (P : Program) (t : TypeId) (p q : PV) : Option Bool :=
  match p.val?, q.val? with
  | some (.bool a), some (.bool b) => eqAt P 1 t (.bool a) (.bool b)
  | some (.string a), some (.string b) => some (a.toList == b.toList)
  | some (.agg xs), some (.agg ys) => cond (P.eqGuardType P.depth t) none (eqAt P 40 t (.agg xs) (.agg ys))
  | _, _ => none

def binAny (P : Program) (op : BinOp) (t : TypeId) (x y : SV) : Option SV :=
  match binV op x y with
  | some s => some s
  | none =>
    match op, x, y with
    | .eql, .pv p, .pv q => match binEq P t p q with
      | some b => some (one (.bool b))
      | none => none
    | .neq, .pv p, .pv q => match binEq P t p q with
      | some b => some (one (.bool (!b)))
      | none => none
    | _, _, _ => none

theorem binEq_spec {P : Program} {ρ : Env} {t : TypeId} {p q : PV} {b : Bool} {vx vy : Value} (h : binEq P t p q = some b) (hx : relS ρ (.pv p) vx) (hy : relS ρ (.pv q) vy) (w : World) (ox oy : Operand) :
    (eqGuard .eql t ox oy vx vy).run P w = .ok () w ∧ (eqGuard .neq t ox oy vx vy).run P w = .ok () w ∧ (binOp .eql t vx vy).run P w = .ok (.bool b) w ∧ (binOp .neq t vx vy).run P w = .ok (.bool (!b)) w := by
  unfold binEq at h
  split at h
  · rename_i a c e1 e2
    have := PV.val?_spec e1 hx
    have := PV.val?_spec e2 hy
    subst_vars
    have hr := eqAt_spec (P := P) 9999 1 t _ _ _ h w
    refine ⟨by simp [eqGuard], by simp [eqGuard], ?_, ?_⟩
    · simp only [binOp, Op.equal, Op.maxDepth, Sem.run_bind, hr, Result.andThen_ok, Sem.run_pure]
    · simp only [binOp, Op.equal, Op.maxDepth, Sem.run_bind, hr, Result.andThen_ok, Sem.run_pure]
  · rename_i a c e1 e2
    have := PV.val?_spec e1 hx
    have := PV.val?_spec e2 hy
    subst_vars
    cases h
    refine ⟨by simp [eqGuard], by simp [eqGuard], ?_, ?_⟩
    · simp [binOp, Op.stringOp]
    · simp [binOp, Op.stringOp]
  · rename_i xs ys e1 e2
    have := PV.val?_spec e1 hx
    have := PV.val?_spec e2 hy
    subst_vars
    by_cases hg : P.eqGuardType P.depth t = true
    · simp [hg] at h
    · have hg' : P.eqGuardType P.depth t = false := by simpa using hg
      simp only [hg', cond_false] at h
      have hr := eqAt_spec (P := P) 9960 40 t _ _ _ h w
      refine ⟨run_eqGuard_agg w _ t ox oy xs ys hg', run_eqGuard_agg w _ t ox oy xs ys hg', ?_, ?_⟩
      · simp only [binOp, Op.equal, Op.maxDepth, Sem.run_bind, hr, Result.andThen_ok, Sem.run_pure]
      · simp only [binOp, Op.equal, Op.maxDepth, Sem.run_bind, hr, Result.andThen_ok, Sem.run_pure]
  · cases h

end Eng

/- A program's operations carried out on values written out: one operation that leaves memory alone. -/
namespace Eng
open Go Go.RowKit

def unV (op : UnOp) (s : SV) : Option SV :=
  match s.int? with
  | some (k, n) => match op with
    | .neg => some (one (.int k (k.wrap (0 - n))))
    | .xor => some (one (.int k (k.wrap ((BitVec.ofInt k.bits (if k.signed then -1 else k.max) ^^^ BitVec.ofInt k.bits n).toNat))))
    | _ => none
  | none => match s.bool?, op with
    | some b, .not => some (one (.bool (!b)))
    | _, _ => none

def convV (P : Program) (src dst : TypeId) (s : SV) : Option SV :=
  match P.underlying src, P.underlying dst, s.int? with
  | some _, some (.int k), some (_, n) => some (one (.int k (k.wrap n)))
  | _, _, _ => none

def fieldAddrV (P : Program) (t : TypeId) (s : SV) (f : Nat) : Option SV :=
  match P.underlying t, s with
  | some (.struct fields), .pv (.one (.ptr d i off)) =>
    match getL fields.toList f with
    | some fl => match P.info? fl.type with
      | some inf => cond (Nat.beq inf.size 0) none (some (.pv (.one (.ptr d i (off + fl.offset)))))
      | none => none
    | none => none
  | _, _ => none

/-- what must hold: found out at once, or left to be shown -/
def guardP (sym b : Bool) : Option (List Prop) := cond sym (some [b = true]) (cond b (some []) none)
theorem guardP_spec {sym b : Bool} {pre : List Prop} (h : guardP sym b = some pre) (hp : AllP pre) : b = true := by
  unfold guardP at h
  cases sym with
  | true => cases h; exact hp.1
  | false =>
    cases b with
    | true => rfl
    | false => cases h

/-- one cell, at a place -/
def cellAt (cs : List Cell) (i : Nat) : Option Cell :=
  match cut cs i with
  | some (_, c :: _) => match expand c with
    | e :: _ => some e
    | [] => none
  | _ => none

def partS (P : Program) (t : TypeId) (cs : List Cell) (off : Nat) : Option SV :=
  match isAggT P t, P.info? t with
  | some true, some inf => match takeAt cs off inf.size with
    | some ds => some (.pv (.agg ds))
    | none => none
  | some false, some _ => match cellAt cs off with
    | some c => some (.pv (.one c))
    | none => none
  | _, _ => none

def fieldV (P : Program) (t : TypeId) (s : SV) (f : Nat) : Option SV :=
  match P.underlying t, s with
  | some (.struct fields), .pv (.agg cs) =>
    match getL fields.toList f with
    | some fl => partS P fl.type cs fl.offset
    | none => none
  | _, _ => none

def indexAddrV (P : Program) (t : TypeId) (s ix : SV) : Option (SV × List Prop) :=
  match P.underlying t, s, ix.int? with
  | some (.array n e), .pv (.one (.ptr d i off)), some (_, j) =>
    match P.info? e with
    | some inf => cond (idxOk j n) (some (.pv (.one (.ptr d i (off + j.toNat * inf.size))), [])) none
    | none => none
  | some (.slice e), .pv (.one (.sli d i off n _ sym)), some (_, j) =>
    match P.info? e, guardP sym (idxOk j n) with
    | some inf, some pre => some (.pv (.one (.ptr d i (off + j.toNat * inf.size))), pre)
    | _, _ => none
  | some (.slice e), .pv (.one (.gs d i n _ sym)), some (_, j) =>
    match P.info? e, guardP sym (idxOk j n) with
    | some inf, some pre => some (.pv (.one (.gp d i (j.toNat * inf.size))), pre)
    | _, _ => none
  | _, _, _ => none

def sliceV (P : Program) (t : TypeId) (s : SV) (lo hi : Option SV) : Option (SV × List Prop) :=
  match P.underlying t, s, lo, hi with
  | some (.array n e), .pv (.one (.ptr d i off)), none, none => match P.info? e with
    | some inf => cond (Nat.beq inf.size 1 && Nat.blt 0 n) (some (.pv (.one (.sli d i off n (some n) false)), [])) none
    | none => none
  | some (.slice e), .pv (.one (.sli d i off n c sym)), none, some h => match h.int?, P.info? e with
    | some (_, j), some _ => match guardP sym (decide (0 ≤ j) && Nat.ble j.toNat n) with
      | some pre => some (.pv (.one (.sli d i off j.toNat c false)), pre)
      | none => none
    | _, _ => none
  | _, _, _, _ => none

def indexV (P : Program) (t : TypeId) (s ix : SV) : Option SV :=
  match P.underlying t, s, ix.int? with
  | some (.array n e), .pv (.agg cs), some (_, j) =>
    match P.info? e with
    | some inf => cond (idxOk j n) (partS P e cs (j.toNat * inf.size)) none
    | none => none
  | some .string, .pv (.one (.val (.string b))), some (_, j) => cond (decide (0 ≤ j)) (match getL b.data.toList j.toNat with
    | some x => some (one (.int .u8 x.toNat))
    | none => none) none
  | _, _, _ => none

def extractV (s : SV) (i : Nat) : Option SV :=
  match s with
  | .tup ps => match getL ps i with
    | some p => some (.pv p)
    | none => none
  | _ => none

def partsOf (ev : Ev) : List (Nat × Operand) → Option (List (Nat × PV))
  | [] => some []
  | (i, x) :: rest => match ev x, partsOf ev rest with
    | some (.pv p), some l => some ((i, p) :: l)
    | _, _ => none

def argsOf (ev : Ev) : List Operand → Option (List PV)
  | [] => some []
  | x :: rest => match ev x, argsOf ev rest with
    | some (.pv p), some l => some (p :: l)
    | _, _ => none

def lenV (P : Program) (ts : List TypeId) (vs : List (Option SV)) : Option SV :=
  match ts, vs with
  | [t], [v] => match P.underlying t, v with
    | some (.array n _), _ => some (one (.int .i64 n))
    | some (.slice _), some (.pv (.one (.sli _ _ _ n _ _))) => some (one (.int .i64 n))
    | some (.slice _), some (.pv (.one (.gs _ _ n _ _))) => some (one (.int .i64 n))
    | some (.slice _), some (.pv (.one (.val (.slice none 0 0)))) => some (one (.int .i64 0))
    | some .string, some (.pv (.one (.val (.string b)))) => some (one (.int .i64 b.data.toList.length))
    | _, _ => none
  | _, _ => none

/-- an operation that leaves memory alone: its value, and what must hold for that -/
def pureOp (P : Program) (T : Table) (ev : Ev) : Op → Option (SV × List Prop)
  | .move x => (ev x).map (·, [])
  | .assign x => (ev x).map (·, [])
  | .pick c a b => match ev c with
    | some s => match s.bool? with
      | some g => (cond g (ev a) (ev b)).map (·, [])
      | none => none
    | none => none
  | .binOp op t x y _ => match ev x, ev y with
    | some sx, some sy => (binAny P op t sx sy).map (·, [])
    | _, _ => none
  | .unOp op _ x => match ev x with
    | some s => (unV op s).map (·, [])
    | none => none
  | .convert src dst x => match ev x with
    | some s => (convV P src dst s).map (·, [])
    | none => none
  | .nilCheck x => match ev x with
    | some (.pv (.one (.ptr d i off))) => some (.pv (.one (.ptr d i off)), [])
    | _ => none
  | .fieldAddr t x f => match ev x with
    | some s => (fieldAddrV P t s f).map (·, [])
    | none => none
  | .field t x f => match ev x with
    | some s => (fieldV P t s f).map (·, [])
    | none => none
  | .indexAddr t x ix => match ev x, ev ix with
    | some s, some si => indexAddrV P t s si
    | _, _ => none
  | .slice t x lo hi mx => match mx with
    | some _ => none
    | none => match ev x with
      | some s => match lo, hi with
        | none, none => sliceV P t s none none
        | none, some h => match ev h with
          | some sh => sliceV P t s none (some sh)
          | none => none
        | _, _ => none
      | none => none
  | .index t x ix => match ev x, ev ix with
    | some s, some si => (indexV P t s si).map (·, [])
    | _, _ => none
  | .extract x i => match ev x with
    | some s => (extractV s i).map (·, [])
    | none => none
  | .build t parts => match partsOf ev parts.toList with
    | some ps => match buildS P t ps with
      | some cs => some (.pv (.agg cs), [])
      | none => none
    | none => none
  | .call c => match c.callee with
    | .value (.func f) => match T f with
      | some g => match argsOf ev c.args.toList with
        | some ps => g ps
        | none => none
      | none => none
    | .builtin .len => (lenV P c.argTypes.toList (c.args.toList.map ev)).map (·, [])
    | _ => none
  | _ => none

/-- carried out, the operation leaves v, and below its own blocks nothing has turned -/
def Yields (P : Program) (o : Oper) (a : Act) (w : World) (v : Value) : Prop :=
  (execOp a.eval o).run P w = .ok (.value v) w ∨
    ∃ f args, (execOp a.eval o).run P w = .ok (.enter f args) w ∧ Calls P f args w fun e w' => e = .returned v ∧ Below w.heap.size w w'

theorem argsOf_spec {ρ : Env} {ev : Ev} {a : Act} (hev : evR ρ ev a) : ∀ {xs : List Operand} {ps : List PV}, argsOf ev xs = some ps → denPs ρ ps = some (xs.map a.eval)
  | [], ps, h => by simp only [argsOf] at h; cases h; rfl
  | x :: xs, ps, h => by
    simp only [argsOf] at h
    cases h1 : ev x with
    | none => simp [h1] at h
    | some s =>
      cases s with
      | any => simp [h1] at h
      | tup _ => simp [h1] at h
      | pv p =>
        cases h2 : argsOf ev xs with
        | none => simp [h1, h2] at h
        | some l =>
          simp only [h1, h2] at h
          cases h
          have e1 : denP ρ p = some (a.eval x) := hev x _ h1
          simp [denPs, e1, argsOf_spec hev h2]

theorem partsOf_spec {ρ : Env} {ev : Ev} {a : Act} (hev : evR ρ ev a) : ∀ {xs : List (Nat × Operand)} {ps : List (Nat × PV)}, partsOf ev xs = some ps → denParts ρ ps = some (xs.map fun p => (p.1, a.eval p.2))
  | [], ps, h => by simp only [partsOf] at h; cases h; rfl
  | (i, x) :: xs, ps, h => by
    simp only [partsOf] at h
    cases h1 : ev x with
    | none => simp [h1] at h
    | some s =>
      cases s with
      | any => simp [h1] at h
      | tup _ => simp [h1] at h
      | pv p =>
        cases h2 : partsOf ev xs with
        | none => simp [h1, h2] at h
        | some l =>
          simp only [h1, h2] at h
          cases h
          have e1 : denP ρ p = some (a.eval x) := hev x _ h1
          simp [denParts, e1, partsOf_spec hev h2]

theorem getL_denPs {ρ : Env} : ∀ {ps : List PV} {l : List Value} {i : Nat} {p : PV}, denPs ρ ps = some l → getL ps i = some p → ∃ v, l[i]? = some v ∧ denP ρ p = some v
  | [], l, i, p, _, h => by simp [getL] at h
  | q :: ps, l, i, p, e, h => by
    simp only [denPs] at e
    cases h1 : denP ρ q with
    | none => simp [h1] at e
    | some v =>
      cases h2 : denPs ρ ps with
      | none => simp [h1, h2] at e
      | some vs =>
        simp only [h1, h2] at e
        cases e
        cases i with
        | zero => simp only [getL] at h; cases h; exact ⟨v, by simp, h1⟩
        | succ i =>
          simp only [getL] at h
          obtain ⟨u, hu1, hu2⟩ := getL_denPs h2 h
          exact ⟨u, by simpa using hu1, hu2⟩

theorem cellAt_spec {ρ : Env} {cs : List Cell} {l : List Value} {i : Nat} {c : Cell} (e : denCs ρ cs = some l) (h : cellAt cs i = some c) : ∃ v, l[i]? = some v ∧ denP ρ (.one c) = some v := by
  unfold cellAt at h
  cases h1 : cut cs i with
  | none => simp [h1] at h
  | some ab =>
    obtain ⟨a, b⟩ := ab
    cases b with
    | nil => simp [h1] at h
    | cons d b =>
      simp only [h1] at h
      cases h2 : expand d with
      | nil => simp [h2] at h
      | cons x xs =>
        simp only [h2] at h
        cases h
        obtain ⟨p1, p2, p3⟩ := cut_spec cs i h1 e
        obtain ⟨v, vs, q1, q2, q3⟩ := denCs_cons p2
        have q4 := denCs_expand q1
        rw [h2] at q4
        obtain ⟨u, us, r1, r2, r3⟩ := denCs_cons q4
        have hl := denC_length r1
        rw [expand_flat d c (by rw [h2]; simp)] at hl
        match u, hl with
        | [z], _ =>
          refine ⟨z, ?_, denP_one' r1⟩
          have : (l.drop i)[0]? = some z := by rw [q3, r3]; simp
          simpa using this

theorem partS_spec {P : Program} {ρ : Env} {t : TypeId} {cs : List Cell} {off : Nat} {s : SV} {l : List Value} (h : partS P t cs off = some s) (e : denCs ρ cs = some l) :
    ∃ v, relS ρ s v ∧ partV P t l off = some v := by
  unfold partS at h
  unfold partV
  cases h1 : isAggT P t with
  | none => simp [h1] at h
  | some b =>
    cases h2 : P.info? t with
    | none => cases b <;> simp [h1, h2] at h
    | some inf =>
      cases b with
      | true =>
        simp only [h1, h2] at h ⊢
        cases h3 : takeAt cs off inf.size with
        | none => simp [h3] at h
        | some ds =>
          simp only [h3] at h
          cases h
          obtain ⟨m, a1, a2, a3, a4⟩ := takeAt_spec cs off inf.size h3 e
          refine ⟨_, ?_, rfl⟩
          have : l.toArray.extract off (off + inf.size) = m.toArray := by
            apply Array.ext'
            simp only [List.extract_toArray]
            apply List.ext_getElem?
            intro j
            simp only [List.extract_eq_take_drop, List.getElem?_take, List.getElem?_drop]
            by_cases hj : j < inf.size
            · rw [if_pos (by omega), a4 j hj]
            · rw [if_neg (by omega)]
              rw [List.getElem?_eq_none (by omega)]
          rw [this]
          simp [relS, denP, a1]
      | false =>
        simp only [h1, h2] at h ⊢
        cases h3 : cellAt cs off with
        | none => simp [h3] at h
        | some c =>
          simp only [h3] at h
          cases h
          obtain ⟨v, b1, b2⟩ := cellAt_spec e h3
          exact ⟨v, b2, b1⟩

theorem relS_agg {ρ : Env} {cs : List Cell} {v : Value} (h : relS ρ (.pv (.agg cs)) v) : ∃ l, denCs ρ cs = some l ∧ v = .agg l.toArray := by
  simp only [relS, denP] at h
  cases h1 : denCs ρ cs with
  | none => simp [h1] at h
  | some l => simp only [h1] at h; exact ⟨l, rfl, (Option.some.inj h).symm⟩

theorem relS_ptr {ρ : Env} {d i off : Nat} {v : Value} (h : relS ρ (.pv (.one (.ptr d i off))) v) : ∃ b, ρ d i = some b ∧ v = .pointer (some ⟨b, off, none⟩) := by
  have h := denP_one (ρ := ρ) h
  simp only [denC] at h
  cases h1 : ρ d i with
  | none => simp [h1] at h
  | some b => simp only [h1] at h; cases h; exact ⟨b, rfl, rfl⟩

theorem relS_sli {ρ : Env} {d i off n : Nat} {c : Option Nat} {sym : Bool} {v : Value} (h : relS ρ (.pv (.one (.sli d i off n c sym))) v) :
    ∃ b, ρ d i = some b ∧ v = .slice (some ⟨b, off, none⟩) n (c.getD (ρ.cap d i - off)) ∧ n ≤ c.getD (ρ.cap d i - off) := by
  have h := denP_one (ρ := ρ) h
  simp only [denC] at h
  cases h1 : ρ d i with
  | none => simp [h1] at h
  | some b =>
    simp only [h1] at h
    cases hc : Nat.ble n (c.getD (ρ.cap d i - off)) with
    | true => rw [hc] at h; cases h; exact ⟨b, rfl, rfl, Nat.le_of_ble_eq_true hc⟩
    | false => rw [hc] at h; cases h
theorem relS_sli' {ρ : Env} {d i off n b : Nat} {c : Option Nat} {sym : Bool} (h : ρ d i = some b) (hn : n ≤ c.getD (ρ.cap d i - off)) :
    relS ρ (.pv (.one (.sli d i off n c sym))) (.slice (some ⟨b, off, none⟩) n (c.getD (ρ.cap d i - off))) := by
  simp [relS, denP, denC, h, Nat.ble_eq_true_of_le hn]

theorem idxOk_spec {i : Int} {n : Nat} (h : idxOk i n = true) : 0 ≤ i ∧ i < n := by
  simpa [idxOk] using h

theorem map_nil {s : Option SV} {sv : SV} {pre : List Prop} (h : s.map (·, ([] : List Prop)) = some (sv, pre)) : s = some sv := by
  cases s with
  | none => cases h
  | some x => cases h; rfl

theorem pureOp_spec {P : Program} {T : Table} (hT : TableOK P T) {ρ : Env} {ev : Ev} {a : Act} (hev : evR ρ ev a) {o : Oper} {sv : SV} {pre : List Prop}
    (h : pureOp P T ev o.op = some (sv, pre)) (hp : AllP pre) (w : World) : ∃ v, relS ρ sv v ∧ Yields P o a w v := by
  obtain ⟨dst, op, type, pos, after, guard⟩ := o
  simp only at h
  unfold Yields execOp
  cases op <;> simp only [pureOp] at h <;> try (cases h; done)
  case move x =>
    exact ⟨_, hev x _ (map_nil h), .inl rfl⟩
  case assign x =>
    exact ⟨_, hev x _ (map_nil h), .inl rfl⟩
  case pick c x y =>
    cases h1 : ev c with
    | none => simp [h1] at h
    | some s =>
      cases h2 : s.bool? with
      | none => simp [h1, h2] at h
      | some g =>
        simp only [h1, h2] at h
        have e := SV.bool?_spec h2 (hev c _ h1)
        replace h := map_nil h
        cases g with
        | true => exact ⟨_, hev x _ h, .inl (by simp [e, asBool])⟩
        | false => exact ⟨_, hev y _ h, .inl (by simp [e, asBool])⟩
  case binOp op t x y yt =>
    cases h1 : ev x with
    | none => simp [h1] at h
    | some sx =>
      cases h2 : ev y with
      | none => simp [h1, h2] at h
      | some sy =>
        simp only [h1, h2] at h
        replace h := map_nil h
        have rx := hev x _ h1
        have ry := hev y _ h2
        unfold binAny at h
        cases hb : binV op sx sy with
        | some s =>
          simp only [hb] at h
          cases h
          obtain ⟨⟨k, p, k', q, e1, e2⟩, v, rfl, hr⟩ := binV_spec (P := P) op t hb rx ry
          refine ⟨v, rfl, .inl ?_⟩
          have hg : (eqGuard op t x y (a.eval x) (a.eval y)).run P w = .ok () w := by
            rw [e1, e2]; unfold eqGuard; split <;> simp
          simp only [Sem.run_bind, hg, Result.andThen_ok, hr w, Sem.run_pure]
        | none =>
          simp only [hb] at h
          split at h
          · rename_i p q
            cases hq : binEq P t p q with
            | none => simp [hq] at h
            | some b =>
              simp only [hq] at h
              cases h
              obtain ⟨g1, _, g3, _⟩ := binEq_spec hq rx ry w x y
              exact ⟨.bool b, rfl, .inl (by simp only [Sem.run_bind, g1, Result.andThen_ok, g3, Sem.run_pure])⟩
          · rename_i p q
            cases hq : binEq P t p q with
            | none => simp [hq] at h
            | some b =>
              simp only [hq] at h
              cases h
              obtain ⟨_, g2, _, g4⟩ := binEq_spec hq rx ry w x y
              exact ⟨.bool (!b), rfl, .inl (by simp only [Sem.run_bind, g2, Result.andThen_ok, g4, Sem.run_pure])⟩
          · cases h
  case unOp op t x =>
    cases h1 : ev x with
    | none => simp [h1] at h
    | some s =>
      simp only [h1] at h
      replace h := map_nil h
      have rx := hev x _ h1
      unfold unV at h
      cases h2 : s.int? with
      | some kn =>
        obtain ⟨k, n⟩ := kn
        simp only [h2] at h
        have e := SV.int?_spec h2 rx
        cases op <;> simp only [] at h <;> first | (cases h; done) | (cases h; exact ⟨_, rfl, .inl (by simp [e, Op.unary, Op.intArith, Op.intBits])⟩)
      | none =>
        simp only [h2] at h
        cases h3 : s.bool? with
        | none => simp [h3] at h
        | some b =>
          have e := SV.bool?_spec h3 rx
          simp only [h3] at h
          cases op <;> simp only [] at h <;> first | (cases h; done) | (cases h; exact ⟨_, rfl, .inl (by simp [e, Op.unary])⟩)
  case convert src dst x =>
    cases h1 : ev x with
    | none => simp [h1] at h
    | some s =>
      simp only [h1] at h
      replace h := map_nil h
      have rx := hev x _ h1
      unfold convV at h
      split at h
      · rename_i d k k' n e1 e2 e3
        cases h
        have e := SV.int?_spec e3 rx
        refine ⟨_, rfl, .inl ?_⟩
        simp only [e, convert, Sem.run_bind, run_underlying e1, run_underlying e2, Result.andThen_ok]
        cases d <;> simp [Conv.intToInt]
      · cases h
  case nilCheck x =>
    split at h
    · rename_i d i off h1
      cases h
      have rx := hev x _ h1
      obtain ⟨b, e1, e2⟩ := relS_ptr rx
      exact ⟨_, rx, .inl (by simp only [e2]; rfl)⟩
    · cases h
  case fieldAddr t x f =>
    cases h1 : ev x with
    | none => simp [h1] at h
    | some s =>
      simp only [h1] at h
      replace h := map_nil h
      have rx := hev x _ h1
      unfold fieldAddrV at h
      split at h
      · rename_i fields d i off hu
        cases h2 : getL fields.toList f with
        | none => simp [h2] at h
        | some fl =>
          simp only [h2] at h
          cases h3 : P.info? fl.type with
          | none => simp [h3] at h
          | some inf =>
            simp only [h3] at h
            by_cases hz : Nat.beq inf.size 0 = true
            · simp [hz] at h
            · have hz' : Nat.beq inf.size 0 = false := Bool.eq_false_iff.2 hz
              rw [hz'] at h
              cases h
              have hne : inf.size ≠ 0 := fun e => hz (by rw [e]; rfl)
              obtain ⟨b, e1, e2⟩ := relS_ptr rx
              have hf : fields[f]? = some fl := by rw [getL_eq] at h2; simpa using h2
              refine ⟨.pointer (some ⟨b, off + fl.offset, none⟩), by simp [relS, denP, denC, e1], .inl ?_⟩
              simp [e2, Instr.fieldAt, run_underlying hu, hf, Instr.sureAddr, fieldPlace, Go.sizeOf, run_typeInfo w h3, hne, add_none]
      · cases h
  case field t x f =>
    cases h1 : ev x with
    | none => simp [h1] at h
    | some s =>
      simp only [h1] at h
      replace h := map_nil h
      have rx := hev x _ h1
      unfold fieldV at h
      split at h
      · rename_i fields cs hu
        cases h2 : getL fields.toList f with
        | none => simp [h2] at h
        | some fl =>
          simp only [h2] at h
          obtain ⟨l, e1, e2⟩ := relS_agg rx
          obtain ⟨v, r1, r2⟩ := partS_spec h e1
          have hf : fields[f]? = some fl := by rw [getL_eq] at h2; simpa using h2
          refine ⟨v, r1, .inl ?_⟩
          simp [e2, Instr.field, run_underlying hu, hf, asAgg, run_part r2]
      · cases h
  case indexAddr t x ix =>
    cases h1 : ev x with
    | none => simp [h1] at h
    | some s =>
      cases h2 : ev ix with
      | none => simp [h1, h2] at h
      | some si =>
        simp only [h1, h2] at h
        have rx := hev x _ h1
        have ri := hev ix _ h2
        unfold indexAddrV at h
        split at h
        · rename_i n e d i off k j hu h3
          cases h4 : P.info? e with
          | none => simp [h4] at h
          | some inf =>
            simp only [h4] at h
            by_cases hk : idxOk j n = true
            · rw [hk] at h
              cases h
              obtain ⟨b, e1, e2⟩ := relS_ptr rx
              have e3 := SV.int?_spec h3 ri
              obtain ⟨k1, k2⟩ := idxOk_spec hk
              refine ⟨.pointer (some ⟨b, off + j.toNat * inf.size, none⟩), by simp [relS, denP, denC, e1], .inl ?_⟩
              simp [e2, e3, Instr.indexAt, run_underlying hu, asIntOf, Instr.sureAddr, k1, k2, Go.sizeOf, run_typeInfo w h4, add_none]
            · have hk' : idxOk j n = false := Bool.eq_false_iff.2 hk
              rw [hk'] at h
              cases h
        · rename_i e d i off n c sym k j hu h3
          cases h4 : P.info? e with
          | none => simp [h4] at h
          | some inf =>
            cases h5 : guardP sym (idxOk j n) with
            | none => simp [h4, h5] at h
            | some pre' =>
              simp only [h4, h5] at h
              cases h
              have hk := guardP_spec h5 hp
              obtain ⟨b, e1, e2, _⟩ := relS_sli rx
              have e3 := SV.int?_spec h3 ri
              obtain ⟨k1, k2⟩ := idxOk_spec hk
              refine ⟨.pointer (some ⟨b, off + j.toNat * inf.size, none⟩), by simp [relS, denP, denC, e1], .inl ?_⟩
              simp [e2, e3, Instr.indexAt, run_underlying hu, asIntOf, k1, k2, Go.sizeOf, run_typeInfo w h4, add_none]
        · rename_i e d i n cp sym k j hu h3
          cases h4 : P.info? e with
          | none => simp [h4] at h
          | some inf =>
            cases h5 : guardP sym (idxOk j n) with
            | none => simp [h4, h5] at h
            | some pre' =>
              simp only [h4, h5] at h
              cases h
              have hk := guardP_spec h5 hp
              obtain ⟨u, q1, q0, a', c', q2, _, q3⟩ := denC_gs (denP_one rx)
              simp only [List.cons.injEq, and_true] at q1
              have e3 := SV.int?_spec h3 ri
              obtain ⟨k1, k2⟩ := idxOk_spec hk
              obtain ⟨b, o, rfl⟩ := okA_pos q3 (by omega)
              rw [q2] at q1 q0
              refine ⟨.pointer (some ⟨b, o + j.toNat * inf.size, none⟩), by simp [relS, denP, denC, q0, (show Nat.blt 0 n = true by simp [Nat.blt_eq]; omega)], .inl ?_⟩
              simp [q1, e3, Instr.indexAt, run_underlying hu, asIntOf, k1, k2, Go.sizeOf, run_typeInfo w h4, add_none]
        · cases h
  case slice t x lo hi mx =>
    cases mx with
    | some m => cases h
    | none =>
      simp only [] at h
      cases h1 : ev x with
      | none => simp [h1] at h
      | some s =>
        simp only [h1] at h
        have rx := hev x _ h1
        cases lo with
        | some l => cases hi <;> cases h
        | none =>
          cases hi with
          | none =>
            simp only [] at h
            unfold sliceV at h
            split at h
            · rename_i n e d i off hu _ _
              cases h4 : P.info? e with
              | none => simp [h4] at h
              | some inf =>
                simp only [h4] at h
                by_cases hk : (Nat.beq inf.size 1 && Nat.blt 0 n) = true
                · rw [hk] at h
                  cases h
                  obtain ⟨k1, k2⟩ := Bool.and_eq_true_iff.1 hk
                  have k1 := Nat.eq_of_beq_eq_true k1
                  have k2 : 0 < n := by simpa [Nat.blt_eq] using k2
                  obtain ⟨b, e1, e2⟩ := relS_ptr rx
                  refine ⟨.slice (some ⟨b, off, none⟩) n n, relS_sli' (c := some n) e1 (Nat.le_refl _), .inl ?_⟩
                  simp [e2, Instr.sliceAt, run_underlying hu, Instr.sureAddr, Instr.sliceBounds, Go.sizeOf, run_typeInfo w h4, add_none]
                · rw [Bool.eq_false_iff.2 hk] at h
                  cases h
            · rename_i hh; cases hh
            · cases h
          | some hi =>
            simp only [] at h
            cases h2 : ev hi with
            | none => simp [h2] at h
            | some sh =>
              simp only [h2] at h
              have rh := hev hi _ h2
              unfold sliceV at h
              split at h
              · rename_i hh; cases hh
              · rename_i e d i off n c sym _ hu _ hsh
                cases hsh
                cases h3 : sh.int? with
                | none => simp [h3] at h
                | some kj =>
                  obtain ⟨k, j⟩ := kj
                  cases h4 : P.info? e with
                  | none => simp [h3, h4] at h
                  | some inf =>
                    simp only [h3, h4] at h
                    cases h5 : guardP sym (decide (0 ≤ j) && Nat.ble j.toNat n) with
                    | none => simp [h5] at h
                    | some pre' =>
                      simp only [h5] at h
                      cases h
                      have hk := guardP_spec h5 hp
                      simp only [Bool.and_eq_true, decide_eq_true_eq] at hk
                      obtain ⟨k1, k2⟩ := hk
                      have k2 := Nat.le_of_ble_eq_true k2
                      obtain ⟨b, e1, e2, e4⟩ := relS_sli rx
                      have e3 := SV.int?_spec h3 rh
                      have hle : j.toNat ≤ c.getD (ρ.cap d i - off) := Nat.le_trans k2 e4
                      refine ⟨_, relS_sli' e1 hle, .inl ?_⟩
                      have k3 : j ≤ ((c.getD (ρ.cap d i - off) : Nat) : Int) := by omega
                      generalize c.getD (ρ.cap d i - off) = cp at *
                      by_cases hc0 : cp = 0
                      · subst hc0
                        have hj0 : j = 0 := by omega
                        subst hj0
                        simp [e2, e3, Instr.sliceAt, Instr.slice, run_underlying hu, Instr.sliceBounds, Instr.sliceBound, asIntOf, Go.sizeOf, run_typeInfo w h4]
                      · simp [e2, e3, Instr.sliceAt, Instr.slice, run_underlying hu, Instr.sliceBounds, Instr.sliceBound, asIntOf, k1, k3, Go.sizeOf, run_typeInfo w h4, hc0, add_none]
              · cases h
  case index t x ix =>
    cases h1 : ev x with
    | none => simp [h1] at h
    | some s =>
      cases h2 : ev ix with
      | none => simp [h1, h2] at h
      | some si =>
        simp only [h1, h2] at h
        replace h := map_nil h
        have rx := hev x _ h1
        have ri := hev ix _ h2
        unfold indexV at h
        split at h
        · rename_i n e cs k j hu h3
          cases h4 : P.info? e with
          | none => simp [h4] at h
          | some inf =>
            simp only [h4] at h
            by_cases hk : idxOk j n = true
            · rw [hk] at h
              simp only [cond_true] at h
              obtain ⟨l, e1, e2⟩ := relS_agg rx
              obtain ⟨v, r1, r2⟩ := partS_spec h e1
              have e3 := SV.int?_spec h3 ri
              obtain ⟨k1, k2⟩ := idxOk_spec hk
              refine ⟨v, r1, .inl ?_⟩
              simp [e2, e3, Instr.index, run_underlying hu, asIntOf, k1, k2, Go.sizeOf, run_typeInfo w h4, run_part r2]
            · have hk' : idxOk j n = false := Bool.eq_false_iff.2 hk
              rw [hk'] at h
              cases h
        · rename_i b k j hu h3
          by_cases hj : 0 ≤ j
          · simp only [hj, decide_true, cond_true] at h
            cases h4 : getL b.data.toList j.toNat with
            | none => simp [h4] at h
            | some x =>
              simp only [h4] at h
              cases h
              have e3 := SV.int?_spec h3 ri
              have e2 : a.eval _ = .string b := PV.val?_spec (p := .one (.val (.string b))) rfl rx
              have hb : b[j.toNat]? = some x := by
                rw [getL_eq] at h4
                have hlt : j.toNat < b.data.toList.length := (List.getElem?_eq_some_iff.1 h4).1
                have hlt' : j.toNat < b.size := by
                  have hs : b.data.toList.length = b.size := by rw [Array.length_toList]; rfl
                  omega
                rw [getElem?_pos b j.toNat hlt']
                have := (List.getElem?_eq_some_iff.1 h4).2
                rw [← this]
                rfl
              refine ⟨.int .u8 x.toNat, rfl, .inl ?_⟩
              simp only [e2, e3, Instr.index, asIntOf, Sem.run_bind, Sem.run_pure, Result.andThen_ok, run_underlying hu, hj, if_true, hb]
          · simp [hj] at h
        · cases h
  case extract x i =>
    cases h1 : ev x with
    | none => simp [h1] at h
    | some s =>
      simp only [h1] at h
      replace h := map_nil h
      have rx := hev x _ h1
      unfold extractV at h
      cases s with
      | any => cases h
      | pv p => cases h
      | tup ps =>
        simp only [] at h
        cases h2 : getL ps i with
        | none => simp [h2] at h
        | some p =>
          simp only [h2] at h
          cases h
          obtain ⟨l, e1, e2⟩ := rx
          obtain ⟨v, g1, g2⟩ := getL_denPs e1 h2
          refine ⟨v, g2, .inl ?_⟩
          simp [e2, Instr.extract, g1]
  case build t parts =>
    cases h1 : partsOf ev parts.toList with
    | none => simp [h1] at h
    | some ps =>
      simp only [h1] at h
      cases h2 : buildS P t ps with
      | none => simp [h2] at h
      | some cs =>
        simp only [h2] at h
        cases h
        obtain ⟨m, m1, m2⟩ := buildS_spec h2 (partsOf_spec hev h1) w
        refine ⟨.agg m.toArray, by simp [relS, denP, m1], .inl ?_⟩
        have : (parts.map fun (x : Nat × Operand) => (x.1, a.eval x.2)) = (List.map (fun p => (p.1, a.eval p.2)) parts.toList).toArray := by
          apply Array.ext'; simp
        simp only [Sem.run_bind]
        rw [this, m2]
        rfl
  case call c =>
    split at h
    · rename_i f hc
      cases h1 : T f with
      | none => simp [h1] at h
      | some g =>
        simp only [h1] at h
        cases h2 : argsOf ev c.args.toList with
        | none => simp [h2] at h
        | some ps =>
          simp only [h2] at h
          obtain ⟨v, r1, r2⟩ := hT.fn f g h1 ps sv pre h hp ρ _ (argsOf_spec hev h2) w
          refine ⟨v, r1, ?_⟩
          have hr : ((do let d ← resolve a.eval c type; invoke d.target d.args) : Sem Next).run P w = (callFunc f (List.map a.eval c.args.toList).toArray).run P w := by
            simp only [resolve, hc, Sem.run_bind]
            have : c.args.map a.eval = (List.map a.eval c.args.toList).toArray := by apply Array.ext'; simp
            simp only [Act.eval, Deferred.ofValue, Sem.run_pure, Result.andThen_ok, invoke, this]
            simp
          rcases r2 with r2 | ⟨r2, r3⟩
          · exact .inl (by rw [hr]; exact r2)
          · exact .inr ⟨f, _, by rw [hr]; exact r2, r3⟩
    · rename_i hc
      replace h := map_nil h
      unfold lenV at h
      split at h
      · rename_i t v e1 e2
        have ha : c.argTypes = #[t] := by apply Array.ext'; simpa using e1
        obtain ⟨x, hb⟩ : ∃ x, c.args = #[x] := by
          have : c.args.toList.length = 1 := by have := congrArg List.length e2; simpa using this
          match hc' : c.args.toList, this with
          | [x], _ => exact ⟨x, by apply Array.ext'; simpa using hc'⟩
        have hv : ev x = v := by rw [hb] at e2; simpa using e2
        split at h
        · rename_i _ n el hu
          cases h
          refine ⟨.int .i64 n, rfl, .inl ?_⟩
          simp [resolve, hc, ha, hb, invoke, builtin, Builtin.len_, run_underlying hu, goInt]
        · rename_i el d i off n cp sym hu
          cases h
          obtain ⟨b, q1, q2, _⟩ := relS_sli (hev x _ hv)
          refine ⟨.int .i64 n, rfl, .inl ?_⟩
          simp [resolve, hc, ha, hb, invoke, builtin, Builtin.len_, run_underlying hu, goInt, q2]
        · rename_i el d i n cp sym hu
          cases h
          obtain ⟨u, q1, _, a', c', q2, _, _⟩ := denC_gs (denP_one (hev x _ hv))
          simp only [List.cons.injEq, and_true] at q1
          rw [q2] at q1
          refine ⟨.int .i64 n, rfl, .inl ?_⟩
          simp [resolve, hc, ha, hb, invoke, builtin, Builtin.len_, run_underlying hu, goInt, q1]
        · rename_i el hu
          cases h
          have q2 : a.eval x = .slice none 0 0 := PV.val?_spec (p := .one (.val (.slice none 0 0))) rfl (hev x _ hv)
          refine ⟨.int .i64 0, rfl, .inl ?_⟩
          simp [resolve, hc, ha, hb, invoke, builtin, Builtin.len_, run_underlying hu, goInt, q2]
        · rename_i b hu
          cases h
          have q2 : a.eval x = .string b := PV.val?_spec (p := .one (.val (.string b))) rfl (hev x _ hv)
          refine ⟨.int .i64 b.data.toList.length, rfl, .inl ?_⟩
          have hs : b.data.toList.length = b.size := by rw [Array.length_toList]; rfl
          rw [hs]
          simp [resolve, hc, ha, hb, invoke, builtin, Builtin.len_, run_underlying hu, goInt, q2]
        · cases h
      · cases h
    · cases h

end Eng

/- A program's operations carried out on values written out: blocks of one's own read, written and made; one operation of a region. -/
namespace Eng
open Go Go.RowKit

def setB (h : Heap) (d i : Nat) (b : Blk) : Heap :=
  match getL h d with
  | some l => setL h d (setL l i b)
  | none => h

def pushB (h : Heap) (d : Nat) (b : Blk) : Option (Heap × Nat) :=
  match getL h d with
  | some l => some (setL h d (l ++ [b]), l.length)
  | none => none

def digI (w x n : Nat) : List Int := (List.range n).map (dg w x)

/-- a cell's whole numbers, of a kind -/
def Cell.ints? (k : IntKind) : Cell → Option (List Int)
  | .val (.int k' n) => cond (ikEq k' k) (some [n]) none
  | .dg1 k' w x i => cond (ikEq k' k) (some [dg w x i]) none
  | .fe x => cond (ikEq .u64 k) (some (digI 64 x.val 4)) none
  | .nm x => cond (ikEq .u64 k) (some (digI 16 x.val 16)) none
  | .dig k' w x n => cond (ikEq k' k) (some (digI w x n)) none
  | .arr k' l => cond (ikEq k' k) (some l) none
  | _ => none

theorem digL_I (k : IntKind) (w x n : Nat) : digL k w x n = (digI w x n).map (Value.int k) := by simp [digL, digI]

theorem ikEq_spec {a b : IntKind} (h : ikEq a b = true) : a = b := by simpa [ikEq] using h

theorem Cell.ints?_spec {ρ : Env} {k : IntKind} {c : Cell} {l : List Int} (h : c.ints? k = some l) : denC ρ c = some (l.map (Value.int k)) := by
  have fin : ∀ {k' : IntKind} {m : List Int}, cond (ikEq k' k) (some m) none = some l → k' = k ∧ m = l := by
    intro k' m h
    by_cases hk : ikEq k' k = true
    · rw [hk] at h; cases h; exact ⟨ikEq_spec hk, rfl⟩
    · rw [Bool.eq_false_iff.2 hk] at h; cases h
  cases c with
  | val v =>
    cases v <;> simp only [Cell.ints?] at h <;> try (cases h; done)
    obtain ⟨rfl, rfl⟩ := fin h
    rfl
  | ptr d i off => cases h
  | dg1 k' w x i => obtain ⟨rfl, rfl⟩ := fin h; rfl
  | fe x => obtain ⟨rfl, rfl⟩ := fin h; simp only [denC, digL_I]
  | nm x => obtain ⟨rfl, rfl⟩ := fin h; simp only [denC, digL_I]
  | dig k' w x n => obtain ⟨rfl, rfl⟩ := fin h; simp only [denC, digL_I]
  | arr k' l => obtain ⟨rfl, rfl⟩ := fin h; rfl
  | sli d i off n c sym => cases h
  | gs d i n c sym => cases h
  | gp d i k => cases h

/-- cells that are all whole numbers of a kind -/
def decInts (k : IntKind) : List Cell → Option (List Int)
  | [] => some []
  | [c] => c.ints? k
  | c :: cs => match c.ints? k, decInts k cs with
    | some n, some l => some (n ++ l)
    | _, _ => none

theorem decInts_spec {ρ : Env} {k : IntKind} : ∀ {cs : List Cell} {l : List Int}, decInts k cs = some l → denCs ρ cs = some (l.map (Value.int k))
  | [], l, h => by simp only [decInts] at h; cases h; rfl
  | [c], l, h => by
    simp only [decInts] at h
    exact denCs_one (Cell.ints?_spec h)
  | c :: c' :: cs, l, h => by
    simp only [decInts] at h
    cases h1 : c.ints? k with
    | none => simp [h1] at h
    | some n =>
      cases h2 : decInts k (c' :: cs) with
      | none => simp [h1, h2] at h
      | some l' =>
        simp only [h1, h2] at h
        cases h
        rw [denCs_mk (Cell.ints?_spec h1) (decInts_spec h2), List.map_append]

/-- what is read of a block -/
def getV (P : Program) (t : TypeId) (off : Nat) (blk : Blk) : Option (SV × List Prop) :=
  cond blk.kd.live (match blk.cells with
    | [.arr k l] => match isAggT P t, P.info? t with
      | some false, some _ => some (one (.int k (l.getD off 0)), [Nat.blt off l.length = true])
      | _, _ => none
    | cs => match partS P t cs off with
      | some s => some (s, [])
      | none => none) none

/-- a block, written -/
def putV (P : Program) (t : TypeId) (p : PV) (off : Nat) (blk : Blk) : Option (Blk × List Prop) :=
  match P.info? t with
  | some inf => cond (blk.kd.wr && p.ok && okCs p.cells && Nat.beq (widS p.cells) inf.size) (match blk.cells with
    | [.arr k l] => match SV.int? (.pv p) with
      | some (k', v) => cond (ikEq k' k) (some (⟨[.arr k (l.set off v)], blk.ty, blk.kd⟩, [Nat.blt off l.length = true])) none
      | none => none
    | cs => match putAt cs off p.cells with
      | some cs' => some (⟨cs', blk.ty, blk.kd⟩, [])
      | none => none) none
  | none => none

/-- what is read of what one reads alone -/
def getG (P : Program) (t : TypeId) (off : Nat) (blk : Blk) : Option (SV × List Prop) :=
  cond blk.kd.isGs (match blk.cells with
    | [.arr k l] => match isAggT P t, P.info? t with
      | some false, some _ => some (one (.int k (l.getD off 0)), [Nat.blt off l.length = true])
      | _, _ => none
    | cs => match partS P t cs off with
      | some s => some (s, [])
      | none => none) none

def loadV (P : Program) (t : TypeId) (s : SV) (h : Heap) : Option (SV × List Prop) :=
  match s with
  | .pv (.one (.ptr d i off)) => match getB h d i with
    | some blk => getV P t off blk
    | none => none
  | .pv (.one (.gp d i off)) => match getB h d i with
    | some blk => getG P t off blk
    | none => none
  | _ => none

def storeV (P : Program) (t : TypeId) (s x : SV) (h : Heap) : Option (Heap × List Prop) :=
  match s, x with
  | .pv (.one (.ptr d i off)), .pv p => match getB h d i with
    | some blk => match putV P t p off blk with
      | some (blk', pre) => some (setB h d i blk', pre)
      | none => none
    | none => none
  | _, _ => none

def madeV (dst : Option Tmp) (b : Blk) (h : Heap) : Option (SV × Heap) :=
  match dst with
  | some d => match pushB h d b with
    | some (h', n) => some (.pv (.one (.ptr d n 0)), h')
    | none => none
  | none => none

/-- no more ours -/
def killB (h : Heap) (d i : Nat) : Heap := match getB h d i with
  | some blk => setB h d i ⟨[], blk.ty, .dead⟩
  | none => h

/-- some of a row's cells -/
def takeC (cs : List Cell) (off n : Nat) : Option (List Cell × List Prop) :=
  match cs with
  | [.arr k l] => some ([.arr k ((l.drop off).take n)], [Nat.ble (off + n) l.length = true])
  | cs => match takeAt cs off n with
    | some ds => some (ds, [])
    | none => none

/-- a row's first cells, all of it where its length is no literal -/
def takeW (cs : List Cell) (off n : Nat) (sym : Bool) : Option (List Cell × List Prop) :=
  cond sym (cond (Nat.beq off 0) (some (cs, [Nat.beq n (widS cs) = true])) none) (takeC cs off n)

/-- a slice's elements, and how many -/
def srcV (h : Heap) : SV → Option (List Cell × Nat × List Prop)
  | .pv (.one (.sli d i off n _ sym)) => match getB h d i with
    | some blk => cond blk.kd.live (match takeW blk.cells off n sym with
      | some (cs, pre) => some (cs, n, pre)
      | none => none) none
    | none => none
  | _ => none

/-- a slice that one may hand over: nothing, or a whole row of one's own -/
def ownV (h : Heap) : SV → Option (Option (Nat × Nat × TypeId) × List Cell × Nat × List Prop)
  | .pv (.one (.val (.slice none 0 0))) => some (none, [], 0, [])
  | .pv (.one (.sli d i 0 n none sym)) => match getB h d i with
    | some blk => match blk.kd with
      | .sl => match takeW blk.cells 0 n sym with
        | some (cs, pre) => some (some (d, i, blk.ty), cs, n, pre)
        | none => none
      | _ => none
    | none => none
  | _ => none

def hasArr : List Cell → Bool
  | [] => false
  | .arr _ _ :: _ => true
  | _ :: l => hasArr l

def joinC (k : IntKind) (cs ds : List Cell) : Option (List Cell) :=
  cond (hasArr cs || hasArr ds) (match decInts k cs, decInts k ds with
    | some a, some b => some [.arr k (a ++ b)]
    | _, _ => none) (some (cs ++ ds))

def killO (h : Heap) : Option (Nat × Nat × TypeId) → Heap
  | some (d, i, _) => killB h d i
  | none => h

def tyB (e : TypeId) : Option (Nat × Nat × TypeId) → Bool
  | some (_, _, t) => Nat.beq t e
  | none => true

/-- a new slice of one's own -/
def newRowV (dst : Option Tmp) (cs : List Cell) (e : TypeId) (n : Nat) (h : Heap) : Option (SV × Heap) :=
  match dst with
  | some d => match pushB h d ⟨cs, e, .sl⟩ with
    | some (h', i) => some (.pv (.one (.sli d i 0 n none (hasArr cs))), h')
    | none => none
  | none => none

def oneZ (i : TypeInfo) : Bool := match i.zero with
  | some z => Nat.beq z.cells.size 1
  | none => false
def limN : Nat := 1099511627776

def appendV (P : Program) (t : TypeId) (dst : Option Tmp) (s x : SV) (h : Heap) : Option (SV × Heap × List Prop) :=
  match P.underlying t with
  | some (.slice e) => match P.underlying e, P.info? e with
    | some (.int k), some inf => match ownV h s, srcV h x with
      | some (o, cs, n, p1), some (ds, m, p2) => match joinC k cs ds with
        | some js => match guardP (hasArr js) (Nat.ble 1 (n + m) && Nat.ble (n + m) limN), newRowV dst js e (n + m) (killO h o) with
          | some p3, some (v, h') => cond (Nat.ble inf.bytes 16 && Nat.beq inf.size 1 && okCs ds && tyB e o && oneZ inf) (some (v, h', p1 ++ (p2 ++ p3))) none
          | _, _ => none
        | none => none
      | _, _ => none
    | _, _ => none
  | _ => none

/-- the first elements, one by one -/
def firstC (cs : List Cell) (off n : Nat) : Option (List Cell × List Prop) :=
  match cs with
  | [.arr k l] => some ((List.range n).map fun j => .val (.int k (l.getD (off + j) 0)), [Nat.ble (off + n) l.length = true])
  | cs => match takeAt cs off n with
    | some ds => some (ds, [])
    | none => none

/-- as many elements as there are in the place to be written -/
def copyV (P : Program) (t : TypeId) (dst src : SV) (h : Heap) : Option (SV × Heap × List Prop) :=
  match P.underlying t with
  | some (.slice e) => match P.info? e with
    | some inf => match dst, src with
      | .pv (.one (.sli d i off n _ _)), .pv (.one (.sli d' i' off' m _ sym)) => match getB h d i, getB h d' i' with
        | some blk, some blk' => match firstC blk'.cells off' n, guardP sym (Nat.ble n m) with
          | some (cs, p1), some p2 => cond (blk.kd.wr && blk'.kd.live && okCs cs && Nat.beq inf.size 1) (match putAt blk.cells off cs with
            | some cs' => some (one (.int .i64 n), setB h d i ⟨cs', blk.ty, blk.kd⟩, p1 ++ p2)
            | none => none) none
          | _, _ => none
        | _, _ => none
      | _, _ => none
    | none => none
  | _ => none

/-- a slice's zeros -/
def zerosC (z : Array Value) : Nat → List Cell
  | 0 => []
  | n + 1 => z.toList.map .val ++ zerosC z n

def makeSliceV (P : Program) (t : TypeId) (dst : Option Tmp) (l c : SV) (h : Heap) : Option (SV × Heap × List Prop) :=
  match P.underlying t with
  | some (.slice e) => match P.info? e with
    | some inf => match inf.zero, l.int?, c.int? with
      | some z, some (_, n), some (_, m) => cond (Nat.beq inf.size 1 && Nat.beq z.cells.size 1 && decide (0 ≤ n) && decide (n = m) && decide (n ≤ limN) && Nat.ble inf.bytes 16) (match newRowV dst (zerosC z.cells n.toNat) e n.toNat h with
        | some (v, h') => some (v, h', [])
        | none => none) none
      | _, _, _ => none
    | none => none
  | _ => none

def buildSliceV (P : Program) (t : TypeId) (len : Nat) (dst : Option Tmp) (parts : List (Nat × PV)) (h : Heap) : Option (SV × Heap × List Prop) :=
  match P.underlying t with
  | some (.slice e) => match P.info? e with
    | some inf => match inf.zero with
      | some z => cond (Nat.beq inf.size 1 && Nat.beq z.cells.size 1 && Nat.ble 1 len && Nat.ble len 65536) (match fillS (fun i => some (i * 1, 1)) (zerosC z.cells len) parts with
        | some cs => match newRowV dst cs e len h with
          | some (v, h') => some (v, h', [])
          | none => none
        | none => none) none
      | none => none
    | none => none
  | _ => none

def argC (m : SMode) (h : Heap) (s : SV) : Option (PV × Option (Nat × Nat × TypeId) × List Prop) :=
  match m with
  | .plain => match s with
    | .pv p => some (p, none, [])
    | _ => none
  | .read => match s with
    | .pv (.one (.sli d i 0 n c sym)) => match srcV h (.pv (.one (.sli d i 0 n c sym))) with
      | some (cs, _, pre) => some (.agg cs, none, pre)
      | none => none
    | _ => none
  | .own e => match ownV h s with
    | some (some o, cs, _, pre) => cond (tyB e (some o)) (some (.agg cs, some o, pre)) none
    | _ => none

/-- a call of a function of one argument, it or the result a slice -/
def slCallV (sp : SlSpec) (dst : Option Tmp) (s : SV) (h : Heap) : Option (SV × Heap × List Prop) :=
  match argC sp.mode h s with
  | some (p, o, p1) => match sp.res p with
    | some (.val v, p2) => some (v, killO h o, p2 ++ p1)
    | some (.row e cs, p2) => match newRowV dst cs e (widS cs) (killO h o) with
      | some (v, h') => some (v, h', p2 ++ p1)
      | none => none
    | none => none
  | none => none

/-- a block shown to a callee: the cell that tells of it, its cells, what it is, what must hold, where it lies -/
structure Ent where
  c : Cell
  raw : List Cell
  ty : TypeId
  kd : Kd
  pre : List Prop
  src : Option (Nat × Nat)
/-- the cell that tells of it to the callee -/
def newC (wr : Bool) (c : Cell) (j : Nat) : Cell := match c with
  | .gs _ _ n cp sym => .gs 0 j n cp sym
  | .sli _ _ _ n cp sym => .gs 0 j n cp sym
  | .gp _ _ _ => .gp 0 j 0
  | .ptr _ _ off => cond wr (.ptr 0 j off) (.gp 0 j 0)
  | .val (.slice none 0 0) => .gs 0 j 0 none false
  | c => c
def isRef : Cell → Bool
  | .gs _ _ _ _ _ => true
  | .sli _ _ _ _ _ _ => true
  | .gp _ _ _ => true
  | .ptr _ _ _ => true
  | .val (.slice none 0 0) => true
  | _ => false
/-- cells as they are told to the callee, the first block's number given; what they tell of -/
def normCs (wr : Bool) : List Cell → Nat → List Cell × List Cell
  | [], _ => ([], [])
  | c :: cs, n => cond (isRef c) (newC wr c n :: (normCs wr cs (n + 1)).1, c :: (normCs wr cs (n + 1)).2) (c :: (normCs wr cs n).1, (normCs wr cs n).2)
def normP (wr : Bool) : PV → Nat → PV × List Cell
  | .one c, n => match (normCs wr [c] n).1 with
    | [c'] => (.one c', (normCs wr [c] n).2)
    | _ => (.one c, [])
  | .agg cs, n => (.agg (normCs wr cs n).1, (normCs wr cs n).2)
def normPs (wr : Bool) : List PV → Nat → List PV × List Cell
  | [], _ => ([], [])
  | p :: ps, n => ((normP wr p n).1 :: (normPs wr ps (n + (normP wr p n).2.length)).1, (normP wr p n).2 ++ (normPs wr ps (n + (normP wr p n).2.length)).2)
/-- a row's cells from a place on -/
def restC (cs : List Cell) (k : Nat) : Option (List Cell × List Prop) :=
  match cs with
  | [.arr kk l] => some ([.arr kk (l.drop k)], [Nat.ble k l.length = true])
  | cs => match cut cs k with
    | some (_, b) => some (b, [])
    | none => none
def entOf (wr : Bool) (h : Heap) (c : Cell) : Option Ent := match c with
  | .gs d i _ _ _ => match getB h d i with
    | some blk => cond blk.kd.isGs (some ⟨c, blk.cells, blk.ty, .gs, [], some (d, i)⟩) none
    | none => none
  | .sli d i off n _ sym => match getB h d i with
    | some blk => cond blk.kd.live (match takeW blk.cells off n sym with
      | some (cs, pre) => some ⟨c, cs, blk.ty, .gs, pre, some (d, i)⟩
      | none => none) none
    | none => none
  | .gp d i k => match getB h d i with
    | some blk => cond blk.kd.isGs (match restC blk.cells k with
      | some (cs, pre) => some ⟨c, cs, blk.ty, .gs, pre, some (d, i)⟩
      | none => none) none
    | none => none
  | .ptr d i off => match getB h d i with
    | some blk => cond wr (cond blk.kd.wr (some ⟨c, blk.cells, blk.ty, blk.kd, [], some (d, i)⟩) none) (cond blk.kd.live (match restC blk.cells off with
      | some (cs, pre) => some ⟨c, cs, blk.ty, .gs, pre, some (d, i)⟩
      | none => none) none)
    | none => none
  | .val (.slice none 0 0) => some ⟨c, [], 0, .gs, [], none⟩
  | _ => none
/-- all blocks that cells tell of, also by others' cells -/
def bfs (wr : Bool) (h : Heap) : Nat → List Cell → Nat → Option (List (Ent × List Cell))
  | _, [], _ => some []
  | 0, _ :: _, _ => none
  | f + 1, c :: q, n => match entOf wr h c with
    | some e => match bfs wr h f (q ++ (normCs wr e.raw n).2) (n + (normCs wr e.raw n).2.length) with
      | some R => some ((e, (normCs wr e.raw n).1) :: R)
      | none => none
    | none => none
def srcNe : Option (Nat × Nat) → Option (Nat × Nat) → Bool
  | some (a, b), some (c, d) => !(Nat.beq a c && Nat.beq b d)
  | _, _ => true
def uniqR : List (Ent × List Cell) → Bool
  | [] => true
  | e :: R => (R.all fun e' => !(e.1.kd.wr || e'.1.kd.wr) || srcNe e.1.src e'.1.src) && uniqR R
def wsR : List (Ent × List Cell) → List (Nat × Nat)
  | [] => []
  | e :: R => cond e.1.kd.wr (match e.1.src with
    | some p => p :: wsR R
    | none => wsR R) (wsR R)
def preR : List (Ent × List Cell) → List Prop
  | [] => []
  | e :: R => e.1.pre ++ preR R
def gsR (R : List (Ent × List Cell)) : List Blk := R.map fun e => ⟨e.2, e.1.ty, e.1.kd⟩
/-- where what the callee tells of lies -/
def psi (ws : List (Nat × Nat)) (d n0 : Nat) (j : Nat) : Nat × Nat := match getL ws j with
  | some p => p
  | none => (d, n0 + (j - ws.length))
def relC (ws : List (Nat × Nat)) (d n0 : Nat) : Cell → Option Cell
  | .ptr x j off => cond (Nat.beq x 0) (some (.ptr (psi ws d n0 j).1 (psi ws d n0 j).2 off)) none
  | .sli x j off n c sym => cond (Nat.beq x 0) (some (.sli (psi ws d n0 j).1 (psi ws d n0 j).2 off n c sym)) none
  | .gs x j n c sym => cond (Nat.beq x 0 && Nat.ble ws.length j) (some (.gs (psi ws d n0 j).1 (psi ws d n0 j).2 n c sym)) none
  | .gp x j k => cond (Nat.beq x 0 && Nat.ble ws.length j) (some (.gp (psi ws d n0 j).1 (psi ws d n0 j).2 k)) none
  | c => some c
def relCs (ws : List (Nat × Nat)) (d n0 : Nat) : List Cell → Option (List Cell)
  | [] => some []
  | c :: cs => match relC ws d n0 c, relCs ws d n0 cs with
    | some c', some cs' => some (c' :: cs')
    | _, _ => none
def relP (ws : List (Nat × Nat)) (d n0 : Nat) : PV → Option PV
  | .one c => (relC ws d n0 c).map .one
  | .agg cs => (relCs ws d n0 cs).map .agg
def relPs (ws : List (Nat × Nat)) (d n0 : Nat) : List PV → Option (List PV)
  | [] => some []
  | p :: ps => match relP ws d n0 p, relPs ws d n0 ps with
    | some p', some ps' => some (p' :: ps')
    | _, _ => none
def relBs (ws : List (Nat × Nat)) (d n0 : Nat) : List Blk → Option (List Blk)
  | [] => some []
  | b :: bs => match relCs ws d n0 b.cells, relBs ws d n0 bs with
    | some cs, some bs' => some (⟨cs, b.ty, b.kd⟩ :: bs')
    | _, _ => none
def setAll (h : Heap) : List (Nat × Nat) → List Blk → Option (Heap × List Blk)
  | [], bs => some (h, bs)
  | p :: ws, b :: bs => cond b.kd.sees none (setAll (setB h p.1 p.2 b) ws bs)
  | _ :: _, [] => none
/-- a call of a function whose arguments tell of blocks -/
def gcallV (sp : GSpec) (dst : Option Tmp) (ps0 : List PV) (h : Heap) : Option (SV × Heap × List Prop) :=
  match bfs sp.wr h 60 (normPs sp.wr ps0 0).2 (normPs sp.wr ps0 0).2.length with
  | some R => cond (uniqR R) (match sp.fn (normPs sp.wr ps0 0).1 (gsR R) with
    | some out => match dst with
      | some d => match getL h d with
        | some l => match relPs (wsR R) d l.length out.rs, relBs (wsR R) d l.length out.gs with
          | some rs, some bs => match setAll h (wsR R) bs with
            | some (h1, news) => match getL h1 d with
              | some l1 => some (tupOf rs, setL h1 d (l1 ++ news), out.pre ++ preR R)
              | none => none
            | none => none
          | _, _ => none
        | none => none
      | none => match relPs (wsR R) h.length 0 out.rs, relBs (wsR R) h.length 0 out.gs with
        | some rs, some bs => match setAll h (wsR R) bs with
          | some (h1, []) => some (tupOf rs, h1, out.pre ++ preR R)
          | _ => none
        | _, _ => none
    | none => none) none
  | none => none

def gOp (T : Table) (c : Call) (dst : Option Tmp) (ev : Ev) (h : Heap) : Option (Option (SV × Heap × List Prop)) := match c.callee with
  | .value (.func f) => match T.g f with
    | some sp => some (match argsOf ev c.args.toList with
      | some ps => gcallV sp dst ps h
      | none => none)
    | none => none
  | _ => none
/-- an operation on slices that is no plain one -/
def ownOp (P : Program) (T : Table) (o : Oper) (ev : Ev) (h : Heap) : Option (Option (SV × Heap × List Prop)) :=
  match o.op with
  | .call c => match gOp T c o.dst ev h with
    | some r => some r
    | none => match c.callee, c.args.toList, c.argTypes.toList with
    | .builtin .append, [x, y], [t, t'] => some (cond (Nat.beq t t') (match ev x, ev y with
      | some s, some u => appendV P t o.dst s u h
      | _, _ => none) none)
    | .builtin .copy, [x, y], [t, _] => some (match ev x, ev y with
      | some s, some u => copyV P t s u h
      | _, _ => none)
    | .value (.func f), [x], _ => match T.sl f with
      | some sp => some (match ev x with
        | some s => slCallV sp o.dst s h
        | none => none)
      | none => none
    | _, _, _ => none
  | .makeSlice t l c => some (match ev l, ev c with
    | some sl, some sc => makeSliceV P t o.dst sl sc h
    | _, _ => none)
  | .buildSlice t len parts => some (match partsOf ev parts.toList with
    | some ps => buildSliceV P t len o.dst ps h
    | none => none)
  | _ => none

/-- one operation: its value, memory behind it, what must hold -/
def evalOp (P : Program) (T : Table) (o : Oper) (ev : Ev) (h : Heap) : Option (SV × Heap × List Prop) :=
  match ownOp P T o ev h with
  | some r => r
  | none => match o.op with
  | .load t x => match ev x with
    | some s => match loadV P t s h with
      | some (v, pre) => some (v, h, pre)
      | none => none
    | none => none
  | .store t x y => match ev x, ev y with
    | some s, some v => match storeV P t s v h with
      | some (h', pre) => some (.tup [], h', pre)
      | none => none
    | _, _ => none
  | .alloc t => match P.info? t with
    | some inf => match inf.zero with
      | some z => match madeV o.dst ⟨z.cells.toList.map .val, t, .var⟩ h with
        | some (v, h') => some (v, h', [])
        | none => none
      | none => none
    | none => none
  | .box t x => match ev x with
    | some (.pv p) => cond p.ok (match madeV o.dst ⟨p.cells, t, .var⟩ h with
      | some (v, h') => some (v, h', [])
      | none => none) none
    | _ => none
  | _ => match pureOp P T ev o.op with
    | some (v, pre) => some (v, h, pre)
    | none => none

structure Rel (w0 : World) (fb : Gh) (ρ : Env) (tm : List SV) (h : Heap) (a : Act) (w : World) : Prop extends HRel w0 fb ρ h w where
  tmps : ∀ t s, getL tm t = some s → relS ρ s (a.tmps.getD t undef)
  len : a.tmps.size = tm.length
  defers : a.defers = []

theorem HRel.heap {w0 : World} {fb : Gh} {ρ : Env} {h : Heap} {w : World} (r : HRel w0 fb ρ h w) (d i : Nat) (blk : Blk) (e : getB h d i = some blk) (hk : blk.kd.isGs = false) :
    ∃ b, ρ d i = some b ∧ b < w.heap.size ∧ (blk.kd = .dead ∨ ∃ l junk, denCs ρ blk.cells = some l ∧ w.heap[b]? = some (.cells (l ++ junk).toArray blk.ty (0, 0)) ∧ (blk.kd = .sl → (l ++ junk).length = ρ.cap d i ∧ ρ.cap d i ≤ maxLen)) := by
  rcases r.at_ d i blk e with ⟨q, _⟩ | ⟨b, q1, q2, _, q4⟩
  · rw [q] at hk; cases hk
  · exact ⟨b, q1, q2, q4⟩
theorem HRel.gs {w0 : World} {fb : Gh} {ρ : Env} {h : Heap} {w : World} (r : HRel w0 fb ρ h w) (d i : Nat) (blk : Blk) (e : getB h d i = some blk) (hk : blk.kd.isGs = true) :
    ∃ l v, denCs ρ blk.cells = some l ∧ ρ.sv d i = some v ∧ Shows ρ w d i blk.ty v l := by
  rcases r.at_ d i blk e with ⟨_, q⟩ | ⟨b, _, _, q3, _⟩
  · exact q
  · exact absurd (by cases h : blk.kd <;> rw [h] at hk <;> first | rfl | cases hk) q3
theorem live_gs {k : Kd} (h : k.live = true) : k.isGs = false := by cases k <;> first | rfl | cases h
theorem wr_gs {k : Kd} (h : k.wr = true) : k.isGs = false := by cases k <;> first | rfl | cases h
theorem sl_gs {k : Kd} (h : k = .sl) : k.isGs = false := by subst h; rfl

theorem getL_some_lt {α : Type} : ∀ {l : List α} {n : Nat} {x : α}, getL l n = some x → n < l.length := by
  intro l n x h
  rw [getL_eq] at h
  exact (List.getElem?_eq_some_iff.1 h).1

theorem setL_length {α : Type} (l : List α) (n : Nat) (b : α) : (setL l n b).length = l.length := by rw [setL_eq]; simp

theorem getL_setL {α : Type} (l : List α) (n m : Nat) (b : α) : getL (setL l n b) m = if n = m then (if n < l.length then some b else none) else getL l m := by
  rw [setL_eq, getL_eq, getL_eq, List.getElem?_set]

def putS (tm : List SV) (dst : Option Tmp) (v : SV) : List SV :=
  match dst with
  | some d => setL tm d v
  | none => tm

theorem Rel.put {w0 : World} {fb : Gh} {ρ : Env} {tm : List SV} {h : Heap} {a : Act} {w : World} (r : Rel w0 fb ρ tm h a w) (dst : Option Tmp) {s : SV} {v : Value} (hv : relS ρ s v) :
    Rel w0 fb ρ (putS tm dst s) h (a.put dst v) w := by
  cases dst with
  | none => exact r
  | some d =>
    refine { r.toHRel with tmps := ?_, len := by simp [Act.put, putS, setL_length, r.len], defers := r.defers }
    intro t s' hs
    simp only [putS, getL_setL] at hs
    simp only [Act.put]
    by_cases hd : d = t
    · subst hd
      rw [if_pos rfl] at hs
      by_cases hl : d < tm.length
      · rw [if_pos hl] at hs
        cases hs
        have : d < a.tmps.size := by rw [r.len]; exact hl
        simpa [Array.getElem?_setIfInBounds, this] using hv
      · rw [if_neg hl] at hs; cases hs
    · rw [if_neg hd] at hs
      have := r.tmps t s' hs
      simpa [Array.getElem?_setIfInBounds_ne hd] using this

theorem block_lt {w : World} {b : Nat} {o : Obj} (h : w.heap[b]? = some o) : b < w.heap.size := (Array.getElem?_eq_some_iff.1 h).1

theorem Rel.of {w0 w0' : World} {fb fb' : Gh} {ρ ρ' : Env} {tm : List SV} {h h' : Heap} {a : Act} {w w' : World} (r : Rel w0 fb ρ tm h a w) (hl : ρ.le ρ') (q : HRel w0' fb' ρ' h' w') : Rel w0' fb' ρ' tm h' a w' :=
  { q with tmps := fun t s hs => relS_mono hl (r.tmps t s hs), len := r.len, defers := r.defers }

theorem dead_sees {h : Heap} {d i : Nat} (h1 : deadAt h d i) (h2 : seesAt h d i) : False := by
  obtain ⟨b1, q1, q2⟩ := h1
  obtain ⟨b2, q3, q4⟩ := h2
  rw [q1] at q3
  cases q3
  rw [q2] at q4
  cases q4

/-- a world in which just such blocks have turned as are no more ours -/
theorem HRel.moved {w0 : World} {fb : Gh} {X : Nat → Prop} {ρ : Env} {h : Heap} {w w' : World} (r : HRel w0 fb ρ h w) (k : Keep w X w')
    (hd : ∀ b, b < w.heap.size → X b → (w0.heap.size ≤ b ∨ fb b) ∧ ∀ d i, ρ d i = some b → deadAt h d i) : HRel w0 fb ρ h w' := by
  refine ⟨?_, r.dom, r.doms, r.inj, r.low, fun d i b e => Nat.lt_of_lt_of_le (r.lt d i b e) k.size, r.anc, ?_⟩
  · intro d i blk hb
    rcases r.at_ d i blk hb with ⟨q, l, v, e1, e2, e3⟩ | ⟨b, h1, h2, h3, h4⟩
    · refine .inl ⟨q, l, v, e1, e2, ?_⟩
      rcases e3 with e3 | ⟨b, pre, junk, fz, p1, p2, p3, p4⟩
      · exact .inl e3
      · refine .inr ⟨b, pre, junk, fz, p1, Nat.lt_of_lt_of_le p2 k.size, ?_, p4⟩
        rw [k.block b p2 (fun hx => by
          obtain ⟨blk', q1, q2⟩ := (hd b p2 hx).2 d i p1
          rw [hb] at q1
          cases q1
          rw [q] at q2
          cases q2)]
        exact p3
    · refine .inr ⟨b, h1, Nat.lt_of_lt_of_le h2 k.size, h3, ?_⟩
      rcases h4 with h4 | ⟨l, junk, e1, e2, e3⟩
      · exact .inl h4
      · by_cases hx : X b
        · obtain ⟨blk', q1, q2⟩ := (hd b h2 hx).2 d i h1
          rw [hb] at q1
          cases q1
          exact .inl q2
        · exact .inr ⟨l, junk, e1, by rw [k.block b h2 hx]; exact e2, e3⟩
  · have kk := r.keep
    refine ⟨k.os.trans kk.os, k.tape.trans kk.tape, k.output.trans kk.output, Nat.le_trans kk.size k.size, fun j hj hn => ?_⟩
    have hjw : j < w.heap.size := Nat.lt_of_lt_of_le hj kk.size
    rw [k.block j hjw (fun hx => by
      rcases (hd j hjw hx).1 with h1 | h1
      · omega
      · exact hn h1)]
    exact kk.block j hj hn

theorem keep_grown {w w' : World} {row : Option Nat} (hg : w.grownBy w' row) : Keep w (Gh.row row) w' := ⟨hg.os, hg.tape, hg.output, hg.size, fun k hk hn => hg.block k hk (fun e => hn e.symm)⟩

theorem Rel.grown {w0 : World} {fb : Gh} {ρ : Env} {tm : List SV} {h : Heap} {a : Act} {w w' : World} (r : Rel w0 fb ρ tm h a w) {row : Option Nat} (hg : w.grownBy w' row)
    (hd : ∀ b, row = some b → (w0.heap.size ≤ b ∨ fb b) ∧ ∀ d i, ρ d i = some b → deadAt h d i) : Rel w0 fb ρ tm h a w' :=
  r.of (Env.le_refl ρ) (r.toHRel.moved (keep_grown hg) fun b _ => hd b)

theorem Rel.below {w0 : World} {fb : Gh} {ρ : Env} {tm : List SV} {h : Heap} {a : Act} {w w' : World} (r : Rel w0 fb ρ tm h a w) (hb : Below w.heap.size w w') : Rel w0 fb ρ tm h a w' :=
  r.grown (row := none) ⟨hb.os, hb.tape, hb.output, hb.size, fun k hk _ => hb.block k hk⟩ (fun b e => by cases e)

theorem HRel.drew {w0 : World} {fb : Gh} {ρ : Env} {h : Heap} {w : World} (r : HRel w0 fb ρ h w) : HRel w0 fb ρ h { w with drawn := w.drawn + 1 } :=
  ⟨r.at_, r.dom, r.doms, r.inj, r.low, r.lt, r.anc, ⟨r.keep.os, r.keep.tape, r.keep.output, r.keep.size, r.keep.block⟩⟩
theorem Rel.drew {w0 : World} {fb : Gh} {ρ : Env} {tm : List SV} {h : Heap} {a : Act} {w : World} (r : Rel w0 fb ρ tm h a w) : Rel w0 fb ρ tm h a { w with drawn := w.drawn + 1 } :=
  r.of (Env.le_refl ρ) r.toHRel.drew

theorem getB_setB {h : Heap} {d i : Nat} {old b : Blk} (e : getB h d i = some old) (d' i' : Nat) : getB (setB h d i b) d' i' = if d = d' ∧ i = i' then some b else getB h d' i' := by
  unfold getB at e
  cases hl : getL h d with
  | none => simp [hl] at e
  | some l =>
    simp only [hl] at e
    have h1 := getL_some_lt hl
    have h2 := getL_some_lt e
    unfold getB setB
    simp only [hl, getL_setL]
    by_cases hd : d = d'
    · subst hd
      simp only [if_true, h1, getL_setL, true_and, hl]
      by_cases hi : i = i'
      · subst hi; simp [h2]
      · simp [hi]
    · simp [hd]

theorem getB_pushB {h h' : Heap} {d n : Nat} {b : Blk} (e : pushB h d b = some (h', n)) :
    getB h d n = none ∧ getB h' d n = some b ∧ (∀ d' i', ¬(d' = d ∧ i' = n) → getB h' d' i' = getB h d' i') := by
  unfold pushB at e
  cases hl : getL h d with
  | none => simp [hl] at e
  | some l =>
    simp only [hl] at e
    cases e
    have h1 := getL_some_lt hl
    refine ⟨?_, ?_, ?_⟩
    · unfold getB; rw [hl]; simp [getL_eq]
    · unfold getB; rw [getL_setL, if_pos rfl, if_pos h1]; simp [getL_eq]
    · intro d' i' hne
      unfold getB
      rw [getL_setL]
      by_cases hd : d = d'
      · subst hd
        rw [if_pos rfl, if_pos h1, hl]
        simp only [getL_eq]
        have hi : i' ≠ l.length := fun e => hne ⟨rfl, e⟩
        rcases Nat.lt_or_ge i' l.length with h2 | h2
        · rw [List.getElem?_append_left h2]
        · rw [List.getElem?_eq_none (by simp; omega), List.getElem?_eq_none h2]
      · rw [if_neg hd]

theorem Shows.mono {ρ ρ' : Env} (hl : ρ.le ρ') {w : World} {d i : Nat} {ty : TypeId} {v : Value} {l : List Value} (h : Shows ρ w d i ty v l) : Shows ρ' w d i ty v l := by
  rcases h with h | ⟨b, pre, junk, fz, p1, p2⟩
  · exact .inl h
  · exact .inr ⟨b, pre, junk, fz, (hl.pos _ _ _ p1).1, p2⟩
theorem HoldsAt.mono {ρ ρ' : Env} (hl : ρ.le ρ') {w : World} {d i : Nat} {blk : Blk} (h : HoldsAt ρ w d i blk) : HoldsAt ρ' w d i blk := by
  rcases h with ⟨q, l, v, e1, e2, e3⟩ | ⟨b, h1, h2, h3, h4⟩
  · exact .inl ⟨q, l, v, denCs_mono hl e1, hl.sv _ _ _ e2, e3.mono hl⟩
  · refine .inr ⟨b, (hl.pos _ _ _ h1).1, h2, h3, ?_⟩
    rcases h4 with h4 | ⟨l, junk, e1, e2, e3⟩
    · exact .inl h4
    · exact .inr ⟨l, junk, denCs_mono hl e1, e2, fun hk => by rw [(hl.pos _ _ _ h1).2]; exact e3 hk⟩

/-- with one more place -/
def Env.with (ρ : Env) (d n : Nat) (po : Option Nat) (c : Nat) (so : Option Value) : Env :=
  ⟨fun d' i' => if d' = d ∧ i' = n then po else ρ d' i', fun d' i' => if d' = d ∧ i' = n then c else ρ.cap d' i', fun d' i' => if d' = d ∧ i' = n then so else ρ.sv d' i'⟩
theorem Env.with_pos (ρ : Env) (d n : Nat) (po : Option Nat) (c : Nat) (so : Option Value) : (ρ.with d n po c so) d n = po ∧ (ρ.with d n po c so).cap d n = c ∧ (ρ.with d n po c so).sv d n = so := by
  refine ⟨?_, ?_, ?_⟩
  · show (if d = d ∧ n = n then po else _) = po; simp
  · show (if d = d ∧ n = n then c else _) = c; simp
  · show (if d = d ∧ n = n then so else _) = so; simp
theorem Env.with_ne (ρ : Env) {d n : Nat} (po : Option Nat) (c : Nat) (so : Option Value) {d' i' : Nat} (h : ¬(d' = d ∧ i' = n)) : (ρ.with d n po c so) d' i' = ρ d' i' ∧ (ρ.with d n po c so).cap d' i' = ρ.cap d' i' ∧ (ρ.with d n po c so).sv d' i' = ρ.sv d' i' := by
  refine ⟨?_, ?_, ?_⟩
  · show (if d' = d ∧ i' = n then po else _) = _; rw [if_neg h]
  · show (if d' = d ∧ i' = n then c else _) = _; rw [if_neg h]
  · show (if d' = d ∧ i' = n then so else _) = _; rw [if_neg h]

/-- a place more -/
theorem HRel.add {w0 : World} {fb : Gh} {ρ : Env} {h h' : Heap} {w : World} (r : HRel w0 fb ρ h w) {d n : Nat} {blk : Blk} {po : Option Nat} {c : Nat} {so : Option Value} (e : pushB h d blk = some (h', n))
    (hh : ρ.le (ρ.with d n po c so) → HoldsAt (ρ.with d n po c so) w d n blk) (hlow : ∀ g, po = some g → blk.kd.sees = true ∨ w0.heap.size ≤ g ∨ fb g) (hlt : ∀ g, po = some g → g < w.heap.size)
    (hfree : ∀ g, po = some g → ∀ d i, ρ d i = some g → deadAt h d i ∨ blk.kd = .dead ∨ (blk.kd.sees = true ∧ seesAt h d i)) :
    ρ.le (ρ.with d n po c so) ∧ HRel w0 fb (ρ.with d n po c so) h' w := by
  obtain ⟨g1, g2, g3⟩ := getB_pushB e
  have hn : ρ d n = none := by
    cases hr : ρ d n with
    | none => rfl
    | some b => obtain ⟨blk, hb⟩ := r.dom d n b hr; rw [g1] at hb; cases hb
  have hn' : ρ.sv d n = none := by
    cases hr : ρ.sv d n with
    | none => rfl
    | some b => obtain ⟨blk, hb⟩ := r.doms d n b hr; rw [g1] at hb; cases hb
  have hle : ρ.le (ρ.with d n po c so) := by
    refine ⟨fun d' i' b hb => ?_, fun d' i' v hv => ?_⟩
    · have hne : ¬ (d' = d ∧ i' = n) := by rintro ⟨rfl, rfl⟩; rw [hn] at hb; cases hb
      obtain ⟨p1, p2, _⟩ := ρ.with_ne po c so hne
      exact ⟨by rw [p1]; exact hb, p2⟩
    · have hne : ¬ (d' = d ∧ i' = n) := by rintro ⟨rfl, rfl⟩; rw [hn'] at hv; cases hv
      rw [(ρ.with_ne po c so hne).2.2]; exact hv
  have hdead : ∀ {d' i'}, deadAt h d' i' → deadAt h' d' i' := by
    rintro d' i' ⟨blk, q1, q2⟩
    refine ⟨blk, ?_, q2⟩
    rw [g3 d' i' (by rintro ⟨rfl, rfl⟩; rw [g1] at q1; cases q1)]
    exact q1
  have hsees : ∀ {d' i'}, seesAt h d' i' → seesAt h' d' i' := by
    rintro d' i' ⟨blk, q1, q2⟩
    refine ⟨blk, ?_, q2⟩
    rw [g3 d' i' (by rintro ⟨rfl, rfl⟩; rw [g1] at q1; cases q1)]
    exact q1
  have hold : ∀ {d' i' b}, (ρ.with d n po c so) d' i' = some b → (d' = d ∧ i' = n ∧ po = some b) ∨ (¬(d' = d ∧ i' = n) ∧ ρ d' i' = some b) := by
    intro d' i' b hb
    by_cases hd : d' = d ∧ i' = n
    · left
      obtain ⟨rfl, rfl⟩ := hd
      rw [(ρ.with_pos d' i' po c so).1] at hb
      exact ⟨rfl, rfl, hb⟩
    · right
      rw [(ρ.with_ne po c so hd).1] at hb
      exact ⟨hd, hb⟩
  have new : ∀ {d1 i1 b}, po = some b → ρ d1 i1 = some b → deadAt h' d n ∨ deadAt h' d1 i1 ∨ (seesAt h' d n ∧ seesAt h' d1 i1) := by
    intro d1 i1 b hp h1
    rcases hfree b hp d1 i1 h1 with q | q | ⟨q, q'⟩
    · exact .inr (.inl (hdead q))
    · exact .inl ⟨blk, g2, q⟩
    · exact .inr (.inr ⟨⟨blk, g2, q⟩, hsees q'⟩)
  refine ⟨hle, ?_, ?_, ?_, ?_, ?_, ?_, (fun j p e => ⟨(hle.pos _ _ _ (r.anc j p e).1).1, (hle.pos _ _ _ (r.anc j p e).1).2.trans (r.anc j p e).2⟩), r.keep⟩
  · intro d' i' blk' hg
    by_cases hd : d' = d ∧ i' = n
    · obtain ⟨rfl, rfl⟩ := hd
      rw [g2] at hg
      cases hg
      exact hh hle
    · rw [g3 d' i' hd] at hg
      exact (r.at_ d' i' blk' hg).mono hle
  · intro d' i' b hb
    rcases hold hb with ⟨rfl, rfl, _⟩ | ⟨hne, hb'⟩
    · exact ⟨_, g2⟩
    · obtain ⟨blk, hb1⟩ := r.dom d' i' b hb'
      exact ⟨blk, by rw [g3 d' i' hne]; exact hb1⟩
  · intro d' i' v hv
    by_cases hd : d' = d ∧ i' = n
    · obtain ⟨rfl, rfl⟩ := hd
      exact ⟨_, g2⟩
    · rw [(ρ.with_ne po c so hd).2.2] at hv
      obtain ⟨blk, hb1⟩ := r.doms d' i' v hv
      exact ⟨blk, by rw [g3 d' i' hd]; exact hb1⟩
  · intro d1 i1 d2 i2 b h1 h2
    rcases hold h1 with ⟨rfl, rfl, e1⟩ | ⟨_, h1'⟩ <;> rcases hold h2 with ⟨rfl, rfl, e2⟩ | ⟨_, h2'⟩
    · exact .inl ⟨rfl, rfl⟩
    · exact .inr (new e1 h2')
    · rcases new e2 h1' with q | q | ⟨q, q'⟩
      · exact .inr (.inr (.inl q))
      · exact .inr (.inl q)
      · exact .inr (.inr (.inr ⟨q', q⟩))
    · rcases r.inj _ _ _ _ _ h1' h2' with q | q | q | ⟨q, q'⟩
      · exact .inl q
      · exact .inr (.inl (hdead q))
      · exact .inr (.inr (.inl (hdead q)))
      · exact .inr (.inr (.inr ⟨hsees q, hsees q'⟩))
  · intro d' i' b blk' hb hg
    rcases hold hb with ⟨rfl, rfl, e1⟩ | ⟨hne, hb'⟩
    · rw [g2] at hg
      cases hg
      exact hlow b e1
    · rw [g3 d' i' hne] at hg
      exact r.low d' i' b blk' hb' hg
  · intro d' i' b hb
    rcases hold hb with ⟨_, _, e1⟩ | ⟨_, hb'⟩
    · exact hlt b e1
    · exact r.lt d' i' b hb'

/-- a block that is now one's own -/
theorem Rel.added {w0 : World} {fb : Gh} {ρ : Env} {tm : List SV} {h h' : Heap} {a : Act} {w : World} (r : Rel w0 fb ρ tm h a w) {d n : Nat} {cs : List Cell} {t : TypeId} {kd : Kd} {l junk : List Value} {g c : Nat}
    (hc : denCs ρ cs = some l) (e : pushB h d ⟨cs, t, kd⟩ = some (h', n)) (hw : w.heap[g]? = some (.cells (l ++ junk).toArray t (0, 0))) (hs : kd = .sl → (l ++ junk).length = c ∧ c ≤ maxLen)
    (hkg : kd.isGs = false) (hlow : w0.heap.size ≤ g ∨ fb g) (hfree : ∀ d i, ρ d i = some g → deadAt h d i) :
    ∃ ρ' : Env, ρ.le ρ' ∧ ρ' d n = some g ∧ ρ'.cap d n = c ∧ Rel w0 fb ρ' tm h' a w := by
  obtain ⟨q1, q2⟩ := r.toHRel.add (po := some g) (c := c) (so := none) e (fun hle => .inr ⟨g, (ρ.with_pos _ _ _ _ _).1, block_lt hw, (fun e => by
      have e : kd = .gs := e
      rw [e] at hkg; cases hkg), .inr ⟨l, junk, denCs_mono hle hc, hw, fun hk => by rw [(ρ.with_pos _ _ _ _ _).2.1]; exact hs hk⟩⟩) (fun g' e => by cases e; exact .inr hlow) (fun g' e => by cases e; exact block_lt hw) (fun g' e d i h => by cases e; exact .inl (hfree d i h))
  exact ⟨_, q1, (ρ.with_pos _ _ _ _ _).1, (ρ.with_pos _ _ _ _ _).2.1, r.of q1 q2⟩

/-- a new block of one's own -/
theorem Rel.made {w0 : World} {fb : Gh} {ρ : Env} {tm : List SV} {h h' : Heap} {a : Act} {w : World} (r : Rel w0 fb ρ tm h a w) {d n : Nat} {cs : List Cell} {t : TypeId} {kd : Kd} {l : List Value}
    (hc : denCs ρ cs = some l) (e : pushB h d ⟨cs, t, kd⟩ = some (h', n)) (hk : kd = .sl → l.length ≤ maxLen) (hkg : kd.isGs = false) :
    ∃ ρ' : Env, ρ.le ρ' ∧ ρ' d n = some w.heap.size ∧ ρ'.cap d n = l.length ∧ Rel w0 fb ρ' tm h' a { w with heap := w.heap.push (.cells l.toArray t) } := by
  have hg : w.grownBy { w with heap := w.heap.push (.cells l.toArray t) } none := ⟨rfl, rfl, rfl, by simp, fun k hk _ => by
    show (w.heap.push _)[k]? = _
    rw [Array.getElem?_push, if_neg (by omega)]⟩
  have r' := r.grown hg (fun b e => by cases e)
  refine r'.added (junk := []) hc e (by simp) (fun h => ⟨by simp, hk h⟩) hkg (.inl r.keep.size) ?_
  exact fun d i hd => absurd (r.lt d i _ hd) (Nat.lt_irrefl _)

/-- a block in another's place -/
theorem HRel.put {w0 : World} {fb : Gh} {ρ : Env} {h : Heap} {w w' : World} (r : HRel w0 fb ρ h w) {d i b : Nat} {blk blk' : Blk} (hg : getB h d i = some blk) (hb : ρ d i = some b) (hw : blk.kd.wr = true ∨ (w' = w ∧ blk.kd ≠ .dead ∧ blk.kd.sees = false))
    (hs : sameBut w w' b) (hh : HoldsAt ρ w' d i blk') : HRel w0 fb ρ (setB h d i blk') w' := by
  obtain ⟨s1, s2, s3, s4, s5⟩ := hs
  have ns : blk.kd.sees = false := by
    rcases hw with q | q
    · cases hk : blk.kd <;> rw [hk] at q <;> first | rfl | cases q
    · exact q.2.2
  have nd : ¬ deadAt h d i := by
    rintro ⟨blk2, q1, q2⟩
    rw [hg] at q1
    cases q1
    rcases hw with q | q
    · rw [q2] at q; cases q
    · exact q.2.1 q2
  have nse : ¬ seesAt h d i := by
    rintro ⟨blk2, q1, q2⟩
    rw [hg] at q1
    cases q1
    rw [ns] at q2
    cases q2
  have hdead : ∀ {d' i'}, deadAt h d' i' → deadAt (setB h d i blk') d' i' := by
    rintro d' i' ⟨blk2, q1, q2⟩
    by_cases hd : d = d' ∧ i = i'
    · obtain ⟨rfl, rfl⟩ := hd
      exact absurd ⟨blk2, q1, q2⟩ nd
    · exact ⟨blk2, by rw [getB_setB hg, if_neg hd]; exact q1, q2⟩
  have hsees : ∀ {d' i'}, seesAt h d' i' → seesAt (setB h d i blk') d' i' := by
    rintro d' i' ⟨blk2, q1, q2⟩
    by_cases hd : d = d' ∧ i = i'
    · obtain ⟨rfl, rfl⟩ := hd
      exact absurd ⟨blk2, q1, q2⟩ nse
    · exact ⟨blk2, by rw [getB_setB hg, if_neg hd]; exact q1, q2⟩
  have oth : ∀ {d' i' b'}, ¬(d = d' ∧ i = i') → ρ d' i' = some b' → b' = b → deadAt h d' i' := by
    rintro d' i' b' hne h1 rfl
    rcases r.inj _ _ _ _ _ hb h1 with q | q | q | q
    · exact absurd q hne
    · exact absurd q nd
    · exact q
    · exact absurd q.1 nse
  refine ⟨?_, ?_, ?_, ?_, ?_, fun d' i' b' e => by rw [s4]; exact r.lt d' i' b' e, r.anc, ?_⟩
  · intro d' i' blk2 hg'
    rw [getB_setB hg] at hg'
    by_cases hd : d = d' ∧ i = i'
    · rw [if_pos hd] at hg'
      obtain ⟨rfl, rfl⟩ := hd
      cases hg'
      exact hh
    · rw [if_neg hd] at hg'
      rcases r.at_ d' i' blk2 hg' with ⟨q, l, v, e1, e2, e3⟩ | ⟨b', h1, h2, h3, h4⟩
      · refine .inl ⟨q, l, v, e1, e2, ?_⟩
        rcases e3 with e3 | ⟨b', pre, junk, fz, p1, p2, p3, p4⟩
        · exact .inl e3
        · refine .inr ⟨b', pre, junk, fz, p1, by rw [s4]; exact p2, ?_, p4⟩
          rw [s5 b' (fun e => by
            obtain ⟨blk3, q1, q2⟩ := oth hd p1 e
            rw [hg'] at q1
            cases q1
            rw [q] at q2
            cases q2)]
          exact p3
      · refine .inr ⟨b', h1, by rw [s4]; exact h2, h3, ?_⟩
        rcases h4 with h4 | ⟨l, junk, e1, e2, e3⟩
        · exact .inl h4
        · by_cases hbb : b' = b
          · obtain ⟨blk3, q1, q2⟩ := oth hd h1 hbb
            rw [hg'] at q1
            cases q1
            exact .inl q2
          · exact .inr ⟨l, junk, e1, by rw [s5 b' hbb]; exact e2, e3⟩
  · intro d' i' b' hb'
    obtain ⟨blk2, e⟩ := r.dom d' i' b' hb'
    rw [getB_setB hg]
    by_cases hd : d = d' ∧ i = i'
    · exact ⟨_, if_pos hd⟩
    · exact ⟨blk2, by rw [if_neg hd]; exact e⟩
  · intro d' i' v hb'
    obtain ⟨blk2, e⟩ := r.doms d' i' v hb'
    rw [getB_setB hg]
    by_cases hd : d = d' ∧ i = i'
    · exact ⟨_, if_pos hd⟩
    · exact ⟨blk2, by rw [if_neg hd]; exact e⟩
  · intro d1 i1 d2 i2 b h1 h2
    rcases r.inj _ _ _ _ _ h1 h2 with q | q | q | ⟨q, q'⟩
    · exact .inl q
    · exact .inr (.inl (hdead q))
    · exact .inr (.inr (.inl (hdead q)))
    · exact .inr (.inr (.inr ⟨hsees q, hsees q'⟩))
  · intro d' i' b' blk2 hb' hg'
    rw [getB_setB hg] at hg'
    by_cases hd : d = d' ∧ i = i'
    · rw [if_pos hd] at hg'
      obtain ⟨rfl, rfl⟩ := hd
      cases hg'
      rcases r.low d i b' blk hb' hg with q | q
      · rw [ns] at q; cases q
      · exact .inr q
    · rw [if_neg hd] at hg'
      exact r.low d' i' b' blk2 hb' hg'
  · have k := r.keep
    refine ⟨s1.trans k.os, s2.trans k.tape, s3.trans k.output, by rw [s4]; exact k.size, fun j hj hn => ?_⟩
    rcases hw with hw | ⟨hw, _⟩
    · rw [s5 j (fun e => by
        rcases r.low d i b blk hb hg with h1 | h1 | h1
        · rw [ns] at h1; cases h1
        · omega
        · exact hn (by rw [e]; exact h1))]
      exact k.block j hj hn
    · rw [hw]; exact k.block j hj hn

theorem sameBut_refl (w : World) (b : Nat) : sameBut w w b := ⟨rfl, rfl, rfl, rfl, fun _ _ => rfl⟩

/-- a row of one's own, handed over -/
theorem HRel.kill {w0 : World} {fb : Gh} {ρ : Env} {h : Heap} {w : World} (r : HRel w0 fb ρ h w) {d i : Nat} {blk : Blk} (hg : getB h d i = some blk) (hk : blk.kd.sees = false) :
    HRel w0 fb ρ (killB h d i) w ∧ deadAt (killB h d i) d i ∧ ∀ d' i', deadAt h d' i' → deadAt (killB h d i) d' i' := by
  have hkb : killB h d i = setB h d i ⟨[], blk.ty, .dead⟩ := by unfold killB; rw [hg]
  rw [hkb]
  have hdead : ∀ {d' i'}, deadAt h d' i' → deadAt (setB h d i ⟨[], blk.ty, .dead⟩) d' i' := by
    rintro d' i' ⟨blk', q1, q2⟩
    by_cases hd : d = d' ∧ i = i'
    · exact ⟨_, by rw [getB_setB hg, if_pos hd], rfl⟩
    · exact ⟨blk', by rw [getB_setB hg, if_neg hd]; exact q1, q2⟩
  have hnow : deadAt (setB h d i ⟨[], blk.ty, .dead⟩) d i := ⟨_, by rw [getB_setB hg, if_pos ⟨rfl, rfl⟩], rfl⟩
  have hgs : blk.kd.isGs = false := by cases hk' : blk.kd <;> rw [hk'] at hk <;> first | rfl | cases hk
  obtain ⟨b, q1, q2, q3⟩ := r.heap d i blk hg hgs
  have hh : HoldsAt ρ w d i ⟨[], blk.ty, .dead⟩ := .inr ⟨b, q1, q2, Kd.noConfusion, .inl rfl⟩
  by_cases hd : blk.kd = .dead
  · refine ⟨?_, hnow, fun _ _ => hdead⟩
    refine ⟨?_, ?_, ?_, ?_, ?_, r.lt, r.anc, r.keep⟩
    · intro d' i' blk2 hg'
      rw [getB_setB hg] at hg'
      by_cases hx : d = d' ∧ i = i'
      · rw [if_pos hx] at hg'
        obtain ⟨rfl, rfl⟩ := hx
        cases hg'
        exact hh
      · rw [if_neg hx] at hg'
        exact r.at_ d' i' blk2 hg'
    · intro d' i' b' hb'
      obtain ⟨blk2, e⟩ := r.dom d' i' b' hb'
      rw [getB_setB hg]
      by_cases hx : d = d' ∧ i = i'
      · exact ⟨_, if_pos hx⟩
      · exact ⟨blk2, by rw [if_neg hx]; exact e⟩
    · intro d' i' b' hb'
      obtain ⟨blk2, e⟩ := r.doms d' i' b' hb'
      rw [getB_setB hg]
      by_cases hx : d = d' ∧ i = i'
      · exact ⟨_, if_pos hx⟩
      · exact ⟨blk2, by rw [if_neg hx]; exact e⟩
    · intro d1 i1 d2 i2 b h1 h2
      rcases r.inj _ _ _ _ _ h1 h2 with q | q | q | ⟨⟨x, y1, y2⟩, ⟨x', z1, z2⟩⟩
      · exact .inl q
      · exact .inr (.inl (hdead q))
      · exact .inr (.inr (.inl (hdead q)))
      · refine .inr (.inr (.inr ⟨⟨x, ?_, y2⟩, ⟨x', ?_, z2⟩⟩))
        · rw [getB_setB hg, if_neg (by rintro ⟨rfl, rfl⟩; rw [hg] at y1; cases y1; rw [hk] at y2; cases y2)]; exact y1
        · rw [getB_setB hg, if_neg (by rintro ⟨rfl, rfl⟩; rw [hg] at z1; cases z1; rw [hk] at z2; cases z2)]; exact z1
    · intro d' i' b' blk2 hb' hg'
      rw [getB_setB hg] at hg'
      by_cases hx : d = d' ∧ i = i'
      · rw [if_pos hx] at hg'
        obtain ⟨rfl, rfl⟩ := hx
        cases hg'
        rcases r.low d i b' blk hb' hg with q | q
        · rw [hk] at q; cases q
        · exact .inr q
      · rw [if_neg hx] at hg'
        exact r.low d' i' b' blk2 hb' hg'
  · exact ⟨r.put hg q1 (.inr ⟨rfl, hd, hk⟩) (sameBut_refl w b) hh, hnow, fun _ _ => hdead⟩

theorem Rel.kill {w0 : World} {fb : Gh} {ρ : Env} {tm : List SV} {h : Heap} {a : Act} {w : World} (r : Rel w0 fb ρ tm h a w) {d i : Nat} {blk : Blk} (hg : getB h d i = some blk) (hk : blk.kd.sees = false) :
    Rel w0 fb ρ tm (killB h d i) a w ∧ deadAt (killB h d i) d i ∧ ∀ d' i', deadAt h d' i' → deadAt (killB h d i) d' i' := by
  obtain ⟨q1, q2, q3⟩ := r.toHRel.kill hg hk
  exact ⟨r.of (Env.le_refl ρ) q1, q2, q3⟩

/-- a block of one's own, written -/
theorem HRel.wrote {w0 : World} {fb : Gh} {ρ : Env} {h : Heap} {w w' : World} (r : HRel w0 fb ρ h w) {d i b : Nat} {blk : Blk} {cs : List Cell} {l l0 junk : List Value}
    (hg : getB h d i = some blk) (hk : blk.kd.wr = true) (hb : ρ d i = some b) (hc : denCs ρ cs = some l) (hw0 : w.heap[b]? = some (.cells (l0 ++ junk).toArray blk.ty (0, 0))) (hl : l.length = l0.length) (hw : w'.heap[b]? = some (.cells (l ++ junk).toArray blk.ty (0, 0))) (hs : sameBut w w' b) :
    HRel w0 fb ρ (setB h d i ⟨cs, blk.ty, blk.kd⟩) w' := by
  refine r.put hg hb (.inl hk) hs (.inr ⟨b, hb, block_lt hw, fun e => ?_, .inr ⟨l, junk, hc, hw, fun hkk => ?_⟩⟩)
  · have e : blk.kd = .gs := e
    rw [e] at hk
    cases hk
  · have hkk : blk.kd = .sl := hkk
    obtain ⟨b', q1, _, q3⟩ := r.heap d i blk hg (wr_gs hk)
    rw [hb] at q1
    cases q1
    rcases q3 with q3 | ⟨l', junk', q4, q5, q6⟩
    · rw [q3] at hk; cases hk
    · have := q6 hkk
      rw [hw0] at q5
      have e := congrArg Array.size (Obj.cells.inj (Option.some.inj q5)).1
      simp only [List.size_toArray] at e
      refine ⟨?_, this.2⟩
      rw [← this.1, ← e]
      simp [hl]
theorem Rel.wrote {w0 : World} {fb : Gh} {ρ : Env} {tm : List SV} {h : Heap} {a : Act} {w w' : World} (r : Rel w0 fb ρ tm h a w) {d i b : Nat} {blk : Blk} {cs : List Cell} {l l0 junk : List Value}
    (hg : getB h d i = some blk) (hk : blk.kd.wr = true) (hb : ρ d i = some b) (hc : denCs ρ cs = some l) (hw0 : w.heap[b]? = some (.cells (l0 ++ junk).toArray blk.ty (0, 0))) (hl : l.length = l0.length) (hw : w'.heap[b]? = some (.cells (l ++ junk).toArray blk.ty (0, 0))) (hs : sameBut w w' b) :
    Rel w0 fb ρ tm (setB h d i ⟨cs, blk.ty, blk.kd⟩) a w' :=
  r.of (Env.le_refl ρ) (r.toHRel.wrote hg hk hb hc hw0 hl hw hs)

theorem okCs_spec {ρ : Env} : ∀ {cs : List Cell} {l : List Value}, okCs cs = true → denCs ρ cs = some l → ∀ v, v ∈ l → isOne v = true
  | [], l, _, e, v, hv => by simp only [denCs] at e; cases e; cases hv
  | c :: cs, l, h, e, v, hv => by
    obtain ⟨u, us, h1, h2, rfl⟩ := denCs_cons e
    simp only [okCs, Bool.and_eq_true] at h
    rcases List.mem_append.1 hv with hm | hm
    · exact okC_spec h.1 h1 v hm
    · exact okCs_spec h.2 h2 v hm

theorem run_loadVar {P : Program} {ρ : Env} {t : TypeId} {cs : List Cell} {off : Nat} {s : SV} {l : List Value} {w : World} {b : Nat} {ty : TypeId} (h : partS P t cs off = some s) (e : denCs ρ cs = some l)
    {junk : List Value} (hb : w.heap[b]? = some (.cells (l ++ junk).toArray ty (0, 0))) : ∃ v, relS ρ s v ∧ (loadVar t ⟨b, off, none⟩).run P w = .ok v w := by
  unfold partS at h
  cases h1 : isAggT P t with
  | none => simp [h1] at h
  | some bb =>
    cases h2 : P.info? t with
    | none => cases bb <;> simp [h1, h2] at h
    | some inf =>
      cases bb with
      | true =>
        simp only [h1, h2] at h
        cases h3 : takeAt cs off inf.size with
        | none => simp [h3] at h
        | some ds =>
          simp only [h3] at h
          cases h
          obtain ⟨m, a1, a2, a3, a4⟩ := takeAt_spec cs off inf.size h3 e
          refine ⟨.agg m.toArray, by simp [relS, denP, a1], ?_⟩
          have := run_load_cells (P := P) hb off inf.size 0 #[] m a2 (fun j hj => by rw [Nat.add_zero, List.getElem?_append_left (by omega)]; exact a4 j hj)
          unfold loadVar
          simp only [Sem.run_bind, run_isAgg h1, Result.andThen_ok, Go.sizeOf, run_typeInfo w h2, Sem.run_pure, if_true, loadCells, this]
          simp
      | false =>
        simp only [h1, h2] at h
        cases h3 : cellAt cs off with
        | none => simp [h3] at h
        | some c =>
          simp only [h3] at h
          cases h
          obtain ⟨v, b1, b2⟩ := cellAt_spec e h3
          refine ⟨v, b2, ?_⟩
          unfold loadVar
          have b1' : (l ++ junk)[off]? = some v := by rw [List.getElem?_append_left (List.getElem?_eq_some_iff.1 b1).1]; exact b1
          simp only [Sem.run_bind, run_isAgg h1, Result.andThen_ok, Bool.false_eq_true, if_false, run_load, cell_in hb, b1']

theorem at_pre {pre l junk : List Value} {k : Nat} (h : k < l.length) : (pre ++ (l ++ junk))[pre.length + k]? = l[k]? := by
  rw [List.getElem?_append_right (by omega), Nat.add_sub_cancel_left, List.getElem?_append_left h]

theorem run_loadG {P : Program} {ρ : Env} {t : TypeId} {cs : List Cell} {off : Nat} {s : SV} {l : List Value} {w : World} {b : Nat} {ty : TypeId} {fz : Nat × Nat} (h : partS P t cs off = some s) (e : denCs ρ cs = some l)
    {pre junk : List Value} (hb : w.heap[b]? = some (.cells (pre ++ (l ++ junk)).toArray ty fz)) : ∃ v, relS ρ s v ∧ (loadVar t ⟨b, pre.length + off, none⟩).run P w = .ok v w := by
  unfold partS at h
  cases h1 : isAggT P t with
  | none => simp [h1] at h
  | some bb =>
    cases h2 : P.info? t with
    | none => cases bb <;> simp [h1, h2] at h
    | some inf =>
      cases bb with
      | true =>
        simp only [h1, h2] at h
        cases h3 : takeAt cs off inf.size with
        | none => simp [h3] at h
        | some ds =>
          simp only [h3] at h
          cases h
          obtain ⟨m, a1, a2, a3, a4⟩ := takeAt_spec cs off inf.size h3 e
          refine ⟨.agg m.toArray, by simp [relS, denP, a1], ?_⟩
          have := run_load_cells (P := P) hb (pre.length + off) inf.size 0 #[] m a2 (fun j hj => by rw [Nat.add_zero, Nat.add_assoc, at_pre (by omega)]; exact a4 j hj)
          unfold loadVar
          simp only [Sem.run_bind, run_isAgg h1, Result.andThen_ok, Go.sizeOf, run_typeInfo w h2, Sem.run_pure, if_true, loadCells, this]
          simp
      | false =>
        simp only [h1, h2] at h
        cases h3 : cellAt cs off with
        | none => simp [h3] at h
        | some c =>
          simp only [h3] at h
          cases h
          obtain ⟨v, b1, b2⟩ := cellAt_spec e h3
          refine ⟨v, b2, ?_⟩
          unfold loadVar
          have b1' : (pre ++ (l ++ junk))[pre.length + off]? = some v := by rw [at_pre (List.getElem?_eq_some_iff.1 b1).1]; exact b1
          simp only [Sem.run_bind, run_isAgg h1, Result.andThen_ok, Bool.false_eq_true, if_false, run_load, cell_in hb, b1']

theorem getG_spec {P : Program} {ρ : Env} {t : TypeId} {off : Nat} {blk : Blk} {sv : SV} {pr : List Prop} {l pre junk : List Value} {w : World} {b : Nat} {ty : TypeId} {fz : Nat × Nat} (e : getG P t off blk = some (sv, pr)) (hp : AllP pr) (hc : denCs ρ blk.cells = some l)
    (hw : w.heap[b]? = some (.cells (pre ++ (l ++ junk)).toArray ty fz)) : ∃ v, relS ρ sv v ∧ (loadVar t ⟨b, pre.length + off, none⟩).run P w = .ok v w := by
  unfold getG at e
  cases hk : blk.kd.isGs with
  | false => rw [hk] at e; cases e
  | true =>
    rw [hk] at e
    simp only [cond_true] at e
    split at e
    · rename_i k x hcells
      split at e
      · rename_i inf h1 h2
        cases e
        have hlt : off < x.length := by simpa [Nat.blt_eq] using hp.1
        rw [hcells] at hc
        simp only [denCs, denC, List.append_nil] at hc
        cases hc
        have hx : (pre ++ (x.map (Value.int k) ++ junk))[pre.length + off]? = some (.int k (x.getD off 0)) := by
          rw [at_pre (by simpa using hlt)]
          simp [List.getD, List.getElem?_eq_getElem hlt]
        refine ⟨.int k (x.getD off 0), rfl, ?_⟩
        unfold loadVar
        simp only [Sem.run_bind, run_isAgg h1, Result.andThen_ok, Bool.false_eq_true, if_false, run_load, cell_in hw, hx]
      · cases e
    · cases h1 : partS P t blk.cells off with
      | none => simp [h1] at e
      | some s =>
        simp only [h1] at e
        cases e
        exact run_loadG h1 hc hw

end Eng
