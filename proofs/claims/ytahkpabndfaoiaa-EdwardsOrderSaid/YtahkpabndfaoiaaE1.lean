/-
A program's operations carried out on values written out: the values, memory's blocks, what they stand for; how rows of cells are read and written.
-/
import Derived.Test.YtahkpabndfaoiaaM4
import Derived.Calls
import Derived.Orders
import Derived.Below
namespace Eng
open Go

/-- a cell, or several in a row: a value; the address of a block of the call's own (its place d, its number i); a digit; the words of a number modulo the prime; its digits of 16 bits; n digits of w bits of a number; whole numbers of a list; a slice: of a block of the call's own, from a place on, so many elements, its capacity (none: the block's), is its length no literal? -/
inductive Cell where
  | val (v : Value)
  | ptr (d i off : Nat)
  | dg1 (k : IntKind) (w x i : Nat)
  | fe (x : Fin Ec.P)
  | nm (x : Fin Ec.P)
  | dig (k : IntKind) (w x n : Nat)
  | arr (k : IntKind) (l : List Int)
  | sli (d i off n : Nat) (c : Option Nat) (sym : Bool)

/-- the digit i, of w bits, of a number -/
def dg (w x i : Nat) : Int := ((x / 2 ^ (w * i) % 2 ^ w : Nat) : Int)

def digL (k : IntKind) (w x n : Nat) : List Value := (List.range n).map fun i => .int k (dg w x i)

/-- how many cells -/
def wid : Cell → Nat
  | .fe _ => 4
  | .nm _ => 16
  | .dig _ _ _ n => n
  | .arr _ l => l.length
  | _ => 1

/-- one by one -/
def expand : Cell → List Cell
  | .fe x => [.dg1 .u64 64 x.val 0, .dg1 .u64 64 x.val 1, .dg1 .u64 64 x.val 2, .dg1 .u64 64 x.val 3]
  | .nm x => (List.range 16).map (.dg1 .u64 16 x.val)
  | .dig k w x n => (List.range n).map (.dg1 k w x)
  | .arr k l => l.map fun n => .val (.int k n)
  | c => [c]

inductive PV where
  | one (c : Cell)
  | agg (cs : List Cell)

inductive SV where
  | any
  | pv (p : PV)
  | tup (ps : List PV)

/-- what a block is: a variable, a slice's own row, what may be read alone, what is no more ours -/
inductive Kd where
  | var | sl | ro | dead
structure Blk where
  cells : List Cell
  ty : TypeId
  kd : Kd

abbrev Heap := List (List Blk)

def getL {α : Type} : List α → Nat → Option α
  | [], _ => none
  | a :: _, 0 => some a
  | _ :: l, n + 1 => getL l n

def setL {α : Type} : List α → Nat → α → List α
  | [], _, _ => []
  | _ :: l, 0, b => b :: l
  | a :: l, n + 1, b => a :: setL l n b

theorem getL_eq {α : Type} : ∀ (l : List α) (n : Nat), getL l n = l[n]?
  | [], _ => by simp [getL]
  | a :: l, 0 => by simp [getL]
  | a :: l, n + 1 => by simp [getL, getL_eq l n]

theorem setL_eq {α : Type} : ∀ (l : List α) (n : Nat) (b : α), setL l n b = l.set n b
  | [], _, _ => by simp [setL]
  | a :: l, 0, b => by simp [setL]
  | a :: l, n + 1, b => by simp [setL, setL_eq l n b]

/-- where the blocks of one's own lie -/
structure Env where
  pos : Nat → Nat → Option Nat
  cap : Nat → Nat → Nat
instance : CoeFun Env (fun _ => Nat → Nat → Option Nat) := ⟨Env.pos⟩

def denC (ρ : Env) : Cell → Option (List Value)
  | .val v => some [v]
  | .ptr d i off => match ρ d i with
    | some b => some [.pointer (some ⟨b, off, none⟩)]
    | none => none
  | .dg1 k w x i => some [.int k (dg w x i)]
  | .fe x => some (digL .u64 64 x.val 4)
  | .nm x => some (digL .u64 16 x.val 16)
  | .dig k w x n => some (digL k w x n)
  | .arr k l => some (l.map (.int k))
  | .sli d i off n c _ => match ρ d i with
    | some b => cond (Nat.ble n (c.getD (ρ.cap d i - off))) (some [.slice (some ⟨b, off, none⟩) n (c.getD (ρ.cap d i - off))]) none
    | none => none

def denCs (ρ : Env) : List Cell → Option (List Value)
  | [] => some []
  | c :: cs => match denC ρ c, denCs ρ cs with
    | some v, some vs => some (v ++ vs)
    | _, _ => none

def denP (ρ : Env) : PV → Option Value
  | .one c => match denC ρ c with
    | some [v] => some v
    | _ => none
  | .agg cs => match denCs ρ cs with
    | some l => some (.agg l.toArray)
    | none => none

def denPs (ρ : Env) : List PV → Option (List Value)
  | [] => some []
  | p :: ps => match denP ρ p, denPs ρ ps with
    | some v, some vs => some (v :: vs)
    | _, _ => none

/-- what is known of a slot -/
def relS (ρ : Env) : SV → Value → Prop
  | .any, _ => True
  | .pv p, v => denP ρ p = some v
  | .tup ps, v => ∃ l, denPs ρ ps = some l ∧ v = .tuple l.toArray

def Env.le (ρ ρ' : Env) : Prop := ∀ d i b, ρ d i = some b → ρ' d i = some b ∧ ρ'.cap d i = ρ.cap d i

theorem Env.le_refl (ρ : Env) : ρ.le ρ := fun _ _ _ h => ⟨h, rfl⟩
theorem Env.le_trans {a b c : Env} (h : a.le b) (k : b.le c) : a.le c := fun d i x e => ⟨(k d i x (h d i x e).1).1, (k d i x (h d i x e).1).2.trans (h d i x e).2⟩

theorem denC_mono {ρ ρ' : Env} (h : ρ.le ρ') {c : Cell} {v : List Value} (e : denC ρ c = some v) : denC ρ' c = some v := by
  cases c with
  | ptr d i off =>
    simp only [denC] at *
    cases hb : ρ d i with
    | none => simp [hb] at e
    | some b => simp only [hb] at e; simp only [(h d i b hb).1]; exact e
  | sli d i off n c sym =>
    simp only [denC] at *
    cases hb : ρ d i with
    | none => simp [hb] at e
    | some b => simp only [hb] at e; simp only [(h d i b hb).1, (h d i b hb).2]; exact e
  | _ => exact e

theorem denCs_cons {ρ : Env} {c : Cell} {cs : List Cell} {l : List Value} (e : denCs ρ (c :: cs) = some l) : ∃ v vs, denC ρ c = some v ∧ denCs ρ cs = some vs ∧ l = v ++ vs := by
  unfold denCs at e
  cases h1 : denC ρ c with
  | none => simp [h1] at e
  | some v =>
    cases h2 : denCs ρ cs with
    | none => simp [h1, h2] at e
    | some vs => simp [h1, h2] at e; exact ⟨v, vs, rfl, rfl, e.symm⟩

theorem denCs_mk {ρ : Env} {c : Cell} {cs : List Cell} {v vs : List Value} (h1 : denC ρ c = some v) (h2 : denCs ρ cs = some vs) : denCs ρ (c :: cs) = some (v ++ vs) := by simp [denCs, h1, h2]

theorem denCs_mono {ρ ρ' : Env} (h : ρ.le ρ') : ∀ {cs : List Cell} {l : List Value}, denCs ρ cs = some l → denCs ρ' cs = some l
  | [], l, e => e
  | c :: cs, l, e => by
    obtain ⟨v, vs, h1, h2, rfl⟩ := denCs_cons e
    exact denCs_mk (denC_mono h h1) (denCs_mono h h2)

theorem denP_one {ρ : Env} {c : Cell} {v : Value} (e : denP ρ (.one c) = some v) : denC ρ c = some [v] := by
  simp only [denP] at e
  split at e
  · rename_i u h; cases e; exact h
  · cases e

theorem denP_one' {ρ : Env} {c : Cell} {v : Value} (e : denC ρ c = some [v]) : denP ρ (.one c) = some v := by simp only [denP, e]

theorem denP_mono {ρ ρ' : Env} (h : ρ.le ρ') {p : PV} {v : Value} (e : denP ρ p = some v) : denP ρ' p = some v := by
  cases p with
  | one c => exact denP_one' (denC_mono h (denP_one e))
  | agg cs =>
    simp only [denP] at *
    cases h1 : denCs ρ cs with
    | none => simp [h1] at e
    | some l => rw [denCs_mono h h1]; simpa [h1] using e

theorem denPs_mono {ρ ρ' : Env} (h : ρ.le ρ') : ∀ {ps : List PV} {l : List Value}, denPs ρ ps = some l → denPs ρ' ps = some l
  | [], l, e => e
  | p :: ps, l, e => by
    unfold denPs at *
    cases h1 : denP ρ p with
    | none => simp [h1] at e
    | some v =>
      cases h2 : denPs ρ ps with
      | none => simp [h1, h2] at e
      | some vs => rw [denP_mono h h1, denPs_mono h h2]; simpa [h1, h2] using e

theorem relS_mono {ρ ρ' : Env} (h : ρ.le ρ') {s : SV} {v : Value} (e : relS ρ s v) : relS ρ' s v := by
  cases s with
  | any => trivial
  | pv p => exact denP_mono h e
  | tup ps => obtain ⟨l, h1, h2⟩ := e; exact ⟨l, denPs_mono h h1, h2⟩

theorem digL_length (k : IntKind) (w x n : Nat) : (digL k w x n).length = n := by simp [digL]

theorem denC_length {ρ : Env} {c : Cell} {l : List Value} (e : denC ρ c = some l) : l.length = wid c := by
  cases c with
  | ptr d i off =>
    simp only [denC] at e
    cases hb : ρ d i with
    | none => simp [hb] at e
    | some b => simp only [hb] at e; cases e; rfl
  | val v => cases e; rfl
  | dg1 k w x i => cases e; rfl
  | fe x => cases e; rfl
  | nm x => cases e; rfl
  | dig k w x n => cases e; exact digL_length _ _ _ _
  | arr k l => cases e; simp [wid]
  | sli d i off n c sym =>
    simp only [denC] at e
    cases hb : ρ d i with
    | none => simp [hb] at e
    | some b =>
      simp only [hb] at e
      cases hc : Nat.ble n (c.getD (ρ.cap d i - off)) with
      | true => rw [hc] at e; cases e; rfl
      | false => rw [hc] at e; cases e

def widS : List Cell → Nat
  | [] => 0
  | c :: cs => wid c + widS cs

theorem denCs_length {ρ : Env} : ∀ {cs : List Cell} {l : List Value}, denCs ρ cs = some l → l.length = widS cs
  | [], l, e => by simp [denCs] at e; subst e; rfl
  | c :: cs, l, e => by
    obtain ⟨v, vs, h1, h2, rfl⟩ := denCs_cons e
    simp [widS, denC_length h1, denCs_length h2]

theorem denCs_append {ρ : Env} : ∀ {cs ds : List Cell} {l m : List Value}, denCs ρ cs = some l → denCs ρ ds = some m → denCs ρ (cs ++ ds) = some (l ++ m)
  | [], ds, l, m, e, e' => by simp [denCs] at e; subst e; simpa using e'
  | c :: cs, ds, l, m, e, e' => by
    obtain ⟨v, vs, h1, h2, rfl⟩ := denCs_cons e
    have := denCs_append h2 e'
    simp [denCs, h1, this]

theorem denCs_digits (ρ : Env) (k : IntKind) (w x : Nat) : ∀ is : List Nat, denCs ρ (is.map (.dg1 k w x)) = some (is.map fun i => .int k (dg w x i))
  | [] => rfl
  | i :: is => by simp [denCs, denC, denCs_digits ρ k w x is]

theorem denCs_one {ρ : Env} {c : Cell} {v : List Value} (e : denC ρ c = some v) : denCs ρ [c] = some v := by simp [denCs, e]

theorem denCs_ints (ρ : Env) (k : IntKind) : ∀ l : List Int, denCs ρ (l.map fun n => Cell.val (.int k n)) = some (l.map (.int k))
  | [] => rfl
  | n :: l => by simp [denCs, denC, denCs_ints ρ k l]

theorem denCs_expand {ρ : Env} {c : Cell} {l : List Value} (e : denC ρ c = some l) : denCs ρ (expand c) = some l := by
  cases c with
  | fe x => rw [← e]; rfl
  | nm x => simp only [denC] at e; cases e; exact denCs_digits ρ _ _ _ _
  | dig k w x n => simp only [denC] at e; cases e; exact denCs_digits ρ _ _ _ _
  | val v => exact denCs_one e
  | ptr d i off => exact denCs_one e
  | dg1 k w x i => exact denCs_one e
  | arr k l => simp only [denC] at e; cases e; exact denCs_ints ρ k l
  | sli d i off n c sym => exact denCs_one e

/-- cells of one each -/
def flat1 (cs : List Cell) : Prop := ∀ c ∈ cs, wid c = 1

theorem expand_flat (c : Cell) : flat1 (expand c) := by
  cases c with
  | fe x => intro c hc; simp [expand] at hc; rcases hc with rfl | rfl | rfl | rfl <;> rfl
  | nm x => intro c hc; simp only [expand, List.mem_map] at hc; obtain ⟨i, _, rfl⟩ := hc; rfl
  | dig k w x n => intro c hc; simp only [expand, List.mem_map] at hc; obtain ⟨i, _, rfl⟩ := hc; rfl
  | val v => intro c hc; simp [expand] at hc; subst hc; rfl
  | ptr d i off => intro c hc; simp [expand] at hc; subst hc; rfl
  | dg1 k w x i => intro c hc; simp [expand] at hc; subst hc; rfl
  | arr k l => intro c hc; simp only [expand, List.mem_map] at hc; obtain ⟨i, _, rfl⟩ := hc; rfl
  | sli d i off n c sym => intro c hc; simp [expand] at hc; subst hc; rfl

theorem flat_take {ρ : Env} : ∀ {cs : List Cell} {l : List Value} (k : Nat), flat1 cs → denCs ρ cs = some l → denCs ρ (cs.take k) = some (l.take k) ∧ denCs ρ (cs.drop k) = some (l.drop k)
  | [], l, k, _, e => by simp [denCs] at e; subst e; simp [denCs]
  | c :: cs, l, 0, _, e => by simp [denCs, e]
  | c :: cs, l, k + 1, hf, e => by
    obtain ⟨v, vs, h1, h2, rfl⟩ := denCs_cons e
    have hl := denC_length h1
    rw [hf c (by simp)] at hl
    obtain ⟨a, b⟩ := flat_take (ρ := ρ) (cs := cs) k (fun c hc => hf c (by simp [hc])) h2
    match v, hl with
    | [u], _ => simp [denCs, h1, a, b]

/-- the first k cells, and the others -/
def cut : List Cell → Nat → Option (List Cell × List Cell)
  | cs, 0 => some ([], cs)
  | [], _ + 1 => none
  | c :: cs, k + 1 => cond (Nat.ble (wid c) (k + 1)) (match cut cs (k + 1 - wid c) with
      | some (a, b) => some (c :: a, b)
      | none => none) (some ((expand c).take (k + 1), (expand c).drop (k + 1) ++ cs))

theorem cut_spec {ρ : Env} : ∀ (cs : List Cell) (k : Nat) {a b : List Cell} {l : List Value}, cut cs k = some (a, b) → denCs ρ cs = some l →
    denCs ρ a = some (l.take k) ∧ denCs ρ b = some (l.drop k) ∧ k ≤ l.length
  | cs, 0, a, b, l, h, e => by
    have : cut cs 0 = some ([], cs) := by cases cs <;> rfl
    rw [this] at h
    cases h
    exact ⟨rfl, by simpa using e, by omega⟩
  | [], k + 1, a, b, l, h, _ => by simp [cut] at h
  | c :: cs, k + 1, a, b, l, h, e => by
    obtain ⟨v, vs, h1, h2, rfl⟩ := denCs_cons e
    have hl := denC_length h1
    simp only [cut] at h
    by_cases hb : Nat.ble (wid c) (k + 1) = true
    · rw [hb] at h
      simp only [cond_true] at h
      have hle := Nat.le_of_ble_eq_true hb
      cases h3 : cut cs (k + 1 - wid c) with
      | none => simp [h3] at h
      | some ab =>
        obtain ⟨a', b'⟩ := ab
        simp only [h3] at h
        cases h
        obtain ⟨p, q, r⟩ := cut_spec cs (k + 1 - wid c) h3 h2
        refine ⟨?_, ?_, by simp; omega⟩
        · have ht : List.take (k + 1) v = v := List.take_of_length_le (by omega)
          rw [denCs_mk h1 p, List.take_append, ht, hl]
        · have ht : List.drop (k + 1) v = [] := List.drop_eq_nil_of_le (by omega)
          rw [q, List.drop_append, ht, hl]; rfl
    · rw [Bool.eq_false_iff.2 hb] at h
      simp only [cond_false] at h
      cases h
      have hgt : k + 1 < wid c := by
        rcases Nat.lt_or_ge (k + 1) (wid c) with h4 | h4
        · exact h4
        · exact absurd (Nat.ble_eq_true_of_le h4) hb
      obtain ⟨p, q⟩ := flat_take (k + 1) (expand_flat c) (denCs_expand h1)
      refine ⟨?_, ?_, by simp; omega⟩
      · rw [p, List.take_append_of_le_length (by omega)]
      · rw [denCs_append q h2, List.drop_append_of_le_length (by omega)]

/-- so many cells, from a place on -/
def takeAt (cs : List Cell) (k n : Nat) : Option (List Cell) :=
  match cut cs k with
  | some (_, b) => match cut b n with
    | some (m, _) => some m
    | none => none
  | none => none

/-- cells put in the place of others, from a place on -/
def putAt (cs : List Cell) (k : Nat) (ds : List Cell) : Option (List Cell) :=
  match cut cs k with
  | some (a, b) => match cut b (widS ds) with
    | some (_, c) => some (a ++ (ds ++ c))
    | none => none
  | none => none

theorem takeAt_spec {ρ : Env} (cs : List Cell) (k n : Nat) {ds : List Cell} {l : List Value} (h : takeAt cs k n = some ds) (e : denCs ρ cs = some l) :
    ∃ m, denCs ρ ds = some m ∧ m.length = n ∧ k + n ≤ l.length ∧ ∀ j, j < n → l[k + j]? = m[j]? := by
  unfold takeAt at h
  cases h1 : cut cs k with
  | none => simp [h1] at h
  | some ab =>
    obtain ⟨a, b⟩ := ab
    simp only [h1] at h
    cases h2 : cut b n with
    | none => simp [h2] at h
    | some mb =>
      obtain ⟨m, b'⟩ := mb
      simp only [h2] at h
      cases h
      obtain ⟨p1, p2, p3⟩ := cut_spec cs k h1 e
      obtain ⟨q1, q2, q3⟩ := cut_spec b n h2 p2
      simp at q3
      refine ⟨_, q1, by simp; omega, by omega, fun j hj => ?_⟩
      rw [List.getElem?_take, if_pos hj, List.getElem?_drop]

/-- a list with others' values from a place on -/
def spl {α : Type} (l : List α) (k : Nat) : List α → List α
  | [] => l
  | v :: vs => spl (l.set k v) (k + 1) vs

theorem spl_length {α : Type} : ∀ (vs l : List α) (k : Nat), (spl l k vs).length = l.length
  | [], l, k => rfl
  | v :: vs, l, k => by simp [spl, spl_length vs]

theorem spl_eq {α : Type} : ∀ (vs l : List α) (k : Nat), k + vs.length ≤ l.length → spl l k vs = l.take k ++ (vs ++ l.drop (k + vs.length))
  | [], l, k, _ => by simp [spl]
  | v :: vs, l, k, h => by
    simp at h
    rw [spl, spl_eq vs (l.set k v) (k + 1) (by simp; omega)]
    apply List.ext_getElem?
    intro j
    have hk : k < l.length := by omega
    simp only [List.getElem?_append, List.getElem?_take, List.getElem?_drop, List.getElem?_set, List.length_take, List.length_set, List.length_cons, List.getElem?_cons]
    have m1 : min (k + 1) l.length = k + 1 := by omega
    have m2 : min k l.length = k := by omega
    rw [m1, m2]
    by_cases h1 : j < k
    · rw [if_pos (by omega), if_pos (by omega), if_pos h1, if_pos h1, if_neg (by omega)]
    · by_cases h2 : j = k
      · subst h2
        rw [if_pos (by omega), if_pos (by omega), if_neg h1, if_pos (by omega)]
        simp [hk]
      · rw [if_neg (by omega), if_neg h1]
        by_cases h3 : j - (k + 1) < vs.length
        · rw [if_pos h3, if_pos (by omega), if_neg (by omega)]
          congr 1
        · rw [if_neg h3, if_neg (by omega), if_neg (by omega)]
          congr 1
          omega

theorem putAt_spec {ρ : Env} (cs : List Cell) (k : Nat) (ds : List Cell) {es : List Cell} {l m : List Value} (h : putAt cs k ds = some es) (e : denCs ρ cs = some l) (e' : denCs ρ ds = some m) :
    denCs ρ es = some (spl l k m) ∧ k + m.length ≤ l.length := by
  unfold putAt at h
  cases h1 : cut cs k with
  | none => simp [h1] at h
  | some ab =>
    obtain ⟨a, b⟩ := ab
    simp only [h1] at h
    cases h2 : cut b (widS ds) with
    | none => simp [h2] at h
    | some mb =>
      obtain ⟨x, c⟩ := mb
      simp only [h2] at h
      cases h
      obtain ⟨p1, p2, p3⟩ := cut_spec cs k h1 e
      obtain ⟨q1, q2, q3⟩ := cut_spec b (widS ds) h2 p2
      have hm := denCs_length e'
      simp at q3
      refine ⟨?_, by omega⟩
      rw [spl_eq m l k (by omega), denCs_append p1 (denCs_append e' q2), List.drop_drop, hm]

/-- is it the value of one cell? -/
def isOne : Value → Bool
  | .agg _ => false
  | .tuple _ => false
  | _ => true

/-- rows of cells in memory -/
theorem cell_in {w : World} {b : Nat} {l : List Value} {t : TypeId} {fr : Nat × Nat} (h : w.heap[b]? = some (.cells l.toArray t fr)) (k : Nat) : w.cell? ⟨b, k, none⟩ = l[k]? := by
  simp [World.cell?, h]

theorem add_none (b k n : Nat) : (⟨b, k, none⟩ : Addr).add n = ⟨b, k + n, none⟩ := by
  unfold Addr.add
  split
  · subst_vars; rfl
  · rfl

theorem run_load_cells {P : Program} {w : World} {b : Nat} {l : List Value} {t : TypeId} {fr : Nat × Nat} (h : w.heap[b]? = some (.cells l.toArray t fr)) (k : Nat) :
    ∀ (n i : Nat) (acc : Array Value) (m : List Value), m.length = n → (∀ j, j < n → l[k + i + j]? = m[j]?) →
      (loadCellsFrom ⟨b, k, none⟩ i n acc).run P w = .ok (acc ++ m.toArray) w := by
  intro n
  induction n with
  | zero =>
    intro i acc m hm _
    have : m = [] := by simpa using hm
    subst this
    simp [loadCellsFrom, pure]
  | succ n ih =>
    intro i acc m hm hj
    cases m with
    | nil => simp at hm
    | cons v m =>
      have h0 := hj 0 (by omega)
      have hc : w.cell? ⟨b, k + i, none⟩ = some v := by rw [cell_in h]; simpa using h0
      have := ih (i + 1) (acc.push v) m (by simpa using hm) (fun j hlt => by
        have := hj (j + 1) (by omega)
        rw [show k + (i + 1) + j = k + i + (j + 1) from by omega, this]; simp)
      simp only [loadCellsFrom, add_none, load, bind, Sem.bind, Sem.run, hc, this]
      simp

def sameBut (w w' : World) (b : Nat) : Prop :=
  w'.os = w.os ∧ w'.tape = w.tape ∧ w'.output = w.output ∧ w'.heap.size = w.heap.size ∧ ∀ k, k ≠ b → w'.heap[k]? = w.heap[k]?

theorem spl_app {α : Type} : ∀ (vs l m : List α) (k : Nat), k + vs.length ≤ l.length → spl (l ++ m) k vs = spl l k vs ++ m
  | [], l, m, k, _ => rfl
  | v :: vs, l, m, k, h => by
    simp only [List.length_cons] at h
    simp only [spl]
    rw [List.set_append_left _ _ (by omega), spl_app vs (l.set k v) m (k + 1) (by simp; omega)]

theorem run_store_cells {P : Program} {b : Nat} {t : TypeId} (k : Nat) :
    ∀ (vs : List Value) (i : Nat) (l : List Value) (w : World), w.heap[b]? = some (.cells l.toArray t (0, 0)) → k + i + vs.length ≤ l.length → (∀ v, v ∈ vs → isOne v = true) →
      ∃ w', (storeCells ⟨b, k, none⟩ vs i).run P w = .ok () w' ∧ w'.heap[b]? = some (.cells (spl l (k + i) vs).toArray t (0, 0)) ∧ sameBut w w' b := by
  intro vs
  induction vs with
  | nil =>
    intro i l w h _ _
    exact ⟨w, by simp [storeCells, pure], h, rfl, rfl, rfl, rfl, fun _ _ => rfl⟩
  | cons v vs ih =>
    intro i l w h hle hone
    have hlt : b < w.heap.size := by
      rcases Nat.lt_or_ge b w.heap.size with h1 | h1
      · exact h1
      · simp [Array.getElem?_eq_none h1] at h
    have hc : ∃ x, w.cell? ⟨b, k + i, none⟩ = some x := by
      rw [cell_in h]
      have : k + i < l.length := by simp at hle; omega
      exact ⟨_, List.getElem?_eq_getElem this⟩
    obtain ⟨x, hc⟩ := hc
    have hf : w.frozen? ⟨b, k + i, none⟩ = false := by simp [World.frozen?, h]
    have h' : (w.setCell ⟨b, k + i, none⟩ v).heap[b]? = some (.cells (l.set (k + i) v).toArray t (0, 0)) := by
      have hg : w.heap[b] = .cells l.toArray t (0, 0) := by
        rw [Array.getElem?_eq_getElem hlt] at h
        exact Option.some.inj h
      simp [World.setCell, Array.getElem?_modify, h]
    obtain ⟨w', e1, e2, e3⟩ := ih (i + 1) (l.set (k + i) v) (w.setCell ⟨b, k + i, none⟩ v) h' (by simp at hle ⊢; omega) (fun u hu => hone u (by simp [hu]))
    refine ⟨w', ?_, ?_, ?_⟩
    · have h1 := hone v (by simp)
      simp only [storeCells, add_none, store, bind, Sem.bind]
      cases v <;> first | (simp [isOne] at h1; done) | (simp only [Sem.run, hc, hf]; exact e1)
    · rw [show k + (i + 1) = k + i + 1 from by omega] at e2
      exact e2
    · obtain ⟨a1, a2, a3, a4, a5⟩ := e3
      refine ⟨a1.trans rfl, a2.trans rfl, a3.trans rfl, a4.trans (by simp [World.setCell]), fun j hj => ?_⟩
      rw [a5 j hj]
      simp only [World.setCell, Array.getElem?_modify]
      rw [if_neg (fun e => hj e.symm)]

end Eng
