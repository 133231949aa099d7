/-
A program's operations carried out on values written out: '==' of whatever plain values; parts of arrays and structs.
-/
import Derived.Test.YtahkpabndfaoiaaE2
import Derived.Laws.StructEq
import Derived.ChangeKeysEq
namespace Eng
open Go

def cellVal : Cell → Option (List Value)
  | .val v => some [v]
  | .ptr _ _ _ => none
  | .dg1 k w x i => some [.int k (dg w x i)]
  | .fe x => some (digL .u64 64 x.val 4)
  | .nm x => some (digL .u64 16 x.val 16)
  | .dig k w x n => some (digL k w x n)
  | .arr k l => some (l.map (.int k))
  | .sli _ _ _ _ _ _ => none

def cellVals : List Cell → Option (List Value)
  | [] => some []
  | c :: cs => match cellVal c, cellVals cs with
    | some v, some vs => some (v ++ vs)
    | _, _ => none

def PV.val? : PV → Option Value
  | .one c => match cellVal c with
    | some [v] => some v
    | _ => none
  | .agg cs => match cellVals cs with
    | some l => some (.agg l.toArray)
    | none => none

theorem cellVal_spec {ρ : Env} {c : Cell} {v : List Value} (h : cellVal c = some v) : denC ρ c = some v := by
  cases c <;> simp only [cellVal] at h <;> first | (cases h; done) | exact h

theorem cellVals_spec {ρ : Env} : ∀ {cs : List Cell} {l : List Value}, cellVals cs = some l → denCs ρ cs = some l
  | [], l, h => by simpa [cellVals, denCs] using h
  | c :: cs, l, h => by
    unfold cellVals at h
    cases h1 : cellVal c with
    | none => simp [h1] at h
    | some v =>
      cases h2 : cellVals cs with
      | none => simp [h1, h2] at h
      | some vs => simp [h1, h2] at h; subst h; simp [denCs, cellVal_spec h1, cellVals_spec h2]

theorem PV.val?_den {ρ : Env} {p : PV} {v : Value} (h : p.val? = some v) : denP ρ p = some v := by
  cases p with
  | one c =>
    simp only [PV.val?] at h
    split at h
    · rename_i u e; cases h; exact denP_one' (cellVal_spec e)
    · cases h
  | agg cs =>
    simp only [PV.val?] at h
    cases h1 : cellVals cs with
    | none => simp [h1] at h
    | some l => simp [h1] at h; subst h; simp [denP, cellVals_spec h1]

theorem PV.val?_spec {ρ : Env} {p : PV} {v u : Value} (h : p.val? = some v) (r : relS ρ (.pv p) u) : u = v := by
  have := PV.val?_den (ρ := ρ) h
  simp only [relS, this] at r
  exact (Option.some.inj r).symm

def allB {α : Type} (f : α → Option Bool) : List α → Option Bool
  | [] => some true
  | a :: l => match f a, allB f l with
    | some x, some y => some (x && y)
    | _, _ => none

/-- is a type's value one of several cells? -/
def isAggT (P : Program) (t : TypeId) : Option Bool :=
  match P.underlying t with
  | some (.struct _) => some true
  | some (.array _ _) => some true
  | some _ => some false
  | none => none

def partV (P : Program) (t : TypeId) (cs : List Value) (off : Nat) : Option Value :=
  match isAggT P t, P.info? t with
  | some true, some i => some (.agg (cs.toArray.extract off (off + i.size)))
  | some false, some _ => cs[off]?
  | _, _ => none

theorem run_isAgg {P : Program} {t : TypeId} {b : Bool} (h : isAggT P t = some b) (w : World) : (isAgg t).run P w = .ok b w := by
  unfold isAggT at h
  cases hu : P.underlying t with
  | none => simp [hu] at h
  | some d =>
    simp only [hu] at h
    unfold isAgg
    simp only [Sem.run_bind, run_underlying hu, Result.andThen_ok]
    cases d <;> simp_all

theorem run_part {P : Program} {t : TypeId} {cs : List Value} {off : Nat} {v : Value} (h : partV P t cs off = some v) (w : World) : (part t cs.toArray off).run P w = .ok v w := by
  unfold partV at h
  cases ha : isAggT P t with
  | none => simp [ha] at h
  | some b =>
    cases hi : P.info? t with
    | none => cases b <;> simp [ha, hi] at h
    | some i =>
      unfold part
      simp only [Sem.run_bind, run_isAgg ha, Result.andThen_ok]
      cases b with
      | true =>
        simp only [ha, hi] at h
        cases h
        simp [Go.sizeOf, run_typeInfo w hi]
      | false =>
        simp only [ha, hi] at h
        simp only [Bool.false_eq_true, if_false, List.getElem?_toArray]
        cases hc : cs[off]? with
        | none => rw [hc] at h; cases h
        | some u => rw [hc] at h; cases h; rfl

/-- are two values the same? -/
def eqAt (P : Program) : Nat → TypeId → Value → Value → Option Bool
  | 0, _, _, _ => none
  | d + 1, t, x, y =>
    match P.underlying t, x, y with
    | some (.int _), .int k a, .int k' b => cond (ikEq k k') (some (a == b)) none
    | some .bool, .bool a, .bool b => some (a == b)
    | some .string, .string a, .string b => some (a.toList == b.toList)
    | some (.array n e), .agg xs, .agg ys => match P.info? e with
      | none => none
      | some _ => allB (fun i => match partV P e xs.toList (i * P.cellsOf e), partV P e ys.toList (i * P.cellsOf e) with
        | some a, some b => eqAt P d e a b
        | _, _ => none) (List.range n)
    | some (.struct fs), .agg xs, .agg ys => cond (P.stoodInHeld t) none (allB (fun (f : Field) => match partV P f.type xs.toList f.offset, partV P f.type ys.toList f.offset with
        | some a, some b => cond (f.name == "_") none (eqAt P d f.type a b)
        | _, _ => none) fs.toList)
    | _, _, _ => none

theorem info_some {P : Program} {t : TypeId} {d : TypeDesc} (h : P.underlying t = some d) : ∃ i, P.info? t = some i := info_of_underlying h

theorem eqAt_spec {P : Program} (D : Nat) : ∀ (d : Nat) (t : TypeId) (x y : Value) (r : Bool), eqAt P d t x y = some r → ∀ w : World, (Op.equalIn (D + d) t x y).run P w = .ok r w := by
  intro d
  induction d with
  | zero => intro t x y r h; simp [eqAt] at h
  | succ d ih =>
    intro t x y r h w
    rw [show D + (d + 1) = (D + d) + 1 from rfl]
    unfold eqAt at h
    split at h
    · rename_i k k' a k'' b hu
      by_cases hk : k' = k''
      · subst hk
        simp only [ikEq, decide_true, cond_true] at h
        cases h
        exact run_equalIn_int w (D + d) t k' k a b hu
      · simp [ikEq, hk] at h
    · rename_i a b hu
      cases h
      exact run_equalIn_bool' w (D + d) t a b hu
    · rename_i a b hu
      cases h
      exact run_equalIn_string w (D + d) t a b hu
    · rename_i n e xs ys hu
      cases hie : P.info? e with
      | none => simp [hie] at h
      | some i =>
        simp only [hie] at h
        rw [run_equalIn_array w (D + d) xs ys hu hie]
        generalize List.range n = is at h
        induction is generalizing r w with
        | nil => simp only [allB] at h; cases h; simp [Op.eqItems]
        | cons j is ihl =>
          simp only [allB] at h
          cases h1 : partV P e xs.toList (j * P.cellsOf e) with
          | none => simp [h1] at h
          | some a =>
            cases h2 : partV P e ys.toList (j * P.cellsOf e) with
            | none => simp [h1, h2] at h
            | some b =>
              simp only [h1, h2] at h
              cases h3 : eqAt P d e a b with
              | none => simp [h3] at h
              | some rr =>
                simp only [h3] at h
                split at h
                · rename_i x' y' e1 e2
                  cases e1
                  cases h
                  have p1 := run_part h1 w
                  have p2 := run_part h2 w
                  simp only [Array.toArray_toList] at p1 p2
                  have hr := ihl _ w e2
                  simp only [Op.eqItems, Sem.run_bind, p1, p2, Result.andThen_ok, ih _ _ _ _ h3]
                  cases rr
                  · simp
                  · simpa using hr
                · cases h
    · rename_i fs xs ys hu
      by_cases hp : P.stoodInHeld t = true
      · simp [hp] at h
      · have hp' : P.stoodInHeld t = false := by simpa using hp
        simp only [hp', cond_false] at h
        have hf : P.fieldsOf t = fs := by simp [Program.fieldsOf, hu]
        rw [run_equalIn_struct w (D + d) t xs ys (by rw [hf]; exact hu) hp', hf]
        generalize fs.toList = l at h
        induction l generalizing r w with
        | nil => simp only [allB] at h; cases h; simp [Op.eqFields]
        | cons f l ihl =>
          simp only [allB] at h
          cases h1 : partV P f.type xs.toList f.offset with
          | none => simp [h1] at h
          | some a =>
            cases h2 : partV P f.type ys.toList f.offset with
            | none => simp [h1, h2] at h
            | some b =>
              simp only [h1, h2] at h
              by_cases hn : f.name = "_"
              · simp [hn] at h
              · have hn' : (f.name == "_") = false := by simpa using hn
                simp only [hn', cond_false] at h
                cases h3 : eqAt P d f.type a b with
                | none => simp [h3] at h
                | some rr =>
                  simp only [h3] at h
                  split at h
                  · rename_i x' y' e1 e2
                    cases e1
                    cases h
                    have p1 := run_part h1 w
                    have p2 := run_part h2 w
                    simp only [Array.toArray_toList] at p1 p2
                    have hr := ihl _ w e2
                    simp only [Op.eqFields, ne_eq, hn, not_false_eq_true, if_true, Sem.run_bind, p1, p2, Result.andThen_ok, ih _ _ _ _ h3]
                    cases rr
                    · simp
                    · simpa using hr
                  · cases h
    · cases h

end Eng
