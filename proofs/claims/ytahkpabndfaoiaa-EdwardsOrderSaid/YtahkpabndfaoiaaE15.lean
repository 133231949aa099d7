/-
A program's operations carried out on values written out: functions that take or give slices, and loops gone through from place to place.
-/
import Derived.Test.YtahkpabndfaoiaaE14
namespace Eng
open Go Go.RowKit

/-- does a cell tell of no block that lies at such a place? -/
def freeC (bad : Nat → Bool) : Cell → Bool
  | .ptr d _ _ => !bad d
  | .sli d _ _ _ _ _ => !bad d
  | _ => true
def freeCs (bad : Nat → Bool) : List Cell → Bool
  | [] => true
  | c :: cs => freeC bad c && freeCs bad cs
def freeP (bad : Nat → Bool) (p : PV) : Bool := freeCs bad p.cells
def freePs (bad : Nat → Bool) : List PV → Bool
  | [] => true
  | p :: ps => freeP bad p && freePs bad ps
def freeS (bad : Nat → Bool) : SV → Bool
  | .any => true
  | .pv p => freeP bad p
  | .tup ps => freePs bad ps
def freeT (bad : Nat → Bool) (skip : Nat) : Nat → List SV → Bool
  | _, [] => true
  | i, s :: l => (Nat.beq i skip || freeS bad s) && freeT bad skip (i + 1) l
def freeB (bad : Nat → Bool) : List Blk → Bool
  | [] => true
  | b :: l => freeCs bad b.cells && freeB bad l
def freeH (bad : Nat → Bool) : Heap → Bool
  | [] => true
  | l :: h => freeB bad l && freeH bad h

section
variable {ρ ρ' : Env} {bad : Nat → Bool} (hag : ∀ d, bad d = false → ∀ i, ρ' d i = ρ d i ∧ ρ'.cap d i = ρ.cap d i)
include hag

theorem denC_agree {c : Cell} (h : freeC bad c = true) : denC ρ' c = denC ρ c := by
  cases c with
  | ptr d i off =>
    have hb : bad d = false := by simpa [freeC] using h
    simp only [denC, (hag d hb i).1]
  | sli d i off n c sym =>
    have hb : bad d = false := by simpa [freeC] using h
    simp only [denC, (hag d hb i).1, (hag d hb i).2]
  | _ => rfl
theorem denCs_agree : ∀ {cs : List Cell}, freeCs bad cs = true → denCs ρ' cs = denCs ρ cs
  | [], _ => rfl
  | c :: cs, h => by
    simp only [freeCs, Bool.and_eq_true] at h
    simp only [denCs, denC_agree hag h.1, denCs_agree h.2]
theorem denP_agree {p : PV} (h : freeP bad p = true) : denP ρ' p = denP ρ p := by
  cases p with
  | one c =>
    simp only [freeP, PV.cells, freeCs, Bool.and_true] at h
    simp only [denP, denC_agree hag h]
  | agg cs =>
    have hcs : freeCs bad cs = true := h
    simp only [denP, denCs_agree hag hcs]
theorem denPs_agree : ∀ {ps : List PV}, freePs bad ps = true → denPs ρ' ps = denPs ρ ps
  | [], _ => rfl
  | p :: ps, h => by
    simp only [freePs, Bool.and_eq_true] at h
    simp only [denPs, denP_agree hag h.1, denPs_agree h.2]
theorem relS_agree {s : SV} {v : Value} (h : freeS bad s = true) (r : relS ρ s v) : relS ρ' s v := by
  cases s with
  | any => trivial
  | pv p => show denP ρ' p = some v; rw [denP_agree hag h]; exact r
  | tup ps => obtain ⟨l, h1, h2⟩ := r; exact ⟨l, by rw [denPs_agree hag h]; exact h1, h2⟩
end

theorem freeT_get {bad : Nat → Bool} {skip : Nat} : ∀ {l : List SV} {i t : Nat} {s : SV}, freeT bad skip i l = true → getL l t = some s → i + t ≠ skip → freeS bad s = true
  | [], i, t, s, _, h, _ => by simp [getL] at h
  | x :: l, i, 0, s, hf, h, hne => by
    simp only [freeT, Bool.and_eq_true, Bool.or_eq_true] at hf
    simp only [getL, Option.some.injEq] at h
    subst h
    rcases hf.1 with h1 | h1
    · exact absurd (Nat.eq_of_beq_eq_true h1) hne
    · exact h1
  | x :: l, i, t + 1, s, hf, h, hne => by
    simp only [freeT, Bool.and_eq_true] at hf
    exact freeT_get hf.2 (by simpa [getL] using h) (by omega)

theorem freeB_get {bad : Nat → Bool} : ∀ {l : List Blk} {i : Nat} {b : Blk}, freeB bad l = true → getL l i = some b → freeCs bad b.cells = true
  | [], i, b, _, h => by simp [getL] at h
  | x :: l, 0, b, hf, h => by
    simp only [freeB, Bool.and_eq_true] at hf
    simp only [getL, Option.some.injEq] at h
    subst h
    exact hf.1
  | x :: l, i + 1, b, hf, h => by
    simp only [freeB, Bool.and_eq_true] at hf
    exact freeB_get hf.2 (by simpa [getL] using h)
theorem freeH_get {bad : Nat → Bool} : ∀ {h : Heap} {d : Nat} {l : List Blk}, freeH bad h = true → getL h d = some l → freeB bad l = true
  | [], d, l, _, h => by simp [getL] at h
  | x :: h, 0, l, hf, e => by
    simp only [freeH, Bool.and_eq_true] at hf
    simp only [getL, Option.some.injEq] at e
    subst e
    exact hf.1
  | x :: h, d + 1, l, hf, e => by
    simp only [freeH, Bool.and_eq_true] at hf
    exact freeH_get hf.2 (by simpa [getL] using e)
theorem freeH_blk {bad : Nat → Bool} {h : Heap} {d i : Nat} {b : Blk} (hf : freeH bad h = true) (e : getB h d i = some b) : freeCs bad b.cells = true := by
  unfold getB at e
  cases hl : getL h d with
  | none => simp [hl] at e
  | some l => simp only [hl] at e; exact freeB_get (freeH_get hf hl) e

/-- whole numbers as one list -/
def normC (cs : List Cell) : List Cell := match decInts .u64 cs with
  | some l => [.arr .u64 l]
  | none => match decInts .u8 cs with
    | some l => [.arr .u8 l]
    | none => cs
theorem normC_den {ρ : Env} (cs : List Cell) : denCs ρ (normC cs) = denCs ρ cs := by
  unfold normC
  cases h : decInts .u64 cs with
  | some l => simp only []; rw [decInts_spec h]; simp [denCs, denC]
  | none =>
    simp only []
    cases h' : decInts .u8 cs with
    | some l => simp only []; rw [decInts_spec h']; simp [denCs, denC]
    | none => rfl
/-- the slice of a slot, with its row, at the slot's own place -/
def rebase (t : Nat) (st : St) : Option St :=
  match getL st.tmps t with
  | some (.pv (.one (.sli d i 0 n none _))) => match getB st.heap d i with
    | some blk => match blk.kd with
      | .sl => cond (Nat.blt t st.heap.length && freeT (fun x => Nat.beq x d || Nat.beq x t) t 0 st.tmps && freeH (fun x => Nat.beq x d || Nat.beq x t) (setL (setL st.heap d []) t [blk]))
          (some ⟨setL st.tmps t (.pv (.one (.sli t 0 0 n none true))), setL (setL st.heap d []) t [⟨normC blk.cells, blk.ty, .sl⟩]⟩) none
      | _ => none
    | none => none
  | _ => none

/-- blocks that nobody knows of are forgotten -/
def drop (d : Nat) (st : St) : Option St :=
  cond (freeT (fun x => Nat.beq x d) st.tmps.length 0 st.tmps && freeH (fun x => Nat.beq x d) (setL st.heap d [])) (some ⟨st.tmps, setL st.heap d []⟩) none

theorem getB_clear (h : Heap) (d d' i' : Nat) : getB (setL h d []) d' i' = if d = d' then none else getB h d' i' := by
  unfold getB
  rw [getL_setL]
  by_cases hd : d = d'
  · subst hd
    rw [if_pos rfl, if_pos rfl]
    by_cases hl : d < h.length
    · rw [if_pos hl]; rfl
    · rw [if_neg hl]
  · rw [if_neg hd, if_neg hd]

theorem drop_rel {w0 : World} {fb : Nat → Prop} {ρ : Env} {a : Act} {w : World} {d : Nat} {st st' : St} (e : drop d st = some st') (r : Rel w0 fb ρ st.tmps st.heap a w) : ∃ ρ' : Env, Rel w0 fb ρ' st'.tmps st'.heap a w := by
  unfold drop at e
  cases hc : (freeT (fun x => Nat.beq x d) st.tmps.length 0 st.tmps && freeH (fun x => Nat.beq x d) (setL st.heap d [])) with
  | false => rw [hc] at e; cases e
  | true =>
    rw [hc] at e
    cases e
    obtain ⟨c1, c2⟩ := Bool.and_eq_true_iff.1 hc
    let ρ' : Env := ⟨fun d' i' => if d = d' then none else ρ d' i', ρ.cap⟩
    have hag : ∀ x, Nat.beq x d = false → ∀ i, ρ' x i = ρ x i ∧ ρ'.cap x i = ρ.cap x i := by
      intro x hx i
      refine ⟨?_, rfl⟩
      show (if d = x then none else ρ x i) = _
      rw [if_neg (fun e => by subst e; simp at hx)]
    have hpos : ∀ {x i b}, ρ' x i = some b → d ≠ x ∧ ρ x i = some b := by
      intro x i b hb
      have hb' : (if d = x then none else ρ x i) = some b := hb
      by_cases hx : d = x
      · rw [if_pos hx] at hb'; cases hb'
      · rw [if_neg hx] at hb'; exact ⟨hx, hb'⟩
    have hdead : ∀ {x i}, d ≠ x → deadAt st.heap x i → deadAt (setL st.heap d []) x i := by
      rintro x i hx ⟨blk, q1, q2⟩
      exact ⟨blk, by rw [getB_clear, if_neg hx]; exact q1, q2⟩
    refine ⟨ρ', ⟨?_, r.len, r.defers, ?_, ?_, ?_, ?_, r.keep⟩⟩
    · intro t s hs
      exact relS_agree hag (freeT_get c1 hs (by have : t < st.tmps.length := getL_some_lt hs; omega)) (r.tmps t s hs)
    · intro x i blk hg
      have hf := freeH_blk c2 hg
      rw [getB_clear] at hg
      by_cases hx : d = x
      · rw [if_pos hx] at hg; cases hg
      · rw [if_neg hx] at hg
        obtain ⟨b, q1, q2, q3⟩ := r.heap x i blk hg
        have hxx : Nat.beq x d = false := Bool.eq_false_iff.2 fun e => hx (Nat.eq_of_beq_eq_true e).symm
        refine ⟨b, by rw [(hag x hxx i).1]; exact q1, q2, ?_⟩
        rcases q3 with q3 | ⟨l, junk, p1, p2, p3⟩
        · exact .inl q3
        · exact .inr ⟨l, junk, by rw [denCs_agree hag hf]; exact p1, p2, p3⟩
    · intro x i b hb
      obtain ⟨hx, hb⟩ := hpos hb
      obtain ⟨blk, q⟩ := r.dom x i b hb
      exact ⟨blk, by rw [getB_clear, if_neg hx]; exact q⟩
    · intro x i x' i' b h1 h2
      obtain ⟨y1, h1⟩ := hpos h1
      obtain ⟨y2, h2⟩ := hpos h2
      rcases r.inj _ _ _ _ _ h1 h2 with q | q | q
      · exact .inl q
      · exact .inr (.inl (hdead y1 q))
      · exact .inr (.inr (hdead y2 q))
    · intro x i b blk hb hg
      obtain ⟨hx, hb⟩ := hpos hb
      rw [getB_clear, if_neg hx] at hg
      exact r.low x i b blk hb hg

theorem getB_place {h : Heap} {t : Nat} {blk : Blk} (ht : t < h.length) (d' i' : Nat) : getB (setL h t [blk]) d' i' = if t = d' then (if i' = 0 then some blk else none) else getB h d' i' := by
  unfold getB
  rw [getL_setL]
  by_cases hd : t = d'
  · subst hd
    rw [if_pos rfl, if_pos rfl, if_pos ht]
    cases i' with
    | zero => rfl
    | succ i' => simp [getL]
  · rw [if_neg hd, if_neg hd]

theorem rebase_rel {w0 : World} {fb : Nat → Prop} {ρ : Env} {a : Act} {w : World} {t : Nat} {st st' : St} (e : rebase t st = some st') (r : Rel w0 fb ρ st.tmps st.heap a w) : ∃ ρ' : Env, Rel w0 fb ρ' st'.tmps st'.heap a w := by
  unfold rebase at e
  split at e
  · rename_i d i n sym hslot
    cases hg : getB st.heap d i with
    | none => simp [hg] at e
    | some blk =>
      simp only [hg] at e
      cases hk : blk.kd <;> simp only [hk] at e <;> try (cases e; done)
      cases hc : (Nat.blt t st.heap.length && freeT (fun x => Nat.beq x d || Nat.beq x t) t 0 st.tmps && freeH (fun x => Nat.beq x d || Nat.beq x t) (setL (setL st.heap d []) t [blk])) with
      | false => rw [hc] at e; cases e
      | true =>
        rw [hc] at e
        cases e
        simp only [Bool.and_eq_true] at hc
        obtain ⟨⟨c0, c1⟩, c2⟩ := hc
        have c0 : t < (setL st.heap d []).length := by rw [setL_length]; simpa [Nat.blt_eq] using c0
        obtain ⟨b, e1, e2, e3⟩ := relS_sli (r.tmps t _ hslot)
        let ρ' : Env := ⟨fun d' i' => if t = d' then (if i' = 0 then some b else none) else if d = d' then none else ρ d' i', fun d' i' => if t = d' then ρ.cap d i else ρ.cap d' i'⟩
        have hag : ∀ x, (Nat.beq x d || Nat.beq x t) = false → ∀ i, ρ' x i = ρ x i ∧ ρ'.cap x i = ρ.cap x i := by
          intro x hx i
          have h1 : ¬ t = x := fun e => by subst e; simp at hx
          have h2 : ¬ d = x := fun e => by subst e; simp at hx
          constructor
          · show (if t = x then _ else if d = x then none else ρ x i) = _
            rw [if_neg h1, if_neg h2]
          · show (if t = x then _ else ρ.cap x i) = _
            rw [if_neg h1]
        have hget : ∀ x i', getB (setL (setL st.heap d []) t [⟨normC blk.cells, blk.ty, .sl⟩]) x i' = if t = x then (if i' = 0 then some ⟨normC blk.cells, blk.ty, .sl⟩ else none) else if d = x then none else getB st.heap x i' := by
          intro x i'
          rw [getB_place c0, getB_clear]
        have hfb : freeCs (fun x => Nat.beq x d || Nat.beq x t) blk.cells = true := by
          have := freeH_get c2 (d := t) (l := [blk]) (by rw [getL_setL, if_pos rfl, if_pos c0])
          simp only [freeB, Bool.and_true] at this
          exact this
        have hfo : ∀ {x i' blk'}, t ≠ x → d ≠ x → getB st.heap x i' = some blk' → freeCs (fun x => Nat.beq x d || Nat.beq x t) blk'.cells = true := by
          intro x i' blk' hx hd hb
          refine freeH_blk c2 (d := x) (i := i') ?_
          rw [getB_place c0, getB_clear, if_neg hx, if_neg hd]
          exact hb
        have hpos : ∀ {x i' b'}, ρ' x i' = some b' → (t = x ∧ i' = 0 ∧ b' = b) ∨ (t ≠ x ∧ d ≠ x ∧ ρ x i' = some b') := by
          intro x i' b' hb
          have hb' : (if t = x then (if i' = 0 then some b else none) else if d = x then none else ρ x i') = some b' := hb
          by_cases hx : t = x
          · rw [if_pos hx] at hb'
            by_cases hi : i' = 0
            · rw [if_pos hi] at hb'; cases hb'; exact .inl ⟨hx, hi, rfl⟩
            · rw [if_neg hi] at hb'; cases hb'
          · rw [if_neg hx] at hb'
            by_cases hd : d = x
            · rw [if_pos hd] at hb'; cases hb'
            · rw [if_neg hd] at hb'; exact .inr ⟨hx, hd, hb'⟩
        have hdead : ∀ {x i'}, t ≠ x → d ≠ x → deadAt st.heap x i' → deadAt (setL (setL st.heap d []) t [⟨normC blk.cells, blk.ty, .sl⟩]) x i' := by
          rintro x i' hx hd ⟨blk', q1, q2⟩
          exact ⟨blk', by rw [hget, if_neg hx, if_neg hd]; exact q1, q2⟩
        have nd : ¬ deadAt st.heap d i := by
          rintro ⟨blk', q1, q2⟩
          rw [hg] at q1
          cases q1
          rw [hk] at q2
          cases q2
        refine ⟨ρ', ⟨?_, by rw [setL_length]; exact r.len, r.defers, ?_, ?_, ?_, ?_, r.keep⟩⟩
        · intro t' s hs
          rw [getL_setL] at hs
          by_cases ht : t = t'
          · subst ht
            rw [if_pos rfl] at hs
            split at hs
            · cases hs
              rw [e2]
              have p1 : ρ' t 0 = some b := by show (if t = t then (if 0 = 0 then some b else none) else _) = _; simp
              have p2 : ρ'.cap t 0 = ρ.cap d i := by show (if t = t then _ else _) = _; simp
              have hcap : (none : Option Nat).getD (ρ.cap d i - 0) = (none : Option Nat).getD (ρ'.cap t 0 - 0) := by rw [p2]
              rw [hcap] at e3 ⊢
              exact relS_sli' p1 e3
            · cases hs
          · rw [if_neg ht] at hs
            exact relS_agree hag (freeT_get c1 hs (by omega)) (r.tmps t' s hs)
        · intro x i' blk' hg'
          rw [hget] at hg'
          by_cases hx : t = x
          · rw [if_pos hx] at hg'
            by_cases hi : i' = 0
            · rw [if_pos hi] at hg'
              cases hg'
              obtain ⟨b', q1, q2, q3⟩ := r.heap d i blk hg
              rw [e1] at q1
              cases q1
              have p1 : ρ' x i' = some b := by show (if t = x then (if i' = 0 then some b else none) else _) = _; rw [if_pos hx, if_pos hi]
              refine ⟨b, p1, q2, ?_⟩
              rcases q3 with q3 | ⟨l, junk, z1, z2, z3⟩
              · rw [hk] at q3; cases q3
              · refine .inr ⟨l, junk, by rw [normC_den, denCs_agree hag hfb]; exact z1, z2, fun hkk => ?_⟩
                have p2 : ρ'.cap x i' = ρ.cap d i := by show (if t = x then _ else _) = _; rw [if_pos hx]
                rw [p2]
                exact z3 hk
            · rw [if_neg hi] at hg'; cases hg'
          · rw [if_neg hx] at hg'
            by_cases hd : d = x
            · rw [if_pos hd] at hg'; cases hg'
            · rw [if_neg hd] at hg'
              obtain ⟨b', q1, q2, q3⟩ := r.heap x i' blk' hg'
              have hxx : (Nat.beq x d || Nat.beq x t) = false := by
                have h1 : Nat.beq x d = false := Bool.eq_false_iff.2 fun e => hd (Nat.eq_of_beq_eq_true e).symm
                have h2 : Nat.beq x t = false := Bool.eq_false_iff.2 fun e => hx (Nat.eq_of_beq_eq_true e).symm
                rw [h1, h2]; rfl
              refine ⟨b', by rw [(hag x hxx i').1]; exact q1, q2, ?_⟩
              rcases q3 with q3 | ⟨l, junk, z1, z2, z3⟩
              · exact .inl q3
              · exact .inr ⟨l, junk, by rw [denCs_agree hag (hfo hx hd hg')]; exact z1, z2, fun hkk => by rw [(hag x hxx i').2]; exact z3 hkk⟩
        · intro x i' b' hb
          rcases hpos hb with ⟨h1, h2, _⟩ | ⟨h1, h2, h3⟩
          · exact ⟨⟨normC blk.cells, blk.ty, .sl⟩, by rw [hget, if_pos h1, if_pos h2]⟩
          · obtain ⟨blk', q⟩ := r.dom x i' b' h3
            exact ⟨blk', by rw [hget, if_neg h1, if_neg h2]; exact q⟩
        · intro x i1 y i2 b' h1 h2
          rcases hpos h1 with ⟨p1, p2, p3⟩ | ⟨p1, p2, p3⟩ <;> rcases hpos h2 with ⟨q1, q2, q3⟩ | ⟨q1, q2, q3⟩
          · exact .inl ⟨p1.symm.trans q1, p2.trans q2.symm⟩
          · subst p3
            rcases r.inj _ _ _ _ _ e1 q3 with z | z | z
            · exact absurd z.1 q2
            · exact absurd z nd
            · exact .inr (.inr (hdead q1 q2 z))
          · subst q3
            rcases r.inj _ _ _ _ _ e1 p3 with z | z | z
            · exact absurd z.1 p2
            · exact absurd z nd
            · exact .inr (.inl (hdead p1 p2 z))
          · rcases r.inj _ _ _ _ _ p3 q3 with z | z | z
            · exact .inl z
            · exact .inr (.inl (hdead p1 p2 z))
            · exact .inr (.inr (hdead q1 q2 z))
        · intro x i' b' blk' hb hg'
          rw [hget] at hg'
          rcases hpos hb with ⟨h1, h2, h3⟩ | ⟨h1, h2, h3⟩
          · rw [if_pos h1, if_pos h2] at hg'
            cases hg'
            subst h3
            rcases r.low d i b' blk e1 hg with q | q
            · rw [hk] at q; cases q
            · exact .inr q
          · rw [if_neg h1, if_neg h2] at hg'
            exact r.low x i' b' blk' h3 hg'
  · cases e

/-- what is kept at a loop's head: slots; slots whose slices take their own place; places whose blocks are forgotten -/
structure Td where
  keep : List Nat
  ts : List Nat
  ds : List Nat
def allO (f : Nat → St → Option St) : List Nat → St → Option St
  | [], st => some st
  | t :: ts, st => match f t st with
    | some st' => allO f ts st'
    | none => none
def tidy (d : Td) (st : St) : Option St := match allO rebase d.ts ⟨wkT d.keep 0 st.tmps, st.heap⟩ with
  | some st' => allO drop d.ds st'
  | none => none
theorem allO_rel {w0 : World} {fb : Nat → Prop} {a : Act} {w : World} {f : Nat → St → Option St} (hf : ∀ {t st st'} {ρ : Env}, f t st = some st' → Rel w0 fb ρ st.tmps st.heap a w → ∃ ρ' : Env, Rel w0 fb ρ' st'.tmps st'.heap a w) :
    ∀ {ts : List Nat} {st st' : St} {ρ : Env}, allO f ts st = some st' → Rel w0 fb ρ st.tmps st.heap a w → ∃ ρ' : Env, Rel w0 fb ρ' st'.tmps st'.heap a w
  | [], st, st', ρ, e, r => by simp only [allO] at e; cases e; exact ⟨ρ, r⟩
  | t :: ts, st, st', ρ, e, r => by
    simp only [allO] at e
    cases h : f t st with
    | none => simp [h] at e
    | some st1 =>
      simp only [h] at e
      obtain ⟨ρ1, r1⟩ := hf h r
      exact allO_rel hf e r1
theorem tidy_rel {w0 : World} {fb : Nat → Prop} {ρ : Env} {a : Act} {w : World} {d : Td} {st st' : St} (e : tidy d st = some st') (r : Rel w0 fb ρ st.tmps st.heap a w) : ∃ ρ' : Env, Rel w0 fb ρ' st'.tmps st'.heap a w := by
  unfold tidy at e
  cases h : allO rebase d.ts ⟨wkT d.keep 0 st.tmps, st.heap⟩ with
  | none => simp [h] at e
  | some st1 =>
    simp only [h] at e
    obtain ⟨ρ1, r1⟩ := allO_rel (f := rebase) (fun h r => rebase_rel h r) h (r.wk d.keep)
    exact allO_rel (f := drop) (fun h r => drop_rel h r) e r1

inductive StopS where
  | at (k : List It) (st : St)
  | out (o : SRes)

def outS (st : St) (ob : List Prop) : List PV → Option (StopS × List Prop)
  | [p] => match ownV st.heap (.pv p) with
    | some (some (_, _, t), cs, _, pre) => some (.out (.row t cs), pre ++ ob)
    | _ => some (.out (.val (.pv p)), ob)
  | ps => some (.out (.val (.tup ps)), ob)

def leafS (P : Program) (fn : Func) (d : Td) : Out → List Prop → Option (StopS × List Prop)
  | .stop k st, ob => match tidy d st with
    | some st' => some (.at k st', ob)
    | none => none
  | .fall st, ob => match resPs P st fn.results.toList with
    | some ps => outS st ob ps
    | none => none
  | .ret st, ob => match resPs P st fn.results.toList with
    | some ps => outS st ob ps
    | none => none
  | .ex _ _, _ => none

def depth : List It → Nat
  | [] => 0
  | .lp _ :: k => depth k + 1
  | _ :: k => depth k
/-- loops inside so many others are gone through at once -/
def runS (P : Program) (T : Table) (fn : Func) (D : Nat) (d : Td) (n : Nat) (k : List It) (st : St) : Option (StopS × List Prop) :=
  exec P T (fun k => Nat.ble D (depth k)) (leafS P fn d) n k st []

/-- from a place one comes to an end of which R holds -/
inductive Goes (P : Program) (T : Table) (fn : Func) (R : SRes → Prop) : List It → St → Prop where
  | out (D : Nat) (d : Td) (n : Nat) {k : List It} {st : St} {o : SRes} {ob : List Prop} : runS P T fn D d n k st = some (.out o, ob) → AllP ob → R o → Goes P T fn R k st
  | at (D : Nat) (d : Td) (n : Nat) {k k' : List It} {st st' : St} {ob : List Prop} : runS P T fn D d n k st = some (.at k' st', ob) → AllP ob → Goes P T fn R k' st' → Goes P T fn R k st
  | loop {b : Code} {k : List It} {st : St} : Goes P T fn R (.code b :: .lp b :: k) st → Goes P T fn R (.code (.loop b) :: k) st
  | lp {b : Code} {k : List It} {st : St} : Goes P T fn R (.code b :: .lp b :: k) st → Goes P T fn R (.lp b :: k) st
  | conv {k : List It} {st st' : St} : (∀ w0 fb ρ a w, Rel w0 fb ρ st.tmps st.heap a w → ∃ ρ' : Env, Rel w0 fb ρ' st'.tmps st'.heap a w) → Goes P T fn R k st' → Goes P T fn R k st

/-- a result, as one that is known of -/
def OutIs (out o : SRes) : Prop := match out, o with
  | .val s, .val s' => ∃ v, s.val? = some v ∧ s'.val? = some v
  | .row e cs, .row e' cs' => e = e' ∧ ∃ l, cellVals cs = some l ∧ cellVals cs' = some l
  | _, _ => False

def EndS (w0 : World) (row : Option Nat) (out : SRes) (e : Ending) (w' : World) : Prop :=
  ∃ u, e = .returned u ∧ w0.grownBy w' row ∧ ∀ ρ, ResRel ρ out row w0 w' u

theorem SV.val?_rel {ρ : Env} {s : SV} {v : Value} (h : s.val? = some v) : relS ρ s v := by
  cases s with
  | any => cases h
  | pv p => exact PV.val?_den h
  | tup ps =>
    simp only [SV.val?] at h
    cases h1 : pvVals ps with
    | none => simp [h1] at h
    | some l => simp only [h1] at h; cases h; exact ⟨l, pvVals_spec h1, rfl⟩

section
variable {P : Program} {T : Table} (hT : TableOK P T) (hm : P.follows .mixedOrders = true) {fn : Func} {w0 : World} {row : Option Nat} {out : SRes}
include hT hm

theorem runS_sound {D : Nat} {d : Td} {n : Nat} {k : List It} {st : St} {r : StopS} {ob : List Prop} (h : runS P T fn D d n k st = some (r, ob)) (hob : AllP ob)
    (hr : match r with
      | .at k' st' => ∀ (ρ : Env) a w, Rel w0 (fun b => row = some b) ρ st'.tmps st'.heap a w → cont P (bodyPost P fn (EndS w0 row out)) k' .normal a w
      | .out o => OutIs out o) :
    ∀ (ρ : Env) (a : Act) (w : World), Rel w0 (fun b => row = some b) ρ st.tmps st.heap a w → cont P (bodyPost P fn (EndS w0 row out)) k .normal a w := by
  refine (exec_sound (w0 := w0) (fb := fun b => row = some b) hT hm (Q := bodyPost P fn (EndS w0 row out)) ?_ n k st [] h).2
  intro o ob' hl
  have fin : ∀ st, (match resPs P st fn.results.toList with
    | some ps => outS st ob' ps
    | none => none) = some (r, ob) → AllP ob' ∧ ∀ ρ a w', Rel w0 (fun b => row = some b) ρ st.tmps st.heap a w' → a.defers = [] ∧ ∃ u, (results fn a.tmps).run P w' = .ok u w' ∧ EndS w0 row out (Ending.returned u) w' := by
    intro st hst
    cases h2 : resPs P st fn.results.toList with
    | none => simp [h2] at hst
    | some qs =>
      simp only [h2] at hst
      have plain : ∀ s, some (StopS.out (.val s), ob') = some (r, ob) → tupOf qs = s → AllP ob' ∧ ∀ ρ a w', Rel w0 (fun b => row = some b) ρ st.tmps st.heap a w' → a.defers = [] ∧ ∃ u, (results fn a.tmps).run P w' = .ok u w' ∧ EndS w0 row out (Ending.returned u) w' := by
        intro s hs hq
        cases hs
        refine ⟨hob, fun ρ a w' hr' => ⟨hr'.defers, ?_⟩⟩
        obtain ⟨u, u1, u2⟩ := run_results hr' h2
        refine ⟨u, u2, u, rfl, ?_, ?_⟩
        · have k := hr'.keep
          exact ⟨k.os, k.tape, k.output, k.size, fun j hj hn => k.block j hj (fun e => hn e.symm)⟩
        · intro ρ2
          unfold OutIs at hr
          cases out with
          | val s0 =>
            obtain ⟨v, v1, v2⟩ := hr
            rw [hq] at u1
            have := SV.val?_spec v2 u1
            subst this
            exact SV.val?_rel v1
          | row e cs => exact hr.elim
      unfold outS at hst
      split at hst
      · rename_i p
        split at hst
        · rename_i d' i t cs n' pre h3
          cases hst
          obtain ⟨hp1, hp2⟩ := AllP_append hob
          refine ⟨hp2, fun ρ a w' hr' => ⟨hr'.defers, ?_⟩⟩
          obtain ⟨u, u1, u2⟩ := run_results hr' h2
          have u1' : relS ρ (.pv p) u := u1
          refine ⟨u, u2, u, rfl, ?_, ?_⟩
          · have k := hr'.keep
            exact ⟨k.os, k.tape, k.output, k.size, fun j hj hn => k.block j hj (fun e => hn e.symm)⟩
          · intro ρ2
            unfold OutIs at hr
            cases out with
            | val s0 => exact hr.elim
            | row e cs0 =>
              obtain ⟨rfl, l, l1, l2⟩ := hr
              obtain ⟨m, m1, m2, m3⟩ := ownV_spec hr' h3 hp1 u1'
              rw [cellVals_spec l2] at m1
              cases m1
              rcases m3 with ⟨q, _⟩ | ⟨d2, i2, t2, b, blk, q, q1, q2, q3, q4⟩
              · cases q
              · cases q
                exact ⟨l, b, cellVals_spec l1, q4, low_own hr' q1 q2 q3⟩
        · exact plain _ hst rfl
      · rename_i hne
        refine plain _ hst ?_
        unfold tupOf
        split
        · exact absurd rfl (hne _)
        · rfl
  cases o with
  | fall st => exact ⟨(fin st hl).1, fun ρ a w' hr => (fin st hl).2 ρ a w' hr⟩
  | ret st => exact ⟨(fin st hl).1, fun ρ a w' hr => (fin st hl).2 ρ a w' hr⟩
  | ex id st => simp [leafS] at hl
  | stop k' st' =>
    simp only [leafS] at hl
    cases h2 : tidy d st' with
    | none => simp [h2] at hl
    | some st2 =>
      simp only [h2] at hl
      cases hl
      refine ⟨hob, fun ρ a w' hr' => ?_⟩
      obtain ⟨ρ', r'⟩ := tidy_rel h2 hr'
      exact hr ρ' a w' r'

theorem Goes.sound {k : List It} {st : St} (h : Goes P T fn (OutIs out) k st) : ∀ (ρ : Env) (a : Act) (w : World), Rel w0 (fun b => row = some b) ρ st.tmps st.heap a w → cont P (bodyPost P fn (EndS w0 row out)) k .normal a w := by
  induction h with
  | out D d n h ho hr => exact runS_sound hT hm h ho hr
  | «at» D d n h ho _ ih => exact runS_sound hT hm h ho ih
  | loop _ ih => exact fun ρ a w hr => wp_of_loopW (loopW_round (ih ρ a w hr))
  | lp _ ih => exact fun ρ a w hr => loopW_round (ih ρ a w hr)
  | conv hc _ ih =>
    intro ρ a w hr
    obtain ⟨ρ', hr'⟩ := hc _ _ ρ a w hr
    exact ih ρ' a w hr'
end

/-- the cells of a place's first block -/
def setH (h : Heap) (d : Nat) (cs : List Cell) : Heap := match getL h d with
  | some (b :: l) => setL h d (⟨cs, b.ty, b.kd⟩ :: l)
  | _ => h
def cellsAt (h : Heap) (d : Nat) : List Cell := match getL h d with
  | some (b :: _) => b.cells
  | _ => []

/-- cells told otherwise -/
theorem Goes.cells {P : Program} {T : Table} {fn : Func} {R : SRes → Prop} {k : List It} {st : St} (d : Nat) (cs : List Cell) (h : ∀ ρ, denCs ρ (cellsAt st.heap d) = denCs ρ cs) (g : Goes P T fn R k ⟨st.tmps, setH st.heap d cs⟩) : Goes P T fn R k st := by
  refine .conv ?_ g
  intro w0 fb ρ a w r
  refine ⟨ρ, ?_⟩
  unfold cellsAt at h
  unfold setH
  cases hl : getL st.heap d with
  | none => simp only []; exact r
  | some l =>
    cases l with
    | nil => simp only []; exact r
    | cons b l =>
      simp only [hl] at h ⊢
      have hg : getB st.heap d 0 = some b := by unfold getB; rw [hl]; rfl
      have hset : setL st.heap d (⟨cs, b.ty, b.kd⟩ :: l) = setB st.heap d 0 ⟨cs, b.ty, b.kd⟩ := by unfold setB; rw [hl]; rfl
      rw [hset]
      have hdead : ∀ {x i}, deadAt st.heap x i → deadAt (setB st.heap d 0 ⟨cs, b.ty, b.kd⟩) x i := by
        rintro x i ⟨blk, q1, q2⟩
        by_cases hx : d = x ∧ 0 = i
        · obtain ⟨rfl, rfl⟩ := hx
          rw [hg] at q1
          cases q1
          exact ⟨⟨cs, b.ty, b.kd⟩, by rw [getB_setB hg, if_pos ⟨rfl, rfl⟩], q2⟩
        · exact ⟨blk, by rw [getB_setB hg, if_neg hx]; exact q1, q2⟩
      refine ⟨r.tmps, r.len, r.defers, ?_, ?_, ?_, ?_, r.keep⟩
      · intro x i blk hb
        rw [getB_setB hg] at hb
        by_cases hx : d = x ∧ 0 = i
        · rw [if_pos hx] at hb
          obtain ⟨rfl, rfl⟩ := hx
          cases hb
          obtain ⟨b', q1, q2, q3⟩ := r.heap d 0 b hg
          refine ⟨b', q1, q2, ?_⟩
          rcases q3 with q3 | ⟨m, junk, z1, z2, z3⟩
          · exact .inl q3
          · exact .inr ⟨m, junk, by rw [← h]; exact z1, z2, z3⟩
        · rw [if_neg hx] at hb
          exact r.heap x i blk hb
      · intro x i b' hb
        obtain ⟨blk, q⟩ := r.dom x i b' hb
        rw [getB_setB hg]
        by_cases hx : d = x ∧ 0 = i
        · exact ⟨_, if_pos hx⟩
        · exact ⟨blk, by rw [if_neg hx]; exact q⟩
      · intro x i x' i' b' h1 h2
        rcases r.inj _ _ _ _ _ h1 h2 with q | q | q
        · exact .inl q
        · exact .inr (.inl (hdead q))
        · exact .inr (.inr (hdead q))
      · intro x i b' blk hb hgb
        rw [getB_setB hg] at hgb
        by_cases hx : d = x ∧ 0 = i
        · rw [if_pos hx] at hgb
          obtain ⟨rfl, rfl⟩ := hx
          cases hgb
          exact r.low d 0 b' b hb hg
        · rw [if_neg hx] at hgb
          exact r.low x i b' blk hb hgb

end Eng
