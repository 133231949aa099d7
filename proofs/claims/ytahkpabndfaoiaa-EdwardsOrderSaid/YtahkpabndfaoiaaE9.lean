/-
A program's operations carried out on values written out: whole regions.
-/
import Derived.Test.YtahkpabndfaoiaaE8
namespace Eng
open Go Go.RowKit

/-- must it wait for it? -/
inductive Waits (ops : Array Oper) : Oper → Nat → Prop where
  | edge {x : Oper} {e : Edge} : e ∈ x.after → Region.binds .any e = true → Waits ops x e.on
  | step {x y : Oper} {e : Edge} {i : Nat} : e ∈ x.after → Region.binds .any e = true → ops[e.on]? = some y → Waits ops y i → Waits ops x i
/-- which operations it must wait for, as a number's bits; of those ahead the same is known -/
def maskOf (ms : List Nat) : List Edge → Nat
  | [] => 0
  | e :: es => cond (Region.binds .any e) (Nat.lor (Nat.lor (2 ^ e.on) ((getL ms e.on).getD 0)) (maskOf ms es)) (maskOf ms es)

/-- may a region's operations change places, wherever its edges leave it open? -/
def pairB (T : Table) (ops : Array Oper) (x : Oper) (m : Nat) : Nat → List Oper → Bool
  | _, [] => true
  | i, y :: ys => (Nat.testBit m i || commB T ops y x) && pairB T ops x m (i + 1) ys

def checkFrom (T : Table) (ops : Array Oper) : List Oper → List Oper → Nat → List Nat → Bool
  | _, [], _, _ => true
  | before, x :: xs, i, ms => pairB T ops x (maskOf ms x.after.toList) 0 before && (x.after.all fun e => !Region.binds .any e || Nat.blt e.on i) && checkFrom T ops (before ++ [x]) xs (i + 1) (ms ++ [maskOf ms x.after.toList])

def checkB (T : Table) (ops : List Oper) : Bool := checkFrom T ops.toArray [] ops 0 []

def MasksOK (ops : Array Oper) (ms : List Nat) : Prop := ∀ k m y i, getL ms k = some m → ops[k]? = some y → Nat.testBit m i = true → Waits ops y i

theorem maskOf_spec {ops : Array Oper} {ms : List Nat} (hm : MasksOK ops ms) {x : Oper} {i : Nat} : ∀ {es : List Edge}, (∀ e ∈ es, e ∈ x.after) → (∀ e ∈ es, Region.binds .any e = true → ∃ y, ops[e.on]? = some y) → Nat.testBit (maskOf ms es) i = true → Waits ops x i
  | [], _, _, h => by simp [maskOf] at h
  | e :: es, he, ho, h => by
    simp only [maskOf] at h
    cases hb : Region.binds .any e with
    | false =>
      rw [hb] at h
      exact maskOf_spec hm (fun e h => he e (.tail _ h)) (fun e h => ho e (.tail _ h)) h
    | true =>
      rw [hb] at h
      simp only [cond_true] at h
      have h : Nat.testBit ((2 ^ e.on ||| (getL ms e.on).getD 0) ||| maskOf ms es) i = true := h
      rw [Nat.testBit_or, Nat.testBit_or, Bool.or_eq_true, Bool.or_eq_true] at h
      rcases h with (h | h) | h
      · rw [Nat.testBit_two_pow] at h
        have := of_decide_eq_true h
        subst this
        exact .edge (he e (.head _)) hb
      · cases hg : getL ms e.on with
        | none => simp [hg] at h
        | some m =>
          rw [hg] at h
          obtain ⟨y, hy⟩ := ho e (.head _) hb
          exact .step (he e (.head _)) hb hy (hm _ _ _ _ hg hy h)
      · exact maskOf_spec hm (fun e h => he e (.tail _ h)) (fun e h => ho e (.tail _ h)) h

structure Checked (T : Table) (ops : Array Oper) : Prop where
  pair : ∀ i j y x, i < j → ops[i]? = some y → ops[j]? = some x → commB T ops y x = true ∨ Waits ops x i
  back : ∀ j x, ops[j]? = some x → ∀ e ∈ x.after, Region.binds .any e = true → e.on < j

theorem pairB_spec {T : Table} {ops : Array Oper} {x : Oper} {m : Nat} (hm : ∀ i, Nat.testBit m i = true → Waits ops x i) : ∀ (ys : List Oper) (k : Nat), pairB T ops x m k ys = true → ∀ i y, ys[i]? = some y → commB T ops y x = true ∨ Waits ops x (k + i)
  | [], k, _, i, y, h => by simp at h
  | z :: ys, k, hp, i, y, h => by
    simp only [pairB, Bool.and_eq_true, Bool.or_eq_true] at hp
    obtain ⟨h1, h2⟩ := hp
    cases i with
    | zero =>
      simp at h
      subst h
      rcases h1 with h1 | h1
      · exact .inr (hm _ h1)
      · exact .inl h1
    | succ i =>
      have := pairB_spec hm ys (k + 1) h2 i y (by simpa using h)
      rcases this with h3 | h3
      · exact .inl h3
      · exact .inr (by rw [show k + (i + 1) = k + 1 + i by omega]; exact h3)

theorem checkFrom_spec {T : Table} {ops : Array Oper} : ∀ (xs before : List Oper) (k : Nat) (ms : List Nat), k = before.length → ms.length = k → MasksOK ops ms → checkFrom T ops before xs k ms = true → ops.toList = before ++ xs →
    ∀ j x, k ≤ j → ops[j]? = some x →
      (∀ i y, i < j → ops[i]? = some y → commB T ops y x = true ∨ Waits ops x i) ∧ (∀ e ∈ x.after, Region.binds .any e = true → e.on < j)
  | [], before, k, ms, hk, _, _, _, ho, j, x, hj, hx => by
    exfalso
    have : ops.toList[j]? = some x := by simpa using hx
    rw [ho] at this
    simp only [List.append_nil] at this
    rw [List.getElem?_eq_none (by omega)] at this
    cases this
  | z :: xs, before, k, ms, hk, hml, hms, hc, ho, j, x, hj, hx => by
    simp only [checkFrom, Bool.and_eq_true] at hc
    obtain ⟨⟨h1, h2⟩, h3⟩ := hc
    have hzk : ops[k]? = some z := by
      have : ops.toList[k]? = some z := by rw [ho, List.getElem?_append_right (by omega)]; simp [hk]
      simpa using this
    have hback : ∀ e ∈ z.after, Region.binds .any e = true → e.on < k := by
      intro e he hb
      have := Array.all_eq_true'.1 h2 e he
      simp only [Bool.or_eq_true, Bool.not_eq_true', hb] at this
      rcases this with h | h
      · cases h
      · exact Nat.le_of_ble_eq_true h
    have hmask : ∀ i, Nat.testBit (maskOf ms z.after.toList) i = true → Waits ops z i := fun i hi => maskOf_spec hms (fun e h => by simpa using h) (fun e h hb => by
      have hlt := hback e (by simpa using h) hb
      have hk : k < ops.size := (Array.getElem?_eq_some_iff.1 hzk).1
      exact ⟨_, Array.getElem?_eq_getElem (by omega)⟩) hi
    by_cases hjk : j = k
    · subst hjk
      have hz : x = z := by
        have : ops.toList[j]? = some x := by simpa using hx
        rw [ho, List.getElem?_append_right (by omega)] at this
        simpa [hk] using this.symm
      subst hz
      refine ⟨fun i y hi hy => ?_, fun e he hb => ?_⟩
      · have hy' : before[i]? = some y := by
          have : ops.toList[i]? = some y := by simpa using hy
          rw [ho, List.getElem?_append_left (by omega)] at this
          exact this
        have := pairB_spec hmask before 0 h1 i y hy'
        simpa using this
      · exact hback e he hb
    · refine checkFrom_spec xs (before ++ [z]) (k + 1) (ms ++ [maskOf ms z.after.toList]) (by simp [hk]) (by simp [hml]) ?_ h3 (by rw [ho]; simp) j x (by omega) hx
      intro k' m y i hg hy ht
      rw [getL_eq] at hg
      by_cases hk' : k' < ms.length
      · rw [List.getElem?_append_left hk'] at hg
        exact hms k' m y i (by rw [getL_eq]; exact hg) hy ht
      · rw [List.getElem?_append_right (by omega)] at hg
        have hkk : k' - ms.length = 0 := by
          have := (List.getElem?_eq_some_iff.1 hg).1
          simp at this
          omega
        rw [hkk] at hg
        simp at hg
        subst hg
        have hkk : k' = k := by omega
        subst hkk
        rw [hzk] at hy
        cases hy
        exact hmask i ht

theorem checkB_spec {T : Table} {ops : Array Oper} (h : checkB T ops.toList = true) : Checked T ops := by
  unfold checkB at h
  have h' := fun j x (hx : ops[j]? = some x) => checkFrom_spec (T := T) (ops := ops) ops.toList [] 0 [] rfl rfl (fun k m y i hg => by simp [getL] at hg) (by simpa using h) (by simp) j x (Nat.zero_le _) hx
  exact ⟨fun i j y x hij hy hx => (h' j x hx).1 i y hij hy, fun j x hx => (h' j x hx).2⟩

theorem runR_append {P : Program} {T : Table} {ops : List Oper} {F : List (Nat × Bool)} : ∀ (is js : List Nat) (rs : RS),
    runR P T ops F (is ++ js) rs = (runR P T ops F is rs).bind (runR P T ops F js)
  | [], js, rs => rfl
  | i :: is, js, rs => by
    simp only [List.cons_append, runR]
    cases stepR P T ops F i rs with
    | none => rfl
    | some r => exact runR_append is js r

/-- an operation of the list comes first, if it may pass all ahead of it -/
theorem moveFront {P : Program} {T : Table} {ops : Array Oper} {F : List (Nat × Bool)} {i : Nat} {x : Oper} (hi : getL ops.toList i = some x) (post : List Nat) {r' : RS} :
    ∀ (pre : List Nat) (rs : RS), (∀ j ∈ pre, j ≠ i ∧ ∃ y, getL ops.toList j = some y ∧ commB T ops y x = true) → runR P T ops.toList F (pre ++ i :: post) rs = some r' →
      runR P T ops.toList F (i :: (pre ++ post)) rs = some r'
  | [], rs, _, h => h
  | j :: pre, rs, hp, h => by
    obtain ⟨hne, y, hy, hc⟩ := hp j (by simp)
    simp only [List.cons_append, runR] at h
    cases h1 : stepR P T ops.toList F j rs with
    | none => simp [h1] at h
    | some r1 =>
      simp only [h1] at h
      have h2 := moveFront hi post pre r1 (fun k hk => hp k (by simp [hk])) h
      simp only [runR] at h2
      cases h3 : stepR P T ops.toList F i r1 with
      | none => simp [h3] at h2
      | some r2 =>
        simp only [h3] at h2
        obtain ⟨g, g1, g2⟩ := step_comm hy hi hne hc h1 h3
        simp only [List.cons_append, runR, g1, g2]
        exact h2

theorem stepR_len {P : Program} {T : Table} {ops : List Oper} {F : List (Nat × Bool)} {i : Nat} {rs r1 : RS} (e : stepR P T ops F i rs = some r1) : r1.ob.length = rs.ob.length ∧ r1.cd.length = rs.cd.length := by
  unfold stepR at e
  cases h1 : getL ops i with
  | none => simp [h1] at e
  | some o =>
    simp only [h1] at e
    cases h2 : guardB ops o rs.tmps with
    | none => simp [h2] at e
    | some b =>
      cases b with
      | false => simp only [h2] at e; cases e; exact ⟨rfl, rfl⟩
      | true =>
        simp only [h2] at e
        cases h3 : evalC P T ops o (evO rs.tmps) rs.heap with
        | none => simp [h3] at e
        | some x => obtain ⟨v, h, pre⟩ := x; simp only [h3] at e; cases e; exact ⟨setL_length _ _ _, setL_length _ _ _⟩

theorem stepR_ob {P : Program} {T : Table} {ops : List Oper} {F : List (Nat × Bool)} {i : Nat} {rs r1 : RS} (e : stepR P T ops F i rs = some r1) {k : Nat} (hk : k ≠ i) : getL r1.ob k = getL rs.ob k ∧ getL r1.cd k = getL rs.cd k := by
  unfold stepR at e
  cases h1 : getL ops i with
  | none => simp [h1] at e
  | some o =>
    simp only [h1] at e
    cases h2 : guardB ops o rs.tmps with
    | none => simp [h2] at e
    | some b =>
      cases b with
      | false => simp only [h2] at e; cases e; exact ⟨rfl, rfl⟩
      | true =>
        simp only [h2] at e
        cases h3 : evalC P T ops o (evO rs.tmps) rs.heap with
        | none => simp [h3] at e
        | some x =>
          obtain ⟨v, h, pre⟩ := x
          simp only [h3] at e
          cases e
          constructor <;> simp only [getL_setL, if_neg (Ne.symm hk)]

theorem runR_ob {P : Program} {T : Table} {ops : List Oper} {F : List (Nat × Bool)} : ∀ {is : List Nat} {rs r' : RS}, runR P T ops F is rs = some r' → ∀ k, k ∉ is → getL r'.ob k = getL rs.ob k ∧ getL r'.cd k = getL rs.cd k
  | [], rs, r', h, k, _ => by simp only [runR] at h; cases h; exact ⟨rfl, rfl⟩
  | i :: is, rs, r', h, k, hk => by
    simp only [runR] at h
    cases h1 : stepR P T ops F i rs with
    | none => simp [h1] at h
    | some r1 =>
      simp only [h1] at h
      have a := runR_ob h k (fun hm => hk (by simp [hm]))
      have b := stepR_ob h1 (k := k) (fun e => hk (by simp [e]))
      exact ⟨a.1.trans b.1, a.2.trans b.2⟩

theorem AllP_get : ∀ {ps : List Prop} {k : Nat} {p : Prop}, AllP ps → getL ps k = some p → p
  | [], k, p, _, h => by simp [getL] at h
  | q :: ps, 0, p, h, e => by simp only [getL] at e; cases e; exact h.1
  | q :: ps, k + 1, p, h, e => AllP_get h.2 (by simpa [getL] using e)

/-- sorted lists of what is left -/
structure Left (n : Nat) (listed : Array Bool) (rest : List Nat) : Prop where
  mem : ∀ i, i ∈ rest ↔ i < n ∧ listed.getD i true = false
  sorted : rest.Pairwise (· < ·)
  size : listed.size = n

theorem Left.split {n : Nat} {listed : Array Bool} {rest : List Nat} (h : Left n listed rest) {i : Nat} (hi : i ∈ rest) :
    ∃ pre post, rest = pre ++ i :: post ∧ (∀ j ∈ pre, j < i) ∧ Left n (listed.setIfInBounds i true) (pre ++ post) := by
  obtain ⟨pre, post, rfl⟩ := List.append_of_mem hi
  have hs := h.sorted
  rw [List.pairwise_append] at hs
  obtain ⟨s1, s2, s3⟩ := hs
  rw [List.pairwise_cons] at s2
  refine ⟨pre, post, rfl, fun j hj => s3 j hj i (by simp), ⟨?_, ?_, by simp [h.size]⟩⟩
  · intro j
    have hm := h.mem j
    have hin := (h.mem i).1 (by simp)
    by_cases hji : j = i
    · subst hji
      constructor
      · intro hmem
        rcases List.mem_append.1 hmem with h1 | h1
        · exact absurd (s3 j h1 j (by simp)) (Nat.lt_irrefl _)
        · exact absurd (s2.1 j h1) (Nat.lt_irrefl _)
      · rintro ⟨_, h2⟩
        exfalso
        have hlt : j < listed.size := by rw [h.size]; exact hin.1
        simp [Array.getD_eq_getD_getElem?, hlt] at h2
    · have e : (listed.setIfInBounds i true).getD j true = listed.getD j true := by
        simp [Array.getD_eq_getD_getElem?, Array.getElem?_setIfInBounds_ne (Ne.symm hji)]
      rw [e, ← hm]
      simp [hji]
  · rw [List.pairwise_append]
    exact ⟨s1, s2.2, fun a ha b hb => s3 a ha b (by simp [hb])⟩

theorem any_sound {P : Program} {T : Table} (hT : TableOK P T) {w0 : World} {fb : Nat → Prop} {ops : Array Oper} {F : List (Nat × Bool)} (hC : Checked T ops) {Q : Exit → Act → World → Prop} {r' : RS}
    (hob : ∀ k p, getL r'.ob k = some p → AllP p) (hcd : AllP r'.cd) (hQ : ∀ ρ' a' w', Rel w0 fb ρ' r'.tmps r'.heap a' w' → Q .normal a' w') :
    ∀ (fuel : Nat) (listed : Array Bool) (rest : List Nat) (rs : RS) (ρ : Env) (a : Act) (w : World), rest.length = fuel → Left ops.size listed rest → runR P T ops.toList F rest rs = some r' →
      rs.ob.length = ops.size → rs.cd.length = ops.size → Rel w0 fb ρ rs.tmps rs.heap a w →
      (∀ j x e, ops[j]? = some x → listed.getD j false = true → e ∈ x.after → Region.binds .any e = true → listed.getD e.on false = true) → wpAny P .any ops Q fuel listed a w := by
  have ready_in : ∀ {listed : Array Bool} {rest : List Nat} {i : Nat}, Left ops.size listed rest → i ∈ Region.ready .any ops listed →
      i ∈ rest ∧ ∃ x, ops[i]? = some x ∧ ∀ e ∈ x.after, Region.binds .any e = true → listed.getD e.on false = true := by
    intro listed rest i hl hi
    unfold Region.ready at hi
    rw [List.mem_filter] at hi
    obtain ⟨h1, h2⟩ := hi
    simp only [Bool.and_eq_true, Bool.not_eq_true'] at h2
    refine ⟨(hl.mem i).2 ⟨by simpa using h1, h2.1⟩, ?_⟩
    cases ho : ops[i]? with
    | none => simp [ho] at h2
    | some x =>
      refine ⟨x, rfl, fun e he hb => ?_⟩
      have h3 := h2.2
      rw [ho] at h3
      simp only [Option.map_some, Option.getD_some] at h3
      have := Array.all_eq_true'.1 h3 e he
      simpa [hb] using this
  have ready_nil : ∀ {listed : Array Bool} {rest : List Nat}, Left ops.size listed rest → Region.ready .any ops listed = [] → rest = [] := by
    intro listed rest hl hr
    cases rest with
    | nil => rfl
    | cons j rest =>
      exfalso
      have hj := (hl.mem j).1 (by simp)
      obtain ⟨x, hx⟩ : ∃ x, ops[j]? = some x := ⟨_, Array.getElem?_eq_getElem hj.1⟩
      have : j ∈ Region.ready .any ops listed := by
        unfold Region.ready
        rw [List.mem_filter]
        refine ⟨by simpa using hj.1, ?_⟩
        simp only [hj.2, Bool.not_false, Bool.true_and, hx, Option.map_some, Option.getD_some]
        refine Array.all_eq_true'.2 fun e he => ?_
        cases hb : Region.binds .any e with
        | false => rfl
        | true =>
          simp only [Bool.not_true, Bool.false_or]
          have hlt := hC.back j x hx e he hb
          have hn : e.on ∉ j :: rest := by
            intro hm
            have hs := hl.sorted
            rw [List.pairwise_cons] at hs
            rcases List.mem_cons.1 hm with h1 | h1
            · omega
            · have := hs.1 _ h1; omega
          have hsz : e.on < listed.size := by rw [hl.size]; omega
          have := fun hf => hn ((hl.mem e.on).2 ⟨by omega, hf⟩)
          rw [Array.getD_eq_getD_getElem?, Array.getElem?_eq_getElem hsz] at this ⊢
          simpa using this
      rw [hr] at this
      cases this
  intro fuel
  induction fuel with
  | zero =>
    intro listed rest rs ρ a w hlen hl hrun _ _ hrel _
    have : rest = [] := List.length_eq_zero_iff.1 hlen
    subst this
    simp only [runR] at hrun
    cases hrun
    refine ⟨?_, hQ ρ a w hrel⟩
    cases hr : Region.ready .any ops listed with
    | nil => rfl
    | cons i l =>
      have := (ready_in hl (i := i) (by rw [hr]; simp)).1
      cases this
  | succ fuel ih =>
    intro listed rest rs ρ a w hlen hl hrun hlo hlc hrel hcl
    refine ⟨fun hr => ?_, fun i hi => ?_⟩
    · have := ready_nil hl hr
      subst this
      simp at hlen
    · obtain ⟨hmem, x, hx, hafter⟩ := ready_in hl hi
      obtain ⟨pre, post, rfl, hpre, hl'⟩ := hl.split hmem
      have hgx : getL ops.toList i = some x := by rw [getL_eq]; simpa using hx
      have hmv := moveFront (P := P) (T := T) (F := F) hgx post pre rs (by
        intro j hj
        have hji := hpre j hj
        obtain ⟨y, hy⟩ : ∃ y, ops[j]? = some y := ⟨_, Array.getElem?_eq_getElem ((hl.mem j).1 (by simp [hj])).1⟩
        refine ⟨by omega, y, by rw [getL_eq]; simpa using hy, ?_⟩
        rcases hC.pair j i y x hji hy hx with h1 | h1
        · exact h1
        · exfalso
          have key : ∀ {x : Oper} {j : Nat}, Waits ops x j → (∀ e ∈ x.after, Region.binds .any e = true → listed.getD e.on false = true) → listed.getD j false = true := by
            intro x j hw
            induction hw with
            | edge he hb => intro ha; exact ha _ he hb
            | step he hb hy _ ih => intro ha; exact ih fun e' he' hb' => hcl _ _ e' hy (ha _ he hb) he' hb'
          have h1 := key h1 hafter
          have h2 := ((hl.mem j).1 (by simp [hj])).2
          have hsz : j < listed.size := by rw [hl.size]; exact ((hl.mem j).1 (by simp [hj])).1
          rw [Array.getD_eq_getD_getElem?, Array.getElem?_eq_getElem hsz] at h1 h2
          simp at h1 h2
          rw [h1] at h2
          cases h2) hrun
      simp only [runR] at hmv
      cases h1 : stepR P T ops.toList F i rs with
      | none => simp [h1] at hmv
      | some r1 =>
        simp only [h1] at hmv
        have hni : i ∉ pre ++ post := by
          intro hm
          have := (hl'.mem i).1 hm
          have hsz : i < listed.size := by rw [hl.size]; exact this.1
          simp [Array.getD_eq_getD_getElem?, hsz] at this
        have hk := runR_ob hmv i hni
        have hlen1 := stepR_len h1
        have hin := ((hl.mem i).1 hmem).1
        refine stepR_wp hT hrel h1 (fun p hp => hob i p (by rw [hk.1]; exact hp)) (fun p hp => AllP_get hcd (k := i) (by rw [hk.2]; exact hp)) (by omega) (by omega) ?_
        intro ρ' a' w' hrel'
        refine ih _ (pre ++ post) r1 ρ' a' w' ?_ hl' hmv (by omega) (by omega) hrel' ?_
        · simp at hlen ⊢
          omega
        · have mono : ∀ k, listed.getD k false = true → (listed.setIfInBounds i true).getD k false = true := by
            intro k hk
            rw [Array.getD_eq_getD_getElem?] at hk ⊢
            rw [Array.getElem?_setIfInBounds]
            by_cases hik : i = k
            · subst hik
              have : i < listed.size := by rw [hl.size]; exact hin
              simp [this]
            · rw [if_neg hik]; exact hk
          intro j x' e hj hlj he hb
          by_cases hij : j = i
          · subst hij
            rw [hx] at hj
            cases hj
            exact mono _ (hafter e he hb)
          · have : listed.getD j false = true := by
              rw [Array.getD_eq_getD_getElem?, Array.getElem?_setIfInBounds_ne (Ne.symm hij)] at hlj
              rw [Array.getD_eq_getD_getElem?]
              exact hlj
            exact mono _ (hcl j x' e hj this he hb)

end Eng
