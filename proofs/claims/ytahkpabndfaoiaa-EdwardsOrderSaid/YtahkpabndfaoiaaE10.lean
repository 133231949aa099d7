/-
A program's operations carried out on values written out: code, with loops gone through round by round or left to others.
-/
import Derived.Test.YtahkpabndfaoiaaE9
import Derived.LoopN
namespace Eng
open Go Go.RowKit

structure St where
  tmps : List SV
  heap : Heap

inductive It where
  | code (c : Code)
  | blk (id : Nat)
  | lp (c : Code)

/-- where a run has come to: the code's end, a return, a way out of a block that is not in sight, a loop -/
inductive Out where
  | fall (st : St)
  | ret (st : St)
  | ex (id : Nat) (st : St)
  | stop (k : List It) (st : St)

def rs0 (n : Nat) (st : St) : RS := ⟨st.tmps, st.heap, List.replicate n [], List.replicate n True⟩

/-- the outcome of the operation j, where it is a test -/
def gval (P : Program) (T : Table) (ops : List Oper) (F : List (Nat × Bool)) (j : Nat) (st : St) : Option Bool :=
  match runR P T ops F (List.range j) (rs0 ops.length st) with
  | some rs => match getL ops j with
    | some o => match guardB ops o rs.tmps with
      | some true => match evalOp P T o (evO rs.tmps) rs.heap with
        | some (v, _, _) => v.bool?
        | none => none
      | _ => none
    | none => none
  | none => none

def joinL : List (List Prop) → List Prop → List Prop
  | [], ob => ob
  | [] :: l, ob => joinL l ob
  | (p :: ps) :: l, ob => (p :: ps) ++ joinL l ob

def forkR {α : Type} (P : Program) (T : Table) (ops : List Oper) (st : St) (k : St → List (List Prop) → Option α) : List Nat → List (Nat × Bool) → Option α
  | [], F => match runR P T ops F (List.range ops.length) (rs0 ops.length st) with
    | some rs => k ⟨rs.tmps, rs.heap⟩ rs.ob
    | none => none
  | j :: gs, F => match gval P T ops F j st with
    | some g => cond g (forkR P T ops st k gs ((j, true) :: F)) (forkR P T ops st k gs ((j, false) :: F))
    | none => forkR P T ops st k gs F

def hasGuard : List Oper → Bool
  | [] => false
  | o :: ops => match o.guard with
    | some _ => true
    | none => hasGuard ops

def guardOf (j : Nat) : List Oper → Bool
  | [] => false
  | o :: ops => match o.guard with
    | some (g, _) => Nat.beq g j || guardOf j ops
    | none => guardOf j ops

/-- the tests of a region, in order -/
def gsOf (ops : List Oper) : List Nat := cond (hasGuard ops) ((List.range ops.length).filter fun j => guardOf j ops) []

def popTo (id : Nat) : List It → Option (List It)
  | [] => none
  | .blk j :: k => cond (Nat.beq j id) (some k) (popTo id k)
  | .code _ :: k => popTo id k
  | .lp _ :: k => popTo id k

def exec {α : Type} (P : Program) (T : Table) (un : List It → Bool) (leaf : Out → List Prop → Option α) : Nat → List It → St → List Prop → Option α
  | 0, _, _, _ => none
  | _ + 1, [], st, ob => leaf (.fall st) ob
  | n + 1, .blk _ :: k, st, ob => exec P T un leaf n k st ob
  | n + 1, .lp c :: k, st, ob => cond (un k) (exec P T un leaf n (.code c :: .lp c :: k) st ob) (leaf (.stop (.lp c :: k) st) ob)
  | n + 1, .code c :: k, st, ob => match c with
    | .skip => exec P T un leaf n k st ob
    | .region _ ops draw => cond (!draw || checkB T ops.toList) (forkR P T ops.toList st (fun st' o => exec P T un leaf n k st' (joinL o ob)) (gsOf ops.toList) []) none
    | .seq a b => exec P T un leaf n (.code a :: .code b :: k) st ob
    | .cond x a b => match evO st.tmps x with
      | some s => match s.bool? with
        | some g => cond g (exec P T un leaf n (.code a :: k) st ob) (exec P T un leaf n (.code b :: k) st ob)
        | none => none
      | none => none
    | .block id b => exec P T un leaf n (.code b :: .blk id :: k) st ob
    | .loop b => cond (un k) (exec P T un leaf n (.code b :: .lp b :: k) st ob) (leaf (.stop (.code (.loop b) :: k) st) ob)
    | .exit id => match popTo id k with
      | some k' => exec P T un leaf n k' st ob
      | none => leaf (.ex id st) ob
    | .ret => leaf (.ret st) ob
    | _ => none

/-- going round from the head of a round on -/
def LoopW (P : Program) (c : Code) (Q : Exit → Act → World → Prop) (a : Act) (w : World) : Prop :=
  ∀ (b : Frame) (k : List Item) (cs : List Frame), ∃ e a' w', Q e a' w' ∧ Arrives P (lone (b.at a (.code c :: .inLoop c :: k)) cs w) b k cs e a' w'

theorem wp_of_loopW {P : Program} {c : Code} {Q : Exit → Act → World → Prop} {a : Act} {w : World} (h : LoopW P c Q a w) : (Code.loop c).wp P Q a w := by
  intro b k cs
  obtain ⟨e, a', w', hq, harr⟩ := h b k cs
  exact ⟨e, a', w', hq, .of_steps (.one step_loop) harr⟩

theorem loopW_round {P : Program} {c : Code} {Q : Exit → Act → World → Prop} {a : Act} {w : World} (h : c.wp P (Exit.then (LoopW P c Q) Q) a w) : LoopW P c Q a w := by
  intro b k cs
  obtain ⟨e, a₁, w₁, hq, harr⟩ := h b (.inLoop c :: k) cs
  cases e with
  | normal =>
    obtain ⟨e₂, a₂, w₂, hq₂, harr₂⟩ := hq b k cs
    exact ⟨e₂, a₂, w₂, hq₂, .of_steps (Steps.trans harr (.one step_inLoop)) harr₂⟩
  | exit id => exact ⟨_, a₁, w₁, hq, .pass (x := .inLoop c) rfl (fun _ _ => .inl (by simp)) harr⟩
  | goto l => exact ⟨_, a₁, w₁, hq, .pass (x := .inLoop c) rfl (fun _ _ => .inl (by simp)) harr⟩
  | ret => exact ⟨_, a₁, w₁, hq, .pass (x := .inLoop c) rfl (fun _ _ => .inl (by simp)) harr⟩
  | panic ch => exact ⟨_, a₁, w₁, hq, .pass (x := .inLoop c) rfl (fun _ _ => .inl (by simp)) harr⟩
  | outgrown => exact ⟨_, a₁, w₁, hq, .pass (x := .inLoop c) rfl (fun _ _ => .inl (by simp)) harr⟩

/-- a loop by what holds at each round's head, and a measure -/
theorem loopW_inv {P : Program} {c : Code} {Q : Exit → Act → World → Prop} (I : Nat → Act → World → Prop)
    (round : ∀ n a w, I n a w → c.wp P (Exit.then (fun a' w' => ∃ m, m < n ∧ I m a' w') Q) a w) : ∀ (n : Nat) (a : Act) (w : World), I n a w → LoopW P c Q a w := by
  intro n
  induction n using Nat.strongRecOn with
  | _ n ih =>
    intro a w hI
    refine loopW_round (wp_mono (round n a w hI) ?_)
    intro e a' w' hq
    cases e with
    | normal => obtain ⟨m, hm, hI'⟩ := hq; exact ih m hm a' w' hI'
    | _ => exact hq

/-- what is left to do -/
def cont (P : Program) (Q : Exit → Act → World → Prop) : List It → Exit → Act → World → Prop
  | [] => Q
  | .code c :: k => Exit.then (fun a w => c.wp P (cont P Q k) a w) (cont P Q k)
  | .blk id :: k => Exit.inBlock id (cont P Q k)
  | .lp c :: k => Exit.then (fun a w => LoopW P c (cont P Q k) a w) (cont P Q k)

theorem cont_ret {P : Program} {Q : Exit → Act → World → Prop} {a : Act} {w : World} (h : Q .ret a w) : ∀ k, cont P Q k .ret a w
  | [] => h
  | .code _ :: k => cont_ret h k
  | .blk _ :: k => cont_ret h k
  | .lp _ :: k => cont_ret h k

theorem cont_exit {P : Program} {Q : Exit → Act → World → Prop} {id : Nat} {a : Act} {w : World} : ∀ k, (∀ k', popTo id k = some k' → cont P Q k' .normal a w) → (popTo id k = none → Q (.exit id) a w) → cont P Q k (.exit id) a w
  | [], _, h2 => h2 rfl
  | .code _ :: k, h1, h2 => cont_exit k h1 h2
  | .lp _ :: k, h1, h2 => cont_exit k h1 h2
  | .blk j :: k, h1, h2 => by
    show (if id = j then cont P Q k .normal a w else cont P Q k (.exit id) a w)
    by_cases hj : id = j
    · subst hj
      rw [if_pos rfl]
      exact h1 k (by simp [popTo])
    · rw [if_neg hj]
      have hb : Nat.beq j id = false := Bool.eq_false_iff.2 fun e => hj (Nat.eq_of_beq_eq_true e).symm
      have hp : popTo id (.blk j :: k) = popTo id k := by simp only [popTo, hb, cond_false]
      rw [hp] at h1 h2
      exact cont_exit k h1 h2

theorem joinL_spec : ∀ {o : List (List Prop)} {ob : List Prop}, AllP (joinL o ob) → (∀ k p, getL o k = some p → AllP p) ∧ AllP ob
  | [], ob, h => ⟨fun k p e => by simp [getL] at e, h⟩
  | [] :: l, ob, h => by
    obtain ⟨h1, h2⟩ := joinL_spec (o := l) (ob := ob) h
    refine ⟨fun k p e => ?_, h2⟩
    cases k with
    | zero => simp only [getL] at e; cases e; trivial
    | succ k => exact h1 k p (by simpa [getL] using e)
  | (q :: qs) :: l, ob, h => by
    obtain ⟨h0, h'⟩ := AllP_append (ps := q :: qs) h
    obtain ⟨h1, h2⟩ := joinL_spec (o := l) (ob := ob) h'
    refine ⟨fun k p e => ?_, h2⟩
    cases k with
    | zero => simp only [getL] at e; cases e; exact h0
    | succ k => exact h1 k p (by simpa [getL] using e)

/-- what was taken for granted is so -/
def Good (P : Program) (T : Table) (ops : List Oper) (F : List (Nat × Bool)) (st : St) : Prop :=
  ∀ j b, lookF F j = some b → ∀ g, gval P T ops F j st = some g → g = b

theorem lit_congr {F F' : List (Nat × Bool)} {i : Nat} (h : lookF F i = lookF F' i) (v : SV) : lit F i v = lit F' i v := by
  unfold lit
  rw [h]

theorem runR_congr {P : Program} {T : Table} {ops : List Oper} {F F' : List (Nat × Bool)} : ∀ (is : List Nat) (rs : RS), (∀ i ∈ is, lookF F i = lookF F' i) → runR P T ops F is rs = runR P T ops F' is rs
  | [], rs, _ => rfl
  | i :: is, rs, h => by
    have h1 : stepR P T ops F i rs = stepR P T ops F' i rs := by
      unfold stepR
      simp only [lit_congr (h i (by simp))]
    simp only [runR, h1]
    cases stepR P T ops F' i rs with
    | none => rfl
    | some r => exact runR_congr is r (fun j hj => h j (by simp [hj]))

theorem gval_congr {P : Program} {T : Table} {ops : List Oper} {F F' : List (Nat × Bool)} {j : Nat} {st : St} (h : ∀ i, i < j → lookF F i = lookF F' i) : gval P T ops F j st = gval P T ops F' j st := by
  unfold gval
  rw [runR_congr (List.range j) _ (fun i hi => h i (by simpa using hi))]

theorem cd_good {P : Program} {T : Table} {ops : List Oper} {F : List (Nat × Bool)} {st : St} (hG : Good P T ops F st) : ∀ (m : Nat) (rs : RS), m ≤ ops.length → runR P T ops F (List.range m) (rs0 ops.length st) = some rs →
    (∀ k p, getL rs.cd k = some p → p) ∧ rs.cd.length = ops.length ∧ rs.ob.length = ops.length := by
  intro m
  induction m with
  | zero =>
    intro rs _ h
    simp only [List.range_zero, runR] at h
    cases h
    refine ⟨fun k p e => ?_, by simp [rs0], by simp [rs0]⟩
    simp only [rs0, getL_eq, List.getElem?_replicate] at e
    split at e
    · cases e; trivial
    · cases e
  | succ m ih =>
    intro rs hm h
    rw [List.range_succ, runR_append] at h
    cases h1 : runR P T ops F (List.range m) (rs0 ops.length st) with
    | none => simp [h1] at h
    | some r1 =>
      simp only [h1, Option.bind_some, runR] at h
      obtain ⟨i1, i2, i3⟩ := ih r1 (by omega) h1
      cases h2 : stepR P T ops F m r1 with
      | none => simp [h2] at h
      | some r2 =>
        simp only [h2] at h
        cases h
        have hl := stepR_len h2
        refine ⟨fun k p e => ?_, by omega, by omega⟩
        by_cases hk : k = m
        · subst hk
          have h2' := h2
          unfold stepR at h2
          cases g1 : getL ops k with
          | none => simp [g1] at h2
          | some o =>
            simp only [g1] at h2
            cases g2 : guardB ops o r1.tmps with
            | none => simp [g2] at h2
            | some b =>
              cases b with
              | false => simp only [g2] at h2; cases h2; exact i1 k p e
              | true =>
                simp only [g2] at h2
                cases g3 : evalC P T ops o (evO r1.tmps) r1.heap with
                | none => simp [g3] at h2
                | some x =>
                  obtain ⟨v, hh, pre⟩ := x
                  simp only [g3] at h2
                  cases h2
                  simp only [getL_setL, if_true] at e
                  rw [if_pos (by omega)] at e
                  cases e
                  unfold lit
                  cases g4 : lookF F k with
                  | none => trivial
                  | some b =>
                    simp only []
                    cases g5 : v.bool? with
                    | none => trivial
                    | some g =>
                      simp only []
                      refine hG k b g4 g ?_
                      unfold gval
                      simp only [h1, g1, g2, (evalC_some g3).1, g5]
        · have := (stepR_ob h2 hk).2
          rw [this] at e
          exact i1 k p e

theorem AllP_of {ps : List Prop} (h : ∀ k p, getL ps k = some p → p) : AllP ps := by
  induction ps with
  | nil => trivial
  | cons q ps ih => exact ⟨h 0 q rfl, ih fun k p e => h (k + 1) p (by simpa [getL] using e)⟩

/-- a region, whatever its tests come to -/
theorem forkR_sound {α : Type} {P : Program} {T : Table} {ops : List Oper} {st : St} {k : St → List (List Prop) → Option α} {x : α} {G : Prop}
    (hk : ∀ rs F, Good P T ops F st → runR P T ops F (List.range ops.length) (rs0 ops.length st) = some rs → k ⟨rs.tmps, rs.heap⟩ rs.ob = some x → G) :
    ∀ (gs : List Nat) (F : List (Nat × Bool)), gs.Pairwise (· < ·) → (∀ j, j ∈ gs → ∀ i b, lookF F i = some b → i < j) → Good P T ops F st → forkR P T ops st k gs F = some x → G := by
  intro gs
  induction gs with
  | nil =>
    intro F _ _ hG h
    simp only [forkR] at h
    cases h1 : runR P T ops F (List.range ops.length) (rs0 ops.length st) with
    | none => simp [h1] at h
    | some rs => simp only [h1] at h; exact hk rs F hG h1 h
  | cons j gs ih =>
    intro F hs hF hG h
    rw [List.pairwise_cons] at hs
    simp only [forkR] at h
    cases h1 : gval P T ops F j st with
    | none =>
      simp only [h1] at h
      exact ih F hs.2 (fun i hi => hF i (by simp [hi])) hG h
    | some g =>
      simp only [h1] at h
      have step : ∀ b, g = b → forkR P T ops st k gs ((j, b) :: F) = some x → G := by
        intro b hb h'
        subst hb
        refine ih ((j, g) :: F) hs.2 ?_ ?_ h'
        · intro i hi i' b' hl
          simp only [lookF] at hl
          by_cases hji : Nat.beq j i' = true
          · have := Nat.eq_of_beq_eq_true hji
            have := hs.1 i hi
            omega
          · rw [Bool.eq_false_iff.2 hji] at hl
            have := hF j (by simp) i' b' hl
            have := hs.1 i hi
            omega
        · intro i b' hl g' hg'
          simp only [lookF] at hl
          have look : ∀ i', i' < j → lookF ((j, g) :: F) i' = lookF F i' := by
            intro i' hi'
            have : Nat.beq j i' = false := Bool.eq_false_iff.2 fun e => by have := Nat.eq_of_beq_eq_true e; omega
            simp only [lookF, this, cond_false]
          by_cases hji : Nat.beq j i = true
          · have hij := Nat.eq_of_beq_eq_true hji
            subst hij
            rw [hji] at hl
            cases hl
            rw [gval_congr look] at hg'
            rw [h1] at hg'
            exact (Option.some.inj hg').symm
          · rw [Bool.eq_false_iff.2 hji] at hl
            have hlt := hF j (by simp) i b' hl
            rw [gval_congr (F' := F) (fun i' hi' => look i' (by omega))] at hg'
            exact hG i b' hl g' hg'
      cases g with
      | true => exact step true rfl h
      | false => exact step false rfl h

theorem gsOf_sorted (ops : List Oper) : (gsOf ops).Pairwise (· < ·) := by
  unfold gsOf
  cases hasGuard ops with
  | false => exact List.Pairwise.nil
  | true => exact List.Pairwise.filter _ List.pairwise_lt_range

theorem left_all (n : Nat) : Left n (Array.replicate n false) (List.range n) := by
  refine ⟨fun i => ?_, List.pairwise_lt_range, by simp⟩
  simp only [List.mem_range]
  constructor
  · intro h
    refine ⟨h, ?_⟩
    rw [Array.getD_eq_getD_getElem?, Array.getElem?_eq_getElem (by simpa using h)]
    simp
  · exact fun h => h.1

/-- a region's text order -/
theorem runR_ops {P : Program} {T : Table} (hT : TableOK P T) {w0 : World} {fb : Nat → Prop} {ops : Array Oper} {F : List (Nat × Bool)} {Q : Exit → Act → World → Prop} {r' : RS}
    (hob : ∀ k p, getL r'.ob k = some p → AllP p) (hcd : AllP r'.cd) (hQ : ∀ ρ' a' w', Rel w0 fb ρ' r'.tmps r'.heap a' w' → Q .normal a' w') :
    ∀ (is : List Nat) (rs : RS) (ρ : Env) (a : Act) (w : World), is.Nodup → (∀ i ∈ is, i < ops.size) → runR P T ops.toList F is rs = some r' → rs.ob.length = ops.size → rs.cd.length = ops.size →
      Rel w0 fb ρ rs.tmps rs.heap a w → wpOps P ops Q is a w
  | [], rs, ρ, a, w, _, _, h, _, _, hr => by simp only [runR] at h; cases h; exact hQ ρ a w hr
  | i :: is, rs, ρ, a, w, hn, hlt, h, hlo, hlc, hr => by
    simp only [runR] at h
    rw [wpOps_cons]
    cases h1 : stepR P T ops.toList F i rs with
    | none => simp [h1] at h
    | some r1 =>
      simp only [h1] at h
      rw [List.nodup_cons] at hn
      have hk := runR_ob h i hn.1
      have hlen := stepR_len h1
      have hi := hlt i (by simp)
      refine stepR_wp hT hr h1 (fun p hp => hob i p (by rw [hk.1]; exact hp)) (fun p hp => AllP_get hcd (k := i) (by rw [hk.2]; exact hp)) (by omega) (by omega) ?_
      intro ρ' a' w' hr'
      exact runR_ops hT hob hcd hQ is r1 ρ' a' w' hn.2 (fun j hj => hlt j (by simp [hj])) h (by omega) (by omega) hr'

def Leaf (P : Program) (w0 : World) (fb : Nat → Prop) (Q : Exit → Act → World → Prop) : Out → Prop
  | .fall st => ∀ ρ a w, Rel w0 fb ρ st.tmps st.heap a w → Q .normal a w
  | .ret st => ∀ ρ a w, Rel w0 fb ρ st.tmps st.heap a w → Q .ret a w
  | .ex id st => ∀ ρ a w, Rel w0 fb ρ st.tmps st.heap a w → Q (.exit id) a w
  | .stop k st => ∀ ρ a w, Rel w0 fb ρ st.tmps st.heap a w → cont P Q k .normal a w

theorem exec_sound {α : Type} {P : Program} {T : Table} (hT : TableOK P T) (hm : P.follows .mixedOrders = true) {w0 : World} {fb : Nat → Prop} {un : List It → Bool} {Q : Exit → Act → World → Prop} {leaf : Out → List Prop → Option α} {x : α}
    (hQ : ∀ out ob, leaf out ob = some x → AllP ob ∧ Leaf P w0 fb Q out) :
    ∀ (n : Nat) (k : List It) (st : St) (ob0 : List Prop), exec P T un leaf n k st ob0 = some x →
      AllP ob0 ∧ ∀ (ρ : Env) (a : Act) (w : World), Rel w0 fb ρ st.tmps st.heap a w → cont P Q k .normal a w := by
  intro n
  induction n with
  | zero => intro k st ob0 h; simp [exec] at h
  | succ n ih =>
    intro k st ob0 h
    cases k with
    | nil =>
      simp only [exec] at h
      obtain ⟨hob, hl⟩ := hQ _ _ h
      exact ⟨hob, fun ρ a w hr => hl ρ a w hr⟩
    | cons it k =>
      cases it with
      | blk id =>
        simp only [exec] at h
        obtain ⟨h1, h2⟩ := ih k st ob0 h
        exact ⟨h1, h2⟩
      | lp c =>
        simp only [exec] at h
        cases hun : un k with
        | true =>
          simp only [hun, cond_true] at h
          obtain ⟨h1, h2⟩ := ih _ st ob0 h
          exact ⟨h1, fun ρ a w hr => loopW_round (h2 ρ a w hr)⟩
        | false =>
          simp only [hun, cond_false] at h
          obtain ⟨hob, hl⟩ := hQ _ _ h
          exact ⟨hob, fun ρ a w hr => hl ρ a w hr⟩
      | code c =>
        cases c <;> simp only [exec] at h <;> try (cases h; done)
        case skip =>
          obtain ⟨h1, h2⟩ := ih k st ob0 h
          exact ⟨h1, fun ρ a w hr => wp_skip (h2 ρ a w hr)⟩
        case region id ops draw =>
          by_cases hc : (!draw || checkB T ops.toList) = true
          · rw [hc] at h
            simp only [cond_true] at h
            refine forkR_sound (P := P) (T := T) (ops := ops.toList) (st := st) ?_ (gsOf ops.toList) [] (gsOf_sorted _) (fun j _ i b hl => by simp [lookF] at hl) (fun j b hl => by simp [lookF] at hl) h
            intro rs F hG hrun hk
            obtain ⟨h1, h2⟩ := ih k ⟨rs.tmps, rs.heap⟩ _ hk
            obtain ⟨j1, j2⟩ := joinL_spec h1
            have hcd := cd_good hG ops.toList.length rs (Nat.le_refl _) hrun
            refine ⟨j2, fun ρ a w hr => ?_⟩
            have hsz : ops.toList.length = ops.size := by simp
            cases draw with
            | false =>
              refine wp_region ?_
              rw [← hsz]
              exact runR_ops hT j1 (AllP_of hcd.1) (fun ρ' a' w' hr' => h2 ρ' a' w' hr') (List.range ops.toList.length) _ ρ a w List.nodup_range (fun i hi => by simpa using hi) hrun (by simp [rs0]) (by simp [rs0]) hr
            | true =>
              have hck : checkB T ops.toList = true := by simpa using hc
              refine wp_region_any hm ?_
              exact any_sound hT (checkB_spec hck) j1 (AllP_of hcd.1) (fun ρ' a' w' hr' => h2 ρ' a' w' hr') ops.size _ (List.range ops.size) (rs0 ops.toList.length st) ρ a _ (by simp) (left_all _) (by rw [← hsz]; exact hrun) (by simp [rs0]) (by simp [rs0]) hr.drew (fun j x e _ hl => by
                rw [Array.getD_eq_getD_getElem?, Array.getElem?_replicate] at hl
                split at hl <;> simp at hl)
          · rw [Bool.eq_false_iff.2 hc] at h
            cases h
        case seq x y =>
          obtain ⟨h1, h2⟩ := ih _ st ob0 h
          exact ⟨h1, fun ρ a w hr => wp_seq (h2 ρ a w hr)⟩
        case cond x y z =>
          cases h1 : evO st.tmps x with
          | none => simp [h1] at h
          | some s =>
            cases h2 : s.bool? with
            | none => simp [h1, h2] at h
            | some g =>
              simp only [h1, h2] at h
              cases g with
              | true =>
                simp only [cond_true] at h
                obtain ⟨h3, h4⟩ := ih _ st ob0 h
                refine ⟨h3, fun ρ a w hr => ?_⟩
                have e := SV.bool?_spec h2 (evO_spec hr.tmps x s h1)
                exact wp_cond_true e (h4 ρ a w hr)
              | false =>
                simp only [cond_false] at h
                obtain ⟨h3, h4⟩ := ih _ st ob0 h
                refine ⟨h3, fun ρ a w hr => ?_⟩
                have e := SV.bool?_spec h2 (evO_spec hr.tmps x s h1)
                exact wp_cond_false e (h4 ρ a w hr)
        case block id b =>
          obtain ⟨h1, h2⟩ := ih _ st ob0 h
          exact ⟨h1, fun ρ a w hr => wp_block (h2 ρ a w hr)⟩
        case loop b =>
          cases hun : un k with
          | true =>
            simp only [hun, cond_true] at h
            obtain ⟨h1, h2⟩ := ih _ st ob0 h
            exact ⟨h1, fun ρ a w hr => wp_of_loopW (loopW_round (h2 ρ a w hr))⟩
          | false =>
            simp only [hun, cond_false] at h
            obtain ⟨hob, hl⟩ := hQ _ _ h
            exact ⟨hob, fun ρ a w hr => hl ρ a w hr⟩
        case exit id =>
          cases h1 : popTo id k with
          | none =>
            simp only [h1] at h
            obtain ⟨hob, hl⟩ := hQ _ _ h
            refine ⟨hob, fun ρ a w hr => wp_exit (cont_exit k (fun k' e => by rw [h1] at e; cases e) (fun _ => hl ρ a w hr))⟩
          | some k' =>
            simp only [h1] at h
            obtain ⟨h2, h3⟩ := ih k' st ob0 h
            refine ⟨h2, fun ρ a w hr => wp_exit (cont_exit k (fun k'' e => by rw [h1] at e; cases e; exact h3 ρ a w hr) (fun e => by rw [h1] at e; cases e))⟩
        case ret =>
          obtain ⟨hob, hl⟩ := hQ _ _ h
          exact ⟨hob, fun ρ a w hr => wp_ret (cont_ret (hl ρ a w hr) k)⟩

end Eng
