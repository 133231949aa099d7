/-
A program's operations carried out on values written out: an operation's step is sound.
-/
import Derived.Test.YtahkpabndfaoiaaES
namespace Eng
open Go Go.RowKit

theorem getV_spec {P : Program} {ρ : Env} {t : TypeId} {off : Nat} {blk : Blk} {sv : SV} {pre : List Prop} {l junk : List Value} {w : World} {b : Nat} (e : getV P t off blk = some (sv, pre)) (hp : AllP pre) (hc : denCs ρ blk.cells = some l)
    (hw : w.heap[b]? = some (.cells (l ++ junk).toArray blk.ty (0, 0))) : ∃ v, relS ρ sv v ∧ (loadVar t ⟨b, off, none⟩).run P w = .ok v w := by
  unfold getV at e
  cases hk : blk.kd.live with
  | false => rw [hk] at e; cases e
  | true =>
    rw [hk] at e
    simp only [cond_true] at e
    split at e
    · rename_i k x hcells
      split at e
      · rename_i inf h1 h2
        cases e
        have hlt : off < x.length := by simpa [Nat.blt_eq] using hp.1
        rw [hcells] at hc
        simp only [denCs, denC, List.append_nil] at hc
        cases hc
        have hx : (x.map (Value.int k) ++ junk)[off]? = some (.int k (x.getD off 0)) := by
          rw [List.getElem?_append_left (by simpa using hlt)]
          simp [List.getD, List.getElem?_eq_getElem hlt]
        refine ⟨.int k (x.getD off 0), rfl, ?_⟩
        unfold loadVar
        simp only [Sem.run_bind, run_isAgg h1, Result.andThen_ok, Bool.false_eq_true, if_false, run_load, cell_in hw, hx]
      · cases e
    · cases h1 : partS P t blk.cells off with
      | none => simp [h1] at e
      | some s =>
        simp only [h1] at e
        cases e
        exact run_loadVar h1 hc hw

theorem putV_spec {P : Program} {ρ : Env} {t : TypeId} {p : PV} {off : Nat} {blk blk' : Blk} {pre : List Prop} {l junk : List Value} {w : World} {b : Nat} {v : Value} (e : putV P t p off blk = some (blk', pre)) (hp : AllP pre)
    (hc : denCs ρ blk.cells = some l) (hw : w.heap[b]? = some (.cells (l ++ junk).toArray blk.ty (0, 0))) (hv : denP ρ p = some v) :
    blk' = ⟨blk'.cells, blk.ty, blk.kd⟩ ∧ blk.kd.wr = true ∧ ∃ l' w', denCs ρ blk'.cells = some l' ∧ l'.length = l.length ∧ (storeVar t ⟨b, off, none⟩ v).run P w = .ok () w' ∧
      w'.heap[b]? = some (.cells (l' ++ junk).toArray blk.ty (0, 0)) ∧ sameBut w w' b := by
  unfold putV at e
  cases h5 : P.info? t with
  | none => simp [h5] at e
  | some inf =>
    simp only [h5] at e
    cases hok : (blk.kd.wr && p.ok && okCs p.cells && Nat.beq (widS p.cells) inf.size) with
    | false => rw [hok] at e; cases e
    | true =>
      rw [hok] at e
      simp only [cond_true] at e
      simp only [Bool.and_eq_true] at hok
      obtain ⟨⟨⟨ok0, ok1⟩, ok2⟩, ok3⟩ := hok
      have ok3 := Nat.eq_of_beq_eq_true ok3
      have hcv := PV.cells_spec ok1 hv
      have hsz : v.cells.size = inf.size := by have := denCs_length hcv; simp at this; omega
      have store : ∀ {q : List Value}, q = v.cells.toList → off + q.length ≤ l.length → ∃ w', (storeVar t ⟨b, off, none⟩ v).run P w = .ok () w' ∧ w'.heap[b]? = some (.cells (spl l off q ++ junk).toArray blk.ty (0, 0)) ∧ sameBut w w' b := by
        rintro q rfl hq
        obtain ⟨w', s1, s2, s3⟩ := run_store_cells (P := P) off v.cells.toList 0 (l ++ junk) w hw (by simp at hq ⊢; omega) (okCs_spec ok2 hcv)
        rw [Nat.add_zero, spl_app v.cells.toList l junk off (by simpa using hq)] at s2
        refine ⟨w', ?_, s2, s3⟩
        simp only [storeVar, Go.sizeOf, Sem.run_bind, run_typeInfo w h5, Result.andThen_ok, Sem.run_pure, ne_eq, hsz, not_true_eq_false, if_false, s1]
      split at e
      · rename_i k x hcells
        cases h6 : SV.int? (.pv p) with
        | none => simp [h6] at e
        | some kv =>
          obtain ⟨k', n⟩ := kv
          simp only [h6] at e
          cases hk : ikEq k' k with
          | false => rw [hk] at e; cases e
          | true =>
            rw [hk] at e
            simp only [cond_true] at e
            cases e
            have hk' := ikEq_spec hk
            subst hk'
            have hlt : off < x.length := by simpa [Nat.blt_eq] using hp.1
            rw [hcells] at hc
            simp only [denCs, denC, List.append_nil] at hc
            cases hc
            have hvv : v = .int k' n := SV.int?_spec (ρ := ρ) h6 hv
            subst hvv
            obtain ⟨w', s1, s2, s3⟩ := store (q := [.int k' n]) rfl (by simp; omega)
            refine ⟨rfl, ok0, _, w', by simp [denCs, denC]; rfl, by simp, s1, ?_, s3⟩
            rw [s2]
            simp [spl]
      · cases h6 : putAt blk.cells off p.cells with
        | none => simp [h6] at e
        | some cs =>
          simp only [h6] at e
          cases e
          obtain ⟨q1, q2⟩ := putAt_spec blk.cells off p.cells h6 hc hcv
          obtain ⟨w', s1, s2, s3⟩ := store rfl q2
          exact ⟨rfl, ok0, _, w', q1, spl_length _ _ _, s1, s2, s3⟩

/-- one operation: whoever goes on from what is known behind it, goes on from what is there -/
theorem evalOp_wp {P : Program} {T : Table} (hT : TableOK P T) {w0 : World} {fb : Nat → Prop} {ρ : Env} {tm : List SV} {h h' : Heap} {a : Act} {w : World} {o : Oper} {sv : SV} {pre : List Prop}
    (r : Rel w0 fb ρ tm h a w) (e : evalOp P T o (evO tm) h = some (sv, h', pre)) (hp : AllP pre) {K : Act → World → Prop} {Q : Exit → Act → World → Prop}
    (hK : ∀ (ρ' : Env) w' v, ρ.le ρ' → relS ρ' sv v → Rel w0 fb ρ' tm h' a w' → K (a.put o.dst v) w') : o.wp P a w K Q := by
  have hev := evO_spec r.tmps
  unfold evalOp at e
  cases hown : ownOp P T o (evO tm) h with
  | some rr =>
    simp only [hown] at e
    subst e
    exact ownOp_wp r hT hown hp hK
  | none =>
  simp only [hown] at e
  split at e
  · -- load
    rename_i t x ho
    cases h1 : evO tm x with
    | none => simp [h1] at e
    | some s =>
      cases h2 : loadV P t s h with
      | none => simp [h1, h2] at e
      | some v =>
        obtain ⟨v, p'⟩ := v
        simp only [h1, h2] at e
        cases e
        unfold loadV at h2
        split at h2
        · rename_i d i off
          cases h3 : getB h d i with
          | none => simp [h3] at h2
          | some blk =>
            simp only [h3] at h2
            obtain ⟨b, e1, _, e3⟩ := r.heap d i blk h3
            obtain ⟨b', g1, g2⟩ := relS_ptr (hev x _ h1)
            rw [e1] at g1
            cases g1
            rcases e3 with e3 | ⟨l, junk, q1, q2, _⟩
            · unfold getV at h2
              rw [e3] at h2
              cases h2
            · obtain ⟨v, v1, v2⟩ := getV_spec h2 hp q1 q2
              unfold Oper.wp execOp
              simp only [ho, g2, Instr.loadAt, Instr.sureAddr, Sem.run_bind, Sem.run_pure, Result.andThen_ok, v2, Oper.upon]
              exact hK ρ w v (Env.le_refl ρ) v1 r
        · cases h2
  · -- store
    rename_i t x y ho
    cases h1 : evO tm x with
    | none => simp [h1] at e
    | some s =>
      cases h2 : evO tm y with
      | none => simp [h1, h2] at e
      | some sy =>
        cases h3 : storeV P t s sy h with
        | none => simp [h1, h2, h3] at e
        | some h'' =>
          obtain ⟨h'', p'⟩ := h''
          simp only [h1, h2, h3] at e
          cases e
          unfold storeV at h3
          split at h3
          · rename_i d i off p
            cases h4 : getB h d i with
            | none => simp [h4] at h3
            | some blk =>
              simp only [h4] at h3
              cases h5 : putV P t p off blk with
              | none => simp [h5] at h3
              | some bp =>
                obtain ⟨blk', p''⟩ := bp
                simp only [h5] at h3
                cases h3
                obtain ⟨b, e1, _, e3⟩ := r.heap d i blk h4
                obtain ⟨b', g1, g2⟩ := relS_ptr (hev x _ h1)
                rw [e1] at g1
                cases g1
                have hv : denP ρ p = some (a.eval y) := hev y _ h2
                rcases e3 with e3 | ⟨l, junk, q1, q2, _⟩
                · unfold putV at h5
                  rw [e3] at h5
                  cases h6 : P.info? t <;> simp [h6, Kd.wr] at h5
                · obtain ⟨z1, z2, l', w', z3, z4, z5, z6, z7⟩ := putV_spec h5 hp q1 q2 hv
                  unfold Oper.wp execOp
                  simp only [ho, g2, Instr.storeAt, Instr.sureAddr, Sem.run_bind, Sem.run_pure, Result.andThen_ok, z5, Oper.upon]
                  refine hK ρ w' undef (Env.le_refl ρ) ⟨[], rfl, rfl⟩ ?_
                  rw [z1]
                  exact r.wrote h4 z2 e1 z3 q2 z4 z6 z7
          · cases h3
  · -- alloc
    rename_i t ho
    cases h1 : P.info? t with
    | none => simp [h1] at e
    | some inf =>
      cases h2 : inf.zero with
      | none => simp [h1, h2] at e
      | some z =>
        simp only [h1, h2] at e
        unfold madeV at e
        cases h3 : o.dst with
        | none => simp [h3] at e
        | some d =>
          simp only [h3] at e
          cases h4 : pushB h d ⟨z.cells.toList.map .val, t, .var⟩ with
          | none => simp [h4] at e
          | some hn =>
            obtain ⟨h'', n⟩ := hn
            simp only [h4] at e
            cases e
            obtain ⟨ρ', m1, m2, _, m3⟩ := r.made (denCs_vals ρ _) h4 (fun h => by cases h)
            have hz : (typeInfo t).run P w = .ok inf w := run_typeInfo w h1
            unfold Oper.wp execOp
            simp only [ho, Instr.alloc, zeroValue, Sem.run_bind, hz, Result.andThen_ok, h2, Sem.run_pure, newVar, newRow, run_newObj, Oper.upon]
            refine hK ρ' _ _ m1 ?_ (by simpa using m3)
            simp [relS, denP, denC, m2]
  · -- box
    rename_i t x ho
    split at e
    · rename_i p h1
      by_cases hok : p.ok = true
      · rw [hok] at e
        simp only [cond_true] at e
        unfold madeV at e
        cases h3 : o.dst with
        | none => simp [h3] at e
        | some d =>
          simp only [h3] at e
          cases h4 : pushB h d ⟨p.cells, t, .var⟩ with
          | none => simp [h4] at e
          | some hn =>
            obtain ⟨h'', n⟩ := hn
            simp only [h4] at e
            cases e
            have hv : denP ρ p = some (a.eval x) := hev x _ h1
            have hc := PV.cells_spec hok hv
            obtain ⟨ρ', m1, m2, _, m3⟩ := r.made hc h4 (fun h => by cases h)
            unfold Oper.wp execOp
            simp only [ho, Instr.box, Sem.run_bind, Result.andThen_ok, Sem.run_pure, newVar, newRow, run_newObj, Oper.upon]
            refine hK ρ' _ _ m1 ?_ (by simpa using m3)
            simp [relS, denP, denC, m2]
      · rw [Bool.eq_false_iff.2 hok] at e
        cases e
    · cases e
  · -- what leaves memory alone
    cases h1 : pureOp P T (evO tm) o.op with
    | none => simp [h1] at e
    | some vp =>
      obtain ⟨v', pre'⟩ := vp
      simp only [h1] at e
      cases e
      obtain ⟨v, v1, v2⟩ := pureOp_spec hT hev h1 hp w
      unfold Oper.wp
      rcases v2 with v2 | ⟨f, args, v2, v3⟩
      · rw [v2]
        exact hK ρ w v (Env.le_refl ρ) v1 r
      · rw [v2]
        refine v3.mono ?_
        rintro e' w' ⟨rfl, hb⟩
        exact hK ρ w' v (Env.le_refl ρ) v1 (r.below hb)

/-- where one stands in a region: the slots, memory, what must hold of each operation, what is taken for granted of each -/
structure RS where
  tmps : List SV
  heap : Heap
  ob : List (List Prop)
  cd : List Prop

def lookF : List (Nat × Bool) → Nat → Option Bool
  | [], _ => none
  | (j, b) :: F, i => cond (Nat.beq j i) (some b) (lookF F i)

/-- a test whose outcome is taken for granted -/
def lit (F : List (Nat × Bool)) (i : Nat) (v : SV) : SV × Prop :=
  match lookF F i with
  | none => (v, True)
  | some b => match v.bool? with
    | some g => (one (.bool b), g = b)
    | none => (v, True)

def guardB (ops : List Oper) (o : Oper) (tm : List SV) : Option Bool :=
  match o.guard with
  | none => some true
  | some (j, want) => match getL ops j with
    | some oj => match oj.dst with
      | some d => match getL tm d with
        | some s => match s with
          | .pv (.one (.val (.bool g))) => some (g == want)
          | .tup [] => some false
          | _ => none
        | none => none
      | none => none
    | none => none

/-- is a slot's address made in these operations, if at all, by making a variable? -/
def isMake : Op → Bool
  | .alloc _ => true
  | .box _ _ => true
  | _ => false
def varLike (ops : List Oper) (t : Tmp) : Bool := ops.all fun o => match o.dst with
  | some d => cond (Nat.beq d t) (isMake o.op) true
  | none => true
/-- the variable whose place, or part's place, a slot tells -/
def rootOf (ops : List Oper) : Nat → Tmp → Option Tmp
  | 0, _ => none
  | n + 1, t => cond (varLike ops t) (some t) (match ops.find? fun o => match o.dst with | some d => Nat.beq d t | none => false with
    | some o => match o.op with
      | .fieldAddr _ (.tmp u) _ => rootOf ops n u
      | .indexAddr _ (.tmp u) _ => rootOf ops n u
      | _ => none
    | none => none)
/-- a load from, or a store into, a variable goes to the variable's own block -/
def storeAt (ops : List Oper) (o : Oper) : Option Tmp := match o.op with
  | .store _ (.tmp t) _ => rootOf ops 4 t
  | .load _ (.tmp t) => rootOf ops 4 t
  | _ => none
def addrOf (o : Oper) : Operand := match o.op with
  | .store _ x _ => x
  | .load _ x => x
  | _ => .tmp 0
def ownB (ops : List Oper) (o : Oper) (ev : Ev) : Bool := match storeAt ops o with
  | some t => match ev (addrOf o) with
    | some (.pv (.one (.ptr d _ _))) => Nat.beq d t
    | _ => false
  | none => true
def evalC (P : Program) (T : Table) (ops : List Oper) (o : Oper) (ev : Ev) (h : Heap) : Option (SV × Heap × List Prop) :=
  cond (ownB ops o ev) (evalOp P T o ev h) none
theorem evalC_some {P : Program} {T : Table} {ops : List Oper} {o : Oper} {ev : Ev} {h : Heap} {x : SV × Heap × List Prop} (e : evalC P T ops o ev h = some x) : evalOp P T o ev h = some x ∧ ownB ops o ev = true := by
  unfold evalC at e
  cases hb : ownB ops o ev with
  | true => rw [hb] at e; exact ⟨e, rfl⟩
  | false => rw [hb] at e; cases e

def stepR (P : Program) (T : Table) (ops : List Oper) (F : List (Nat × Bool)) (i : Nat) (rs : RS) : Option RS :=
  match getL ops i with
  | none => none
  | some o => match guardB ops o rs.tmps with
    | none => none
    | some false => some ⟨putS rs.tmps o.dst (.tup []), rs.heap, rs.ob, rs.cd⟩
    | some true => match evalC P T ops o (evO rs.tmps) rs.heap with
      | none => none
      | some (v, h, pre) => some ⟨putS rs.tmps o.dst (lit F i v).1, h, setL rs.ob i pre, setL rs.cd i (lit F i v).2⟩

def runR (P : Program) (T : Table) (ops : List Oper) (F : List (Nat × Bool)) : List Nat → RS → Option RS
  | [], rs => some rs
  | i :: is, rs => match stepR P T ops F i rs with
    | some rs' => runR P T ops F is rs'
    | none => none

theorem guardB_spec {w0 : World} {fb : Nat → Prop} {ρ : Env} {tm : List SV} {h : Heap} {a : Act} {w : World} (r : Rel w0 fb ρ tm h a w) {ops : Array Oper} {o : Oper} {b : Bool} (e : guardB ops.toList o tm = some b) :
    Region.wanted o (yielded ops a.tmps) = b := by
  unfold guardB at e
  unfold Region.wanted
  cases hg : o.guard with
  | none => simp only [hg] at e ⊢; exact Option.some.inj e
  | some jw =>
    obtain ⟨j, want⟩ := jw
    simp only [hg] at e ⊢
    cases h1 : getL ops.toList j with
    | none => simp [h1] at e
    | some oj =>
      simp only [h1] at e
      have ho : ops[j]? = some oj := by rw [getL_eq] at h1; simpa using h1
      cases h2 : oj.dst with
      | none => simp [h2] at e
      | some d =>
        simp only [h2] at e
        cases h3 : getL tm d with
        | none => simp [h3] at e
        | some s =>
          simp only [h3] at e
          have hv := r.tmps d s h3
          have hd : d < a.tmps.size := by rw [r.len]; exact getL_some_lt h3
          have hx : a.tmps[d]? = some (a.tmps.getD d undef) := by simp [hd]
          split at e
          · rename_i g
            cases e
            have : a.tmps.getD d undef = .bool g := SV.bool?_spec (s := .pv (.one (.val (.bool g)))) rfl hv
            have hy : yielded ops a.tmps j = some g := by simp only [yielded, ho, Option.bind_some, h2, hx, this]
            rw [hy]
            cases g <;> cases want <;> rfl
          · cases e
            obtain ⟨l, l1, l2⟩ := hv
            simp only [denPs] at l1
            cases l1
            have hy : yielded ops a.tmps j = none := by simp only [yielded, ho, Option.bind_some, h2, hx, l2]
            rw [hy]
            cases want <;> rfl
          · cases e

theorem lit_spec {ρ : Env} {F : List (Nat × Bool)} {i : Nat} {sv : SV} {v : Value} (h : relS ρ sv v) (hc : (lit F i sv).2) : relS ρ (lit F i sv).1 v := by
  unfold lit at *
  cases h1 : lookF F i with
  | none => simpa [h1] using h
  | some b =>
    simp only [h1] at hc ⊢
    cases h2 : sv.bool? with
    | none => simpa [h2] using h
    | some g =>
      simp only [h2] at hc ⊢
      have := SV.bool?_spec h2 h
      subst hc
      rw [this]
      rfl

theorem stepR_wp {P : Program} {T : Table} (hT : TableOK P T) {w0 : World} {fb : Nat → Prop} {ρ : Env} {ops : Array Oper} {F : List (Nat × Bool)} {i : Nat} {rs rs' : RS} {a : Act} {w : World}
    (r : Rel w0 fb ρ rs.tmps rs.heap a w) (e : stepR P T ops.toList F i rs = some rs') (hob : ∀ p, getL rs'.ob i = some p → AllP p) (hcd : ∀ p, getL rs'.cd i = some p → p) (hlo : i < rs.ob.length) (hlc : i < rs.cd.length)
    {K : Act → World → Prop} {Q : Exit → Act → World → Prop} (hK : ∀ ρ' a' w', Rel w0 fb ρ' rs'.tmps rs'.heap a' w' → K a' w') : wpOp P ops Q i K a w := by
  unfold stepR at e
  unfold wpOp
  cases h1 : getL ops.toList i with
  | none => simp [h1] at e
  | some o =>
    simp only [h1] at e
    have ho : ops[i]? = some o := by rw [getL_eq] at h1; simpa using h1
    simp only [ho]
    cases h2 : guardB ops.toList o rs.tmps with
    | none => simp [h2] at e
    | some b =>
      have hw := guardB_spec r h2
      cases b with
      | false =>
        simp only [h2] at e
        cases e
        rw [hw]
        simp only [Bool.false_eq_true, if_false]
        exact hK ρ _ _ (r.put o.dst (s := .tup []) (v := undef) ⟨[], rfl, rfl⟩)
      | true =>
        simp only [h2] at e
        cases h3 : evalC P T ops.toList o (evO rs.tmps) rs.heap with
        | none => simp [h3] at e
        | some x =>
          obtain ⟨v, h, pre⟩ := x
          simp only [h3] at e
          cases e
          rw [hw]
          simp only [if_true]
          left
          have hp : AllP pre := hob _ (by rw [getL_setL, if_pos rfl, if_pos hlo])
          have hc : (lit F i v).2 := hcd _ (by rw [getL_setL, if_pos rfl, if_pos hlc])
          refine evalOp_wp hT r (evalC_some h3).1 hp ?_
          intro ρ' w' vv hle hv hr
          exact hK ρ' _ _ (hr.put o.dst (lit_spec hv hc))

end Eng
