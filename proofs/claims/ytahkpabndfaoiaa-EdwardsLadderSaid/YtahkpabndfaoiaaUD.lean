/-
A program's operations carried out on values written out: an operation's step is sound.
A program's operations carried out on values written out: a region whose order is open comes to what its text's order comes to.
A program's operations carried out on values written out: whole regions.
A program's operations carried out on values written out: code, with loops gone through round by round or left to others.
A program's operations carried out on values written out: whole functions.
Numbers in words: sums and products of words, and what they come to modulo the prime.
A program's operations carried out on values written out: numbers as arguments and results; how a function's reckoning becomes what is known of it.
A program's operations carried out on values written out: functions of one, two and three arguments of known kinds.
A program's operations carried out on values written out: functions with a loop that is gone through by what holds at each round's head.
A program's operations carried out on values written out: functions that take or give slices, and loops gone through from place to place.
A program's operations carried out on values written out: what is known of functions that take or give slices.
A program's operations carried out on values written out: functions with loops gone through from place to place, of plain arguments and results.
A program's operations carried out on values written out: functions whose arguments tell of blocks, as they are carried out.
A program's operations carried out on values written out: what is known of functions that write through one address; tables.
-/
import Derived.Test.YtahkpabndfaoiaaUC
import Derived.LoopN
import Derived.KernelRfl
import Derived.Laws.MathBits

/- A program's operations carried out on values written out: an operation's step is sound. -/
namespace Eng
open Go Go.RowKit

theorem getV_spec {P : Program} {ρ : Env} {t : TypeId} {off : Nat} {blk : Blk} {sv : SV} {pre : List Prop} {l junk : List Value} {w : World} {b : Nat} (e : getV P t off blk = some (sv, pre)) (hp : AllP pre) (hc : denCs ρ blk.cells = some l)
    (hw : w.heap[b]? = some (.cells (l ++ junk).toArray blk.ty (0, 0))) : ∃ v, relS ρ sv v ∧ (loadVar t ⟨b, off, none⟩).run P w = .ok v w := by
  unfold getV at e
  cases hk : blk.kd.live with
  | false => rw [hk] at e; cases e
  | true =>
    rw [hk] at e
    simp only [cond_true] at e
    split at e
    · rename_i k x hcells
      split at e
      · rename_i inf h1 h2
        cases e
        have hlt : off < x.length := by simpa [Nat.blt_eq] using hp.1
        rw [hcells] at hc
        simp only [denCs, denC, List.append_nil] at hc
        cases hc
        have hx : (x.map (Value.int k) ++ junk)[off]? = some (.int k (x.getD off 0)) := by
          rw [List.getElem?_append_left (by simpa using hlt)]
          simp [List.getD, List.getElem?_eq_getElem hlt]
        refine ⟨.int k (x.getD off 0), rfl, ?_⟩
        unfold loadVar
        simp only [Sem.run_bind, run_isAgg h1, Result.andThen_ok, Bool.false_eq_true, if_false, run_load, cell_in hw, hx]
      · cases e
    · cases h1 : partS P t blk.cells off with
      | none => simp [h1] at e
      | some s =>
        simp only [h1] at e
        cases e
        exact run_loadVar h1 hc hw

theorem putV_spec {P : Program} {ρ : Env} {t : TypeId} {p : PV} {off : Nat} {blk blk' : Blk} {pre : List Prop} {l junk : List Value} {w : World} {b : Nat} {v : Value} (e : putV P t p off blk = some (blk', pre)) (hp : AllP pre)
    (hc : denCs ρ blk.cells = some l) (hw : w.heap[b]? = some (.cells (l ++ junk).toArray blk.ty (0, 0))) (hv : denP ρ p = some v) :
    blk' = ⟨blk'.cells, blk.ty, blk.kd⟩ ∧ blk.kd.wr = true ∧ ∃ l' w', denCs ρ blk'.cells = some l' ∧ l'.length = l.length ∧ (storeVar t ⟨b, off, none⟩ v).run P w = .ok () w' ∧
      w'.heap[b]? = some (.cells (l' ++ junk).toArray blk.ty (0, 0)) ∧ sameBut w w' b := by
  unfold putV at e
  cases h5 : P.info? t with
  | none => simp [h5] at e
  | some inf =>
    simp only [h5] at e
    cases hok : (blk.kd.wr && p.ok && okCs p.cells && Nat.beq (widS p.cells) inf.size) with
    | false => rw [hok] at e; cases e
    | true =>
      rw [hok] at e
      simp only [cond_true] at e
      simp only [Bool.and_eq_true] at hok
      obtain ⟨⟨⟨ok0, ok1⟩, ok2⟩, ok3⟩ := hok
      have ok3 := Nat.eq_of_beq_eq_true ok3
      have hcv := PV.cells_spec ok1 hv
      have hsz : v.cells.size = inf.size := by have := denCs_length hcv; simp at this; omega
      have store : ∀ {q : List Value}, q = v.cells.toList → off + q.length ≤ l.length → ∃ w', (storeVar t ⟨b, off, none⟩ v).run P w = .ok () w' ∧ w'.heap[b]? = some (.cells (spl l off q ++ junk).toArray blk.ty (0, 0)) ∧ sameBut w w' b := by
        rintro q rfl hq
        obtain ⟨w', s1, s2, s3⟩ := run_store_cells (P := P) off v.cells.toList 0 (l ++ junk) w hw (by simp at hq ⊢; omega) (okCs_spec ok2 hcv)
        rw [Nat.add_zero, spl_app v.cells.toList l junk off (by simpa using hq)] at s2
        refine ⟨w', ?_, s2, s3⟩
        simp only [storeVar, Go.sizeOf, Sem.run_bind, run_typeInfo w h5, Result.andThen_ok, Sem.run_pure, ne_eq, hsz, not_true_eq_false, if_false, s1]
      split at e
      · rename_i k x hcells
        cases h6 : SV.int? (.pv p) with
        | none => simp [h6] at e
        | some kv =>
          obtain ⟨k', n⟩ := kv
          simp only [h6] at e
          cases hk : ikEq k' k with
          | false => rw [hk] at e; cases e
          | true =>
            rw [hk] at e
            simp only [cond_true] at e
            cases e
            have hk' := ikEq_spec hk
            subst hk'
            have hlt : off < x.length := by simpa [Nat.blt_eq] using hp.1
            rw [hcells] at hc
            simp only [denCs, denC, List.append_nil] at hc
            cases hc
            have hvv : v = .int k' n := SV.int?_spec (ρ := ρ) h6 hv
            subst hvv
            obtain ⟨w', s1, s2, s3⟩ := store (q := [.int k' n]) rfl (by simp; omega)
            refine ⟨rfl, ok0, _, w', by simp [denCs, denC]; rfl, by simp, s1, ?_, s3⟩
            rw [s2]
            simp [spl]
      · cases h6 : putAt blk.cells off p.cells with
        | none => simp [h6] at e
        | some cs =>
          simp only [h6] at e
          cases e
          obtain ⟨q1, q2⟩ := putAt_spec blk.cells off p.cells h6 hc hcv
          obtain ⟨w', s1, s2, s3⟩ := store rfl q2
          exact ⟨rfl, ok0, _, w', q1, spl_length _ _ _, s1, s2, s3⟩

/-- what is read at an address -/
theorem loadV_spec {P : Program} {w0 : World} {fb : Gh} {ρ : Env} {h : Heap} {w : World} (r : HRel w0 fb ρ h w) {t : TypeId} {s sv : SV} {pre : List Prop} {v0 : Value} (e : loadV P t s h = some (sv, pre)) (hp : AllP pre) (hs : relS ρ s v0) :
    ∃ ad v, v0 = .pointer (some ad) ∧ relS ρ sv v ∧ (loadVar t ad).run P w = .ok v w := by
  unfold loadV at e
  split at e
  · rename_i d i off
    cases h3 : getB h d i with
    | none => simp [h3] at e
    | some blk =>
      simp only [h3] at e
      have hlv : blk.kd.live = true := by
        unfold getV at e
        cases hk : blk.kd.live with
        | true => rfl
        | false => rw [hk] at e; cases e
      obtain ⟨b, e1, _, e3⟩ := r.heap d i blk h3 (live_gs hlv)
      obtain ⟨b', g1, g2⟩ := relS_ptr hs
      rw [e1] at g1
      cases g1
      rcases e3 with e3 | ⟨l, junk, q1, q2, _⟩
      · unfold getV at e
        rw [e3] at e
        cases e
      · obtain ⟨v, v1, v2⟩ := getV_spec e hp q1 q2
        exact ⟨_, v, g2, v1, v2⟩
  · rename_i d i off
    cases h3 : getB h d i with
    | none => simp [h3] at e
    | some blk =>
      simp only [h3] at e
      have hgs : blk.kd.isGs = true := by
        unfold getG at e
        cases hk : blk.kd.isGs with
        | true => rfl
        | false => rw [hk] at e; cases e
      obtain ⟨l, u, q1, q2, q3⟩ := r.gs d i blk h3 hgs
      obtain ⟨b, o, g1, g2⟩ := denC_gp (denP_one hs)
      simp only [List.cons.injEq, and_true] at g1
      rcases q3 with ⟨a', c', z1, z2⟩ | ⟨b', pr, junk, fz, z1, z2, z3, z4⟩
      · exfalso
        rw [q2, z1] at g2
        rcases g2 with ⟨n, c, hn, g2⟩ | g2
        · cases g2
          omega
        · cases g2
      · have hbo : b' = b ∧ pr.length = o := by
          rw [q2] at g2
          rcases z4 with ⟨n, c, _, _, z4⟩ | z4
          · rcases g2 with ⟨n', c', _, g2⟩ | g2
            · rw [z4] at g2; cases g2; exact ⟨rfl, rfl⟩
            · rw [z4] at g2; cases g2
          · rcases g2 with ⟨n', c', _, g2⟩ | g2
            · rw [z4] at g2; cases g2
            · rw [z4] at g2; cases g2; exact ⟨rfl, rfl⟩
        obtain ⟨rfl, rfl⟩ := hbo
        obtain ⟨v, v1, v2⟩ := getG_spec e hp q1 z3
        exact ⟨_, v, g1, v1, v2⟩
  · cases e

/-- one operation: whoever goes on from what is known behind it, goes on from what is there -/
theorem evalOp_wp {P : Program} {T : Table} (hT : TableOK P T) {w0 : World} {fb : Gh} {ρ : Env} {tm : List SV} {h h' : Heap} {a : Act} {w : World} {o : Oper} {sv : SV} {pre : List Prop}
    (r : Rel w0 fb ρ tm h a w) (e : evalOp P T o (evO tm) h = some (sv, h', pre)) (hp : AllP pre) {K : Act → World → Prop} {Q : Exit → Act → World → Prop}
    (hK : ∀ (ρ' : Env) w' v, ρ.le ρ' → relS ρ' sv v → Rel w0 fb ρ' tm h' a w' → K (a.put o.dst v) w') : o.wp P a w K Q := by
  have hev := evO_spec r.tmps
  unfold evalOp at e
  cases hown : ownOp P T o (evO tm) h with
  | some rr =>
    simp only [hown] at e
    subst e
    exact ownOp_wp r hT hown hp hK
  | none =>
  simp only [hown] at e
  split at e
  · -- load
    rename_i t x ho
    cases h1 : evO tm x with
    | none => simp [h1] at e
    | some s =>
      cases h2 : loadV P t s h with
      | none => simp [h1, h2] at e
      | some v =>
        obtain ⟨v, p'⟩ := v
        simp only [h1, h2] at e
        cases e
        obtain ⟨ad, u, g2, u1, u2⟩ := loadV_spec r.toHRel h2 hp (hev x _ h1)
        unfold Oper.wp execOp
        simp only [ho, g2, Instr.loadAt, Instr.sureAddr, Sem.run_bind, Sem.run_pure, Result.andThen_ok, u2, Oper.upon]
        exact hK ρ w u (Env.le_refl ρ) u1 r
  · -- store
    rename_i t x y ho
    cases h1 : evO tm x with
    | none => simp [h1] at e
    | some s =>
      cases h2 : evO tm y with
      | none => simp [h1, h2] at e
      | some sy =>
        cases h3 : storeV P t s sy h with
        | none => simp [h1, h2, h3] at e
        | some h'' =>
          obtain ⟨h'', p'⟩ := h''
          simp only [h1, h2, h3] at e
          cases e
          unfold storeV at h3
          split at h3
          · rename_i d i off p
            cases h4 : getB h d i with
            | none => simp [h4] at h3
            | some blk =>
              simp only [h4] at h3
              cases h5 : putV P t p off blk with
              | none => simp [h5] at h3
              | some bp =>
                obtain ⟨blk', p''⟩ := bp
                simp only [h5] at h3
                cases h3
                have hwr : blk.kd.wr = true := by
                  unfold putV at h5
                  cases h6 : P.info? t with
                  | none => simp [h6] at h5
                  | some inf =>
                    cases hk : blk.kd.wr with
                    | true => rfl
                    | false => simp [h6, hk] at h5
                obtain ⟨b, e1, _, e3⟩ := r.heap d i blk h4 (wr_gs hwr)
                obtain ⟨b', g1, g2⟩ := relS_ptr (hev x _ h1)
                rw [e1] at g1
                cases g1
                have hv : denP ρ p = some (a.eval y) := hev y _ h2
                rcases e3 with e3 | ⟨l, junk, q1, q2, _⟩
                · unfold putV at h5
                  rw [e3] at h5
                  cases h6 : P.info? t <;> simp [h6, Kd.wr] at h5
                · obtain ⟨z1, z2, l', w', z3, z4, z5, z6, z7⟩ := putV_spec h5 hp q1 q2 hv
                  unfold Oper.wp execOp
                  simp only [ho, g2, Instr.storeAt, Instr.sureAddr, Sem.run_bind, Sem.run_pure, Result.andThen_ok, z5, Oper.upon]
                  refine hK ρ w' undef (Env.le_refl ρ) ⟨[], rfl, rfl⟩ ?_
                  rw [z1]
                  exact r.wrote h4 z2 e1 z3 q2 z4 z6 z7
          · cases h3
  · -- alloc
    rename_i t ho
    cases h1 : P.info? t with
    | none => simp [h1] at e
    | some inf =>
      cases h2 : inf.zero with
      | none => simp [h1, h2] at e
      | some z =>
        simp only [h1, h2] at e
        unfold madeV at e
        cases h3 : o.dst with
        | none => simp [h3] at e
        | some d =>
          simp only [h3] at e
          cases h4 : pushB h d ⟨z.cells.toList.map .val, t, .var⟩ with
          | none => simp [h4] at e
          | some hn =>
            obtain ⟨h'', n⟩ := hn
            simp only [h4] at e
            cases e
            obtain ⟨ρ', m1, m2, _, m3⟩ := r.made (denCs_vals ρ _) h4 (fun h => by cases h) rfl
            have hz : (typeInfo t).run P w = .ok inf w := run_typeInfo w h1
            unfold Oper.wp execOp
            simp only [ho, Instr.alloc, zeroValue, Sem.run_bind, hz, Result.andThen_ok, h2, Sem.run_pure, newVar, newRow, run_newObj, Oper.upon]
            refine hK ρ' _ _ m1 ?_ (by simpa using m3)
            simp [relS, denP, denC, m2]
  · -- box
    rename_i t x ho
    split at e
    · rename_i p h1
      by_cases hok : p.ok = true
      · rw [hok] at e
        simp only [cond_true] at e
        unfold madeV at e
        cases h3 : o.dst with
        | none => simp [h3] at e
        | some d =>
          simp only [h3] at e
          cases h4 : pushB h d ⟨p.cells, t, .var⟩ with
          | none => simp [h4] at e
          | some hn =>
            obtain ⟨h'', n⟩ := hn
            simp only [h4] at e
            cases e
            have hv : denP ρ p = some (a.eval x) := hev x _ h1
            have hc := PV.cells_spec hok hv
            obtain ⟨ρ', m1, m2, _, m3⟩ := r.made hc h4 (fun h => by cases h) rfl
            unfold Oper.wp execOp
            simp only [ho, Instr.box, Sem.run_bind, Result.andThen_ok, Sem.run_pure, newVar, newRow, run_newObj, Oper.upon]
            refine hK ρ' _ _ m1 ?_ (by simpa using m3)
            simp [relS, denP, denC, m2]
      · rw [Bool.eq_false_iff.2 hok] at e
        cases e
    · cases e
  · -- what leaves memory alone
    cases h1 : pureOp P T (evO tm) o.op with
    | none => simp [h1] at e
    | some vp =>
      obtain ⟨v', pre'⟩ := vp
      simp only [h1] at e
      cases e
      obtain ⟨v, v1, v2⟩ := pureOp_spec hT hev h1 hp w
      unfold Oper.wp
      rcases v2 with v2 | ⟨f, args, v2, v3⟩
      · rw [v2]
        exact hK ρ w v (Env.le_refl ρ) v1 r
      · rw [v2]
        refine v3.mono ?_
        rintro e' w' ⟨rfl, hb⟩
        exact hK ρ w' v (Env.le_refl ρ) v1 (r.below hb)

/-- where one stands in a region: the slots, memory, what must hold of each operation, what is taken for granted of each -/
structure RS where
  tmps : List SV
  heap : Heap
  ob : List (List Prop)
  cd : List Prop

def lookF : List (Nat × Bool) → Nat → Option Bool
  | [], _ => none
  | (j, b) :: F, i => cond (Nat.beq j i) (some b) (lookF F i)

/-- a test whose outcome is taken for granted -/
def lit (F : List (Nat × Bool)) (i : Nat) (v : SV) : SV × Prop :=
  match lookF F i with
  | none => (v, True)
  | some b => match v.bool? with
    | some g => (one (.bool b), g = b)
    | none => (v, True)

def guardB (ops : List Oper) (o : Oper) (tm : List SV) : Option Bool :=
  match o.guard with
  | none => some true
  | some (j, want) => match getL ops j with
    | some oj => match oj.dst with
      | some d => match getL tm d with
        | some s => match s with
          | .pv (.one (.val (.bool g))) => some (g == want)
          | .tup [] => some false
          | _ => none
        | none => none
      | none => none
    | none => none

/-- is a slot's address made in these operations, if at all, by making a variable? -/
def isMake : Op → Bool
  | .alloc _ => true
  | .box _ _ => true
  | _ => false
def varLike (ops : List Oper) (t : Tmp) : Bool := ops.all fun o => match o.dst with
  | some d => cond (Nat.beq d t) (isMake o.op) true
  | none => true
/-- the variable whose place, or part's place, a slot tells -/
def rootOf (ops : List Oper) : Nat → Tmp → Option Tmp
  | 0, _ => none
  | n + 1, t => cond (varLike ops t) (some t) (match ops.find? fun o => match o.dst with | some d => Nat.beq d t | none => false with
    | some o => match o.op with
      | .fieldAddr _ (.tmp u) _ => rootOf ops n u
      | .indexAddr _ (.tmp u) _ => rootOf ops n u
      | .nilCheck (.tmp u) => rootOf ops n u
      | .move (.tmp 0) => some 0
      | _ => none
    | none => none)
/-- a load from, or a store into, a variable goes to the variable's own block -/
def storeAt (ops : List Oper) (o : Oper) : Option Tmp := match o.op with
  | .store _ (.tmp t) _ => rootOf ops 8 t
  | .load _ (.tmp t) => rootOf ops 8 t
  | _ => none
def addrOf (o : Oper) : Operand := match o.op with
  | .store _ x _ => x
  | .load _ x => x
  | _ => .tmp 0
def ownB (ops : List Oper) (o : Oper) (ev : Ev) : Bool := match storeAt ops o with
  | some t => match ev (addrOf o) with
    | some (.pv (.one (.ptr d _ _))) => Nat.beq d t
    | some (.pv (.one (.gp d _ _))) => Nat.beq d t
    | _ => false
  | none => true
def evalC (P : Program) (T : Table) (ops : List Oper) (o : Oper) (ev : Ev) (h : Heap) : Option (SV × Heap × List Prop) :=
  cond (ownB ops o ev) (evalOp P T o ev h) none
theorem evalC_some {P : Program} {T : Table} {ops : List Oper} {o : Oper} {ev : Ev} {h : Heap} {x : SV × Heap × List Prop} (e : evalC P T ops o ev h = some x) : evalOp P T o ev h = some x ∧ ownB ops o ev = true := by
  unfold evalC at e
  cases hb : ownB ops o ev with
  | true => rw [hb] at e; exact ⟨e, rfl⟩
  | false => rw [hb] at e; cases e

def stepR (P : Program) (T : Table) (ops : List Oper) (F : List (Nat × Bool)) (i : Nat) (rs : RS) : Option RS :=
  match getL ops i with
  | none => none
  | some o => match guardB ops o rs.tmps with
    | none => none
    | some false => some ⟨putS rs.tmps o.dst (.tup []), rs.heap, rs.ob, rs.cd⟩
    | some true => match evalC P T ops o (evO rs.tmps) rs.heap with
      | none => none
      | some (v, h, pre) => some ⟨putS rs.tmps o.dst (lit F i v).1, h, setL rs.ob i pre, setL rs.cd i (lit F i v).2⟩

def runR (P : Program) (T : Table) (ops : List Oper) (F : List (Nat × Bool)) : List Nat → RS → Option RS
  | [], rs => some rs
  | i :: is, rs => match stepR P T ops F i rs with
    | some rs' => runR P T ops F is rs'
    | none => none

theorem guardB_spec {w0 : World} {fb : Gh} {ρ : Env} {tm : List SV} {h : Heap} {a : Act} {w : World} (r : Rel w0 fb ρ tm h a w) {ops : Array Oper} {o : Oper} {b : Bool} (e : guardB ops.toList o tm = some b) :
    Region.wanted o (yielded ops a.tmps) = b := by
  unfold guardB at e
  unfold Region.wanted
  cases hg : o.guard with
  | none => simp only [hg] at e ⊢; exact Option.some.inj e
  | some jw =>
    obtain ⟨j, want⟩ := jw
    simp only [hg] at e ⊢
    cases h1 : getL ops.toList j with
    | none => simp [h1] at e
    | some oj =>
      simp only [h1] at e
      have ho : ops[j]? = some oj := by rw [getL_eq] at h1; simpa using h1
      cases h2 : oj.dst with
      | none => simp [h2] at e
      | some d =>
        simp only [h2] at e
        cases h3 : getL tm d with
        | none => simp [h3] at e
        | some s =>
          simp only [h3] at e
          have hv := r.tmps d s h3
          have hd : d < a.tmps.size := by rw [r.len]; exact getL_some_lt h3
          have hx : a.tmps[d]? = some (a.tmps.getD d undef) := by simp [hd]
          split at e
          · rename_i g
            cases e
            have : a.tmps.getD d undef = .bool g := SV.bool?_spec (s := .pv (.one (.val (.bool g)))) rfl hv
            have hy : yielded ops a.tmps j = some g := by simp only [yielded, ho, Option.bind_some, h2, hx, this]
            rw [hy]
            cases g <;> cases want <;> rfl
          · cases e
            obtain ⟨l, l1, l2⟩ := hv
            simp only [denPs] at l1
            cases l1
            have hy : yielded ops a.tmps j = none := by simp only [yielded, ho, Option.bind_some, h2, hx, l2]
            rw [hy]
            cases want <;> rfl
          · cases e

theorem lit_spec {ρ : Env} {F : List (Nat × Bool)} {i : Nat} {sv : SV} {v : Value} (h : relS ρ sv v) (hc : (lit F i sv).2) : relS ρ (lit F i sv).1 v := by
  unfold lit at *
  cases h1 : lookF F i with
  | none => simpa [h1] using h
  | some b =>
    simp only [h1] at hc ⊢
    cases h2 : sv.bool? with
    | none => simpa [h2] using h
    | some g =>
      simp only [h2] at hc ⊢
      have := SV.bool?_spec h2 h
      subst hc
      rw [this]
      rfl

theorem stepR_wp {P : Program} {T : Table} (hT : TableOK P T) {w0 : World} {fb : Gh} {ρ : Env} {ops : Array Oper} {F : List (Nat × Bool)} {i : Nat} {rs rs' : RS} {a : Act} {w : World}
    (r : Rel w0 fb ρ rs.tmps rs.heap a w) (e : stepR P T ops.toList F i rs = some rs') (hob : ∀ p, getL rs'.ob i = some p → AllP p) (hcd : ∀ p, getL rs'.cd i = some p → p) (hlo : i < rs.ob.length) (hlc : i < rs.cd.length)
    {K : Act → World → Prop} {Q : Exit → Act → World → Prop} (hK : ∀ ρ' a' w', Rel w0 fb ρ' rs'.tmps rs'.heap a' w' → K a' w') : wpOp P ops Q i K a w := by
  unfold stepR at e
  unfold wpOp
  cases h1 : getL ops.toList i with
  | none => simp [h1] at e
  | some o =>
    simp only [h1] at e
    have ho : ops[i]? = some o := by rw [getL_eq] at h1; simpa using h1
    simp only [ho]
    cases h2 : guardB ops.toList o rs.tmps with
    | none => simp [h2] at e
    | some b =>
      have hw := guardB_spec r h2
      cases b with
      | false =>
        simp only [h2] at e
        cases e
        rw [hw]
        simp only [Bool.false_eq_true, if_false]
        exact hK ρ _ _ (r.put o.dst (s := .tup []) (v := undef) ⟨[], rfl, rfl⟩)
      | true =>
        simp only [h2] at e
        cases h3 : evalC P T ops.toList o (evO rs.tmps) rs.heap with
        | none => simp [h3] at e
        | some x =>
          obtain ⟨v, h, pre⟩ := x
          simp only [h3] at e
          cases e
          rw [hw]
          simp only [if_true]
          left
          have hp : AllP pre := hob _ (by rw [getL_setL, if_pos rfl, if_pos hlo])
          have hc : (lit F i v).2 := hcd _ (by rw [getL_setL, if_pos rfl, if_pos hlc])
          refine evalOp_wp hT r (evalC_some h3).1 hp ?_
          intro ρ' w' vv hle hv hr
          exact hK ρ' _ _ (hr.put o.dst (lit_spec hv hc))

end Eng

/- A program's operations carried out on values written out: a region whose order is open comes to what its text's order comes to. -/
namespace Eng
open Go Go.RowKit

/-- what an operation has to do with memory -/
inductive Cls where
  | pure | read | make | write | own

def clsOf (T : Table) : Op → Cls
  | .call c => match c.callee with
    | .builtin .append => .own
    | .builtin .copy => .own
    | .value (.func f) => match T.g f with
      | some _ => .own
      | none => match T.sl f with
        | some _ => .own
        | none => .pure
    | _ => .pure
  | .makeSlice _ _ _ => .own
  | .buildSlice _ _ _ => .own
  | .load _ _ => .read
  | .store _ _ _ => .write
  | .alloc _ => .make
  | .box _ _ => .make
  | _ => .pure

def memB : Cls → Cls → Bool
  | .pure, _ => true
  | _, .pure => true
  | .read, .read => true
  | .read, .make => true
  | .make, .make => true
  | _, _ => false

/-- two operations, the first one ahead of the other one in the text, that may change places -/
def farB (T : Table) (ops : Array Oper) (y x : Oper) : Bool := match clsOf T y.op, clsOf T x.op with
  | .write, .write => match storeAt ops.toList y, storeAt ops.toList x with
    | some t, some t' => !Nat.beq t t'
    | _, _ => false
  | .make, .write => match y.dst, storeAt ops.toList x with
    | some d, some t => !Nat.beq d t
    | _, _ => false
  | .read, .write => match storeAt ops.toList y, storeAt ops.toList x with
    | some t, some t' => !Nat.beq t t'
    | _, _ => false
  | .write, .read => match storeAt ops.toList y, storeAt ops.toList x with
    | some t, some t' => !Nat.beq t t'
    | _, _ => false
  | .write, .make => match storeAt ops.toList y, x.dst with
    | some t, some d => !Nat.beq t d
    | _, _ => false
  | _, _ => false
def commB (T : Table) (ops : Array Oper) (y x : Oper) : Bool := y.apart ops x && (memB (clsOf T y.op) (clsOf T x.op) || farB T ops y x)

theorem ev_put {tm : List SV} {dst : Option Tmp} {v : SV} {x : Operand} (h : ∀ d, dst = some d → x ≠ .tmp d) : evO (putS tm dst v) x = evO tm x := by
  cases dst with
  | none => rfl
  | some d =>
    cases x with
    | tmp t =>
      have hne : d ≠ t := fun e => h d rfl (e ▸ rfl)
      simp only [putS, evO, getL_setL, if_neg hne]
    | _ => rfl

theorem argsOf_congr {ev ev' : Ev} : ∀ {xs : List Operand}, (∀ x ∈ xs, ev x = ev' x) → argsOf ev xs = argsOf ev' xs
  | [], _ => rfl
  | x :: xs, h => by
    have h1 := h x (by simp)
    have h2 := argsOf_congr (ev := ev) (ev' := ev') (xs := xs) (fun y hy => h y (by simp [hy]))
    simp only [argsOf, h1, h2]

theorem partsOf_congr {ev ev' : Ev} : ∀ {xs : List (Nat × Operand)}, (∀ x ∈ xs, ev x.2 = ev' x.2) → partsOf ev xs = partsOf ev' xs
  | [], _ => rfl
  | x :: xs, h => by
    have h1 := h x (by simp)
    have h2 := partsOf_congr (ev := ev) (ev' := ev') (xs := xs) (fun y hy => h y (by simp [hy]))
    simp only [partsOf, h1, h2]

theorem ownOp_congr {P : Program} {T : Table} {o : Oper} {ev ev' : Ev} {h : Heap} (hx : ∀ x ∈ o.op.operands, ev x = ev' x) : ownOp P T o ev h = ownOp P T o ev' h := by
  obtain ⟨dst, op, type, pos, after, guard⟩ := o
  simp only at hx
  cases op <;> simp only [ownOp]
  case call c =>
    have hc : ∀ x ∈ c.args.toList, ev x = ev' x := fun x hm => hx x (by simp [Op.operands, Call.operands]; right; simpa using hm)
    have hg : gOp T c dst ev h = gOp T c dst ev' h := by
      unfold gOp
      rw [argsOf_congr hc]
    rw [hg]
    cases gOp T c dst ev' h with
    | some r => rfl
    | none =>
    simp only []
    split
    · rename_i x y t t' _ ha _
      rw [ha] at hc
      simp only [hc x (by simp), hc y (by simp)]
    · rename_i x y t t' _ ha _
      rw [ha] at hc
      simp only [hc x (by simp), hc y (by simp)]
    · rename_i f x _ ha
      rw [ha] at hc
      simp only [hc x (by simp)]
    · rfl
  case makeSlice t l c => rw [hx l (by simp [Op.operands]), hx c (by simp [Op.operands])]
  case buildSlice t n parts =>
    have hc : partsOf ev parts.toList = partsOf ev' parts.toList := partsOf_congr fun x hm => hx x.2 (by simp only [Op.operands]; simp; exact ⟨x.1, by simpa using hm⟩)
    simp only [hc]

theorem evalOp_congr {P : Program} {T : Table} {o : Oper} {ev ev' : Ev} {h : Heap} (hx : ∀ x ∈ o.op.operands, ev x = ev' x) : evalOp P T o ev h = evalOp P T o ev' h := by
  have how : ownOp P T o ev h = ownOp P T o ev' h := ownOp_congr hx
  unfold evalOp
  rw [how]
  cases ownOp P T o ev' h with
  | some r => rfl
  | none =>
  obtain ⟨dst, op, type, pos, after, guard⟩ := o
  simp only at hx
  cases op <;> simp only [pureOp]
  case call c =>
    have hc0 : ∀ x ∈ c.args.toList, ev x = ev' x := fun x hm => hx x (by simp [Op.operands, Call.operands]; right; simpa using hm)
    have hc : argsOf ev c.args.toList = argsOf ev' c.args.toList := argsOf_congr hc0
    have hc' : c.args.toList.map ev = c.args.toList.map ev' := List.map_congr_left hc0
    simp only [hc, hc']
  case build t parts =>
    have hc : partsOf ev parts.toList = partsOf ev' parts.toList := partsOf_congr fun x hm => hx x.2 (by simp only [Op.operands]; simp; exact ⟨x.1, by simpa using hm⟩)
    simp only [hc]
  case move x => rw [hx x (by simp [Op.operands])]
  case assign x => rw [hx x (by simp [Op.operands])]
  case pick c x y => rw [hx c (by simp [Op.operands]), hx x (by simp [Op.operands]), hx y (by simp [Op.operands])]
  case box t x => rw [hx x (by simp [Op.operands])]
  case load t x => rw [hx x (by simp [Op.operands])]
  case store t x y => rw [hx x (by simp [Op.operands]), hx y (by simp [Op.operands])]
  case nilCheck x => rw [hx x (by simp [Op.operands])]
  case binOp op t x y t' => rw [hx x (by simp [Op.operands]), hx y (by simp [Op.operands])]
  case unOp op t x => rw [hx x (by simp [Op.operands])]
  case convert t t' x => rw [hx x (by simp [Op.operands])]
  case fieldAddr t x f => rw [hx x (by simp [Op.operands])]
  case field t x f => rw [hx x (by simp [Op.operands])]
  case indexAddr t x y => rw [hx x (by simp [Op.operands]), hx y (by simp [Op.operands])]
  case index t x y => rw [hx x (by simp [Op.operands]), hx y (by simp [Op.operands])]
  case slice t x lo hi mx =>
    rw [hx x (by simp [Op.operands])]
    cases mx with
    | some m => rfl
    | none =>
      cases lo with
      | some l => cases hi <;> rfl
      | none =>
        cases hi with
        | none => rfl
        | some hh => simp only [hx hh (by simp [Op.operands])]
  case extract x f => rw [hx x (by simp [Op.operands])]

theorem storeAt_spec {ops : List Oper} {o : Oper} {t : Tmp} (h : storeAt ops o = some t) : (∃ ty y, o.op = .store ty (addrOf o) y) ∨ ∃ ty, o.op = .load ty (addrOf o) := by
  unfold storeAt at h
  split at h
  · rename_i ty t' y e
    exact .inl ⟨ty, y, by unfold addrOf; rw [e]⟩
  · rename_i ty t' e
    exact .inr ⟨ty, by unfold addrOf; rw [e]⟩
  · cases h
theorem ownB_congr {ops : List Oper} {o : Oper} {ev ev' : Ev} (h : ∀ x ∈ o.op.operands, ev x = ev' x) : ownB ops o ev = ownB ops o ev' := by
  unfold ownB
  cases hs : storeAt ops o with
  | none => rfl
  | some t =>
    have : ev (addrOf o) = ev' (addrOf o) := by
      rcases storeAt_spec hs with ⟨ty, y, e⟩ | ⟨ty, e⟩
      · exact h _ (by rw [e]; simp [Op.operands])
      · exact h _ (by rw [e]; simp [Op.operands])
    simp only [this]
theorem ownB_other {T : Table} {ops : List Oper} {o : Oper} {ev : Ev} (h : clsOf T o.op ≠ .write) (h' : clsOf T o.op ≠ .read) : ownB ops o ev = true := by
  unfold ownB
  cases hs : storeAt ops o with
  | none => rfl
  | some t =>
    rcases storeAt_spec hs with ⟨ty, y, e⟩ | ⟨ty, e⟩
    · rw [e] at h
      exact absurd rfl h
    · rw [e] at h'
      exact absurd rfl h'
theorem evalC_other {P : Program} {T : Table} {ops : List Oper} {o : Oper} {ev : Ev} {h : Heap} (hc : clsOf T o.op ≠ .write) (hc' : clsOf T o.op ≠ .read) : evalC P T ops o ev h = evalOp P T o ev h := by
  unfold evalC
  rw [ownB_other (T := T) hc hc']
  rfl

theorem ownOp_pure {P : Program} {T : Table} {o : Oper} {ev : Ev} (hc : clsOf T o.op = .pure) (h : Heap) : ownOp P T o ev h = none := by
  obtain ⟨dst, op, type, pos, after, guard⟩ := o
  cases op <;> try (first | rfl | (cases hc; done))
  case call c =>
    simp only [clsOf] at hc
    have hg : gOp T c dst ev h = none := by
      unfold gOp
      split
      · rename_i f h1
        rw [h1] at hc
        simp only [] at hc
        cases h2 : T.g f with
        | none => rfl
        | some sp => rw [h2] at hc; cases hc
      · rfl
    simp only [ownOp, hg]
    split
    · rename_i _ _ _ _ h1 _ _; rw [h1] at hc; cases hc
    · rename_i _ _ _ _ h1 _ _; rw [h1] at hc; cases hc
    · rename_i f x h1 _
      rw [h1] at hc
      simp only [] at hc
      cases h2 : T.sl f with
      | none => rfl
      | some sp =>
        cases h3 : T.g f with
        | none => rw [h2, h3] at hc; cases hc
        | some sp' => rw [h3] at hc; cases hc
    · rfl

theorem evalOp_pure {P : Program} {T : Table} {o : Oper} {ev : Ev} (hc : clsOf T o.op = .pure) (h : Heap) :
    evalOp P T o ev h = match pureOp P T ev o.op with
      | some (v, pre) => some (v, h, pre)
      | none => none := by
  unfold evalOp
  rw [ownOp_pure hc]
  obtain ⟨dst, op, type, pos, after, guard⟩ := o
  cases op <;> first | rfl | (cases hc)

/-- what a step leaves: a value, memory, what must hold and what is taken for granted -/
def effI (P : Program) (T : Table) (ops : List Oper) (F : List (Nat × Bool)) (i : Nat) (o : Oper) (tm : List SV) (h : Heap) : Option (SV × Heap × Option (List Prop × Prop)) :=
  match guardB ops o tm with
  | none => none
  | some false => some (.tup [], h, none)
  | some true => match evalC P T ops o (evO tm) h with
    | none => none
    | some (v, h', pre) => some ((lit F i v).1, h', some (pre, (lit F i v).2))

def updL {α : Type} (l : List α) (i : Nat) : Option α → List α
  | none => l
  | some p => setL l i p

def putRS (rs : RS) (i : Nat) (dst : Option Tmp) (x : SV × Heap × Option (List Prop × Prop)) : RS :=
  ⟨putS rs.tmps dst x.1, x.2.1, updL rs.ob i (x.2.2.map (·.1)), updL rs.cd i (x.2.2.map (·.2))⟩

theorem stepR_eq {P : Program} {T : Table} {ops : List Oper} {F : List (Nat × Bool)} {i : Nat} {rs : RS} {o : Oper} (ho : getL ops i = some o) :
    stepR P T ops F i rs = (effI P T ops F i o rs.tmps rs.heap).map (putRS rs i o.dst) := by
  unfold stepR effI
  simp only [ho]
  cases guardB ops o rs.tmps with
  | none => rfl
  | some b =>
    cases b with
    | false => rfl
    | true =>
      cases h : evalC P T ops o (evO rs.tmps) rs.heap with
      | none => rfl
      | some x => obtain ⟨v, h', pre⟩ := x; rfl

theorem looks_ops {ops : Array Oper} {o : Oper} {x : Operand} (hx : x ∈ o.op.operands) {d : Tmp} (hd : d ∉ o.looksAt ops) : x ≠ .tmp d := by
  intro e
  subst e
  apply hd
  unfold Oper.looksAt
  refine List.mem_append_left _ (List.mem_filterMap.2 ⟨.tmp d, by simpa using hx, rfl⟩)

theorem guardB_put {ops : Array Oper} {o : Oper} {tm : List SV} {dst : Option Tmp} {v : SV} (hd : ∀ d, dst = some d → d ∉ o.looksAt ops) : guardB ops.toList o (putS tm dst v) = guardB ops.toList o tm := by
  unfold guardB
  cases hg : o.guard with
  | none => rfl
  | some jw =>
    obtain ⟨j, want⟩ := jw
    simp only []
    cases h1 : getL ops.toList j with
    | none => rfl
    | some oj =>
      simp only []
      cases h2 : oj.dst with
      | none => rfl
      | some g =>
        simp only []
        have : getL (putS tm dst v) g = getL tm g := by
          cases dst with
          | none => rfl
          | some d =>
            have hne : d ≠ g := by
              intro e
              subst e
              apply hd d rfl
              unfold Oper.looksAt
              have ho : ops[j]? = some oj := by rw [getL_eq] at h1; simpa using h1
              refine List.mem_append_right _ ?_
              simp [hg, ho, h2]
            simp only [putS, getL_setL, if_neg hne]
        rw [this]

theorem effI_put {P : Program} {T : Table} {ops : Array Oper} {F : List (Nat × Bool)} {i : Nat} {o : Oper} {tm : List SV} {h : Heap} {dst : Option Tmp} {v : SV} (hd : ∀ d, dst = some d → d ∉ o.looksAt ops) :
    effI P T ops.toList F i o (putS tm dst v) h = effI P T ops.toList F i o tm h := by
  unfold effI
  rw [guardB_put hd]
  have h1 : ∀ x ∈ o.op.operands, evO (putS tm dst v) x = evO tm x := fun x hx => ev_put fun d e => looks_ops hx (hd d e)
  have : evalOp P T o (evO (putS tm dst v)) h = evalOp P T o (evO tm) h := evalOp_congr h1
  have h2 : ownB ops.toList o (evO (putS tm dst v)) = ownB ops.toList o (evO tm) := ownB_congr h1
  unfold evalC
  rw [this, h2]

theorem effI_pure {P : Program} {T : Table} {ops : List Oper} {F : List (Nat × Bool)} {i : Nat} {o : Oper} {tm : List SV} {h h1 : Heap} {v : SV} {u : Option (List Prop × Prop)} (hc : clsOf T o.op = .pure)
    (e : effI P T ops F i o tm h = some (v, h1, u)) : h1 = h ∧ ∀ h', effI P T ops F i o tm h' = some (v, h', u) := by
  unfold effI at *
  cases hg : guardB ops o tm with
  | none => simp [hg] at e
  | some b =>
    cases b with
    | false => simp only [hg] at e; cases e; exact ⟨rfl, fun h' => rfl⟩
    | true =>
      simp only [hg, evalC_other (show clsOf T o.op ≠ .write by rw [hc]; exact Cls.noConfusion) (show clsOf T o.op ≠ .read by rw [hc]; exact Cls.noConfusion), evalOp_pure hc] at e ⊢
      cases hp : pureOp P T (evO tm) o.op with
      | none => simp [hp] at e
      | some x =>
        obtain ⟨v', pre⟩ := x
        simp only [hp] at e ⊢
        cases e
        exact ⟨rfl, fun h' => rfl⟩

theorem evalOp_read {P : Program} {T : Table} {o : Oper} {ev : Ev} {h h1 : Heap} {v : SV} {pre : List Prop} (hc : clsOf T o.op = .read) (e : evalOp P T o ev h = some (v, h1, pre)) :
    h1 = h ∧ ∀ h', (∀ d i b, getB h d i = some b → getB h' d i = some b) → evalOp P T o ev h' = some (v, h', pre) := by
  obtain ⟨dst, op, type, pos, after, guard⟩ := o
  cases op <;> try (simp only [clsOf] at hc; (repeat' split at hc) <;> cases hc; done)
  rename_i t x
  simp only [evalOp, ownOp] at e ⊢
  cases h2 : ev x with
  | none => simp [h2] at e
  | some s =>
    simp only [h2] at e ⊢
    cases h3 : loadV P t s h with
    | none => simp [h3] at e
    | some v' =>
      obtain ⟨v', p'⟩ := v'
      simp only [h3] at e
      cases e
      refine ⟨rfl, fun h' hh => ?_⟩
      unfold loadV at h3 ⊢
      split at h3
      · rename_i d i off
        cases h4 : getB h d i with
        | none => simp [h4] at h3
        | some blk =>
          simp only [h4] at h3
          simp only [hh d i blk h4, h3]
      · rename_i d i off
        cases h4 : getB h d i with
        | none => simp [h4] at h3
        | some blk =>
          simp only [h4] at h3
          simp only [hh d i blk h4, h3]
      · cases h3

theorem evalOp_make {P : Program} {T : Table} {o : Oper} {ev : Ev} {h h1 : Heap} {v : SV} {pre : List Prop} (hc : clsOf T o.op = .make) (e : evalOp P T o ev h = some (v, h1, pre)) :
    ∃ d b n, o.dst = some d ∧ pushB h d b = some (h1, n) ∧ v = .pv (.one (.ptr d n 0)) ∧ ∀ h' h1', pushB h' d b = some (h1', n) → evalOp P T o ev h' = some (v, h1', pre) := by
  obtain ⟨dst, op, type, pos, after, guard⟩ := o
  cases op <;> try (simp only [clsOf] at hc; (repeat' split at hc) <;> cases hc; done)
  case alloc t =>
    simp only [evalOp, ownOp] at e ⊢
    cases h2 : P.info? t with
    | none => simp [h2] at e
    | some inf =>
      cases h3 : inf.zero with
      | none => simp [h2, h3] at e
      | some z =>
        simp only [h2, h3] at e ⊢
        unfold madeV at *
        cases dst with
        | none => simp at e
        | some d =>
          simp only [] at e ⊢
          cases h4 : pushB h d ⟨z.cells.toList.map .val, t, .var⟩ with
          | none => simp [h4] at e
          | some hn =>
            obtain ⟨h'', n⟩ := hn
            simp only [h4] at e
            cases e
            exact ⟨d, _, n, rfl, h4, rfl, fun h' h1' e' => by simp only [e']⟩
  case box t x =>
    simp only [evalOp, ownOp] at e ⊢
    split at e
    · rename_i p h2
      by_cases hok : p.ok = true
      · rw [hok] at e ⊢
        simp only [cond_true] at e ⊢
        unfold madeV at *
        cases dst with
        | none => simp at e
        | some d =>
          simp only [] at e ⊢
          cases h4 : pushB h d ⟨p.cells, t, .var⟩ with
          | none => simp [h4] at e
          | some hn =>
            obtain ⟨h'', n⟩ := hn
            simp only [h4] at e
            cases e
            exact ⟨d, _, n, rfl, h4, rfl, fun h' h1' e' => by simp only [e']⟩
      · rw [Bool.eq_false_iff.2 hok] at e
        cases e
    · cases e

theorem effI_read {P : Program} {T : Table} {ops : List Oper} {F : List (Nat × Bool)} {i : Nat} {o : Oper} {tm : List SV} {h h1 : Heap} {v : SV} {u : Option (List Prop × Prop)} (hc : clsOf T o.op = .read)
    (e : effI P T ops F i o tm h = some (v, h1, u)) : h1 = h ∧ (∀ h', (∀ d i b, getB h d i = some b → getB h' d i = some b) → effI P T ops F i o tm h' = some (v, h', u)) ∧
      ∀ t, storeAt ops o = some t → ∀ h', (∀ i, getB h' t i = getB h t i) → effI P T ops F i o tm h' = some (v, h', u) := by
  unfold effI at *
  cases hg : guardB ops o tm with
  | none => simp [hg] at e
  | some b =>
    cases b with
    | false => simp only [hg] at e; cases e; exact ⟨rfl, fun h' _ => rfl, fun _ _ h' _ => rfl⟩
    | true =>
      simp only [hg] at e ⊢
      cases hp : evalC P T ops o (evO tm) h with
      | none => simp [hp] at e
      | some x =>
        obtain ⟨v', h2, pre⟩ := x
        simp only [hp] at e
        cases e
        obtain ⟨hp1, hown⟩ := evalC_some hp
        obtain ⟨r1, r2⟩ := evalOp_read hc hp1
        refine ⟨r1, fun h' hh => ?_, fun t ht h' hh => ?_⟩
        · unfold evalC
          rw [hown]
          simp only [cond_true, r2 h' hh]
        · unfold evalC
          rw [hown]
          simp only [cond_true]
          unfold ownB at hown
          rw [ht] at hown
          obtain ⟨dst, op, type, pos, after, guard⟩ := o
          rcases storeAt_spec ht with ⟨ty, y, e'⟩ | ⟨ty, e'⟩
          · simp only at e'; rw [e'] at hc; simp only [clsOf] at hc; cases hc
          · simp only at e'
            generalize addrOf _ = x at e' hown
            cases e'
            simp only [evalOp, ownOp] at hp1 ⊢
            cases hx : evO tm x with
            | none => simp [hx] at hp1
            | some s =>
              simp only [hx] at hp1 hown ⊢
              cases hl : loadV P ty s h with
              | none => simp [hl] at hp1
              | some v2 =>
                obtain ⟨v2, p2⟩ := v2
                simp only [hl] at hp1
                cases hp1
                have : loadV P ty s h' = some (v', pre) := by
                  unfold loadV at hl ⊢
                  split at hl
                  · rename_i d k off
                    have hd : d = t := Nat.eq_of_beq_eq_true hown
                    subst hd
                    rw [hh k]
                    exact hl
                  · rename_i d k off
                    have hd : d = t := Nat.eq_of_beq_eq_true hown
                    subst hd
                    rw [hh k]
                    exact hl
                  · cases hl
                rw [this]

theorem effI_make {P : Program} {T : Table} {ops : List Oper} {F : List (Nat × Bool)} {i : Nat} {o : Oper} {tm : List SV} {h h1 : Heap} {v : SV} {u : Option (List Prop × Prop)} (hc : clsOf T o.op = .make)
    (e : effI P T ops F i o tm h = some (v, h1, u)) : (h1 = h ∧ ∀ h', effI P T ops F i o tm h' = some (v, h', u)) ∨
      ∃ d b n, o.dst = some d ∧ pushB h d b = some (h1, n) ∧ ∀ h' h1', pushB h' d b = some (h1', n) → effI P T ops F i o tm h' = some (v, h1', u) := by
  unfold effI at *
  cases hg : guardB ops o tm with
  | none => simp [hg] at e
  | some b =>
    cases b with
    | false => simp only [hg] at e; cases e; exact .inl ⟨rfl, fun h' => rfl⟩
    | true =>
      simp only [hg, evalC_other (show clsOf T o.op ≠ .write by rw [hc]; exact Cls.noConfusion) (show clsOf T o.op ≠ .read by rw [hc]; exact Cls.noConfusion)] at e ⊢
      cases hp : evalOp P T o (evO tm) h with
      | none => simp [hp] at e
      | some x =>
        obtain ⟨v', h2, pre⟩ := x
        simp only [hp] at e
        cases e
        obtain ⟨d, b, n, m1, m2, m3, m4⟩ := evalOp_make hc hp
        exact .inr ⟨d, b, n, m1, m2, fun h' h1' e' => by simp only [m4 h' h1' e']⟩

theorem effI_write {P : Program} {T : Table} {ops : List Oper} {F : List (Nat × Bool)} {i : Nat} {o : Oper} {tm : List SV} {h h1 : Heap} {v : SV} {u : Option (List Prop × Prop)} (hc : clsOf T o.op = .write)
    (e : effI P T ops F i o tm h = some (v, h1, u)) : (h1 = h ∧ ∀ h', effI P T ops F i o tm h' = some (v, h', u)) ∨
      ∃ d k blk blk', getB h d k = some blk ∧ h1 = setB h d k blk' ∧ (∀ t, storeAt ops o = some t → d = t) ∧ ∀ h', getB h' d k = some blk → effI P T ops F i o tm h' = some (v, setB h' d k blk', u) := by
  unfold effI at *
  cases hg : guardB ops o tm with
  | none => simp [hg] at e
  | some b =>
    cases b with
    | false => simp only [hg] at e; cases e; exact .inl ⟨rfl, fun h' => rfl⟩
    | true =>
      simp only [hg] at e ⊢
      cases hp : evalC P T ops o (evO tm) h with
      | none => simp [hp] at e
      | some x =>
        obtain ⟨v', h2, pre⟩ := x
        simp only [hp] at e
        cases e
        obtain ⟨hp1, hown⟩ := evalC_some hp
        right
        obtain ⟨dst, op, type, pos, after, guard⟩ := o
        cases op <;> try (simp only [clsOf] at hc; (repeat' split at hc) <;> cases hc; done)
        rename_i t x y
        simp only [evalOp, ownOp] at hp1
        cases hx : evO tm x with
        | none => simp [hx] at hp1
        | some s =>
          cases hy : evO tm y with
          | none => simp [hx, hy] at hp1
          | some sy =>
            simp only [hx, hy] at hp1
            cases hs : storeV P t s sy h with
            | none => simp [hs] at hp1
            | some h3 =>
              obtain ⟨h3, p3⟩ := h3
              simp only [hs] at hp1
              cases hp1
              have hs0 := hs
              unfold storeV at hs
              split at hs
              · rename_i d k off p
                cases hb : getB h d k with
                | none => simp [hb] at hs
                | some blk =>
                  simp only [hb] at hs
                  cases hpv : putV P t p off blk with
                  | none => simp [hpv] at hs
                  | some bp =>
                    obtain ⟨blk', p'⟩ := bp
                    simp only [hpv] at hs
                    cases hs
                    refine ⟨d, k, blk, blk', hb, rfl, ?_, ?_⟩
                    · intro t' ht'
                      unfold ownB at hown
                      rw [ht'] at hown
                      rcases storeAt_spec ht' with ⟨ty, y', e'⟩ | ⟨ty, e'⟩
                      · have hadd : addrOf ⟨dst, .store t x y, type, pos, after, guard⟩ = x := rfl
                        rw [hadd] at hown
                        simp only [hx] at hown
                        exact Nat.eq_of_beq_eq_true hown
                      · cases e'
                    · intro h' hb'
                      unfold evalC
                      rw [hown]
                      simp only [evalOp, ownOp, hx, hy, storeV, hb', hpv, cond_true]
              · cases hs

theorem setB_comm {h : Heap} {d i d' i' : Nat} {b b' : Blk} (hne : d ≠ d') : setB (setB h d i b) d' i' b' = setB (setB h d' i' b') d i b := by
  unfold setB
  cases h1 : getL h d with
  | none =>
    cases h2 : getL h d' with
    | none => simp only [h1]
    | some l' => simp only [getL_setL, if_neg (Ne.symm hne), h1]
  | some l =>
    cases h2 : getL h d' with
    | none => simp only [getL_setL, if_neg hne, h2, h1]
    | some l' =>
      simp only [getL_setL, if_neg hne, if_neg (Ne.symm hne), h1, h2]
      simp only [setL_eq]
      rw [List.set_comm _ _ hne]

theorem pushB_setB {h h1 : Heap} {d n d' i' : Nat} {b b' : Blk} (hne : d ≠ d') (e : pushB h d b = some (h1, n)) : pushB (setB h d' i' b') d b = some (setB h1 d' i' b', n) := by
  unfold pushB setB at *
  cases h1' : getL h d with
  | none => simp [h1'] at e
  | some l =>
    simp only [h1'] at e
    cases e
    cases h2 : getL h d' with
    | none => simp only [getL_setL, if_neg hne, h2, h1']
    | some l' =>
      simp only [getL_setL, if_neg hne, if_neg (Ne.symm hne), h1', h2]
      simp only [setL_eq]
      rw [List.set_comm _ _ hne]

theorem getB_set_ne {h : Heap} {d i d' i' : Nat} {b : Blk} (hne : d ≠ d') : getB (setB h d i b) d' i' = getB h d' i' := by
  unfold getB setB
  cases h1 : getL h d with
  | none => rfl
  | some l => simp only [getL_setL, if_neg hne]

theorem getB_push_ne {h h1 : Heap} {d n d' i' : Nat} {b : Blk} (hne : d ≠ d') (e : pushB h d b = some (h1, n)) : getB h1 d' i' = getB h d' i' := by
  unfold pushB at e
  cases h1' : getL h d with
  | none => simp [h1'] at e
  | some l =>
    simp only [h1'] at e
    cases e
    unfold getB
    simp only [getL_setL, if_neg hne]

theorem pushB_comm {h h1 h2 : Heap} {d d' n n' : Nat} {b b' : Blk} (hne : d ≠ d') (e : pushB h d b = some (h1, n)) (e' : pushB h1 d' b' = some (h2, n')) :
    ∃ g, pushB h d' b' = some (g, n') ∧ pushB g d b = some (h2, n) := by
  unfold pushB at *
  cases hl : getL h d with
  | none => simp [hl] at e
  | some l =>
    simp only [hl] at e
    cases e
    rw [getL_setL, if_neg hne] at e'
    cases hl' : getL h d' with
    | none => simp [hl'] at e'
    | some l' =>
      simp only [hl'] at e'
      cases e'
      refine ⟨_, rfl, ?_⟩
      rw [getL_setL, if_neg (Ne.symm hne), hl]
      simp only [setL_eq]
      rw [List.set_comm _ _ hne]

theorem pushB_keeps {h h1 : Heap} {d n : Nat} {b : Blk} (e : pushB h d b = some (h1, n)) : ∀ d' i' b', getB h d' i' = some b' → getB h1 d' i' = some b' := by
  obtain ⟨g1, _, g3⟩ := getB_pushB e
  intro d' i' b' hb
  rw [g3 d' i' (by rintro ⟨rfl, rfl⟩; rw [g1] at hb; cases hb)]
  exact hb

theorem putS_comm {tm : List SV} {x y : Option Tmp} {v u : SV} (h : ∀ d, x = some d → y ≠ some d) : putS (putS tm x v) y u = putS (putS tm y u) x v := by
  cases x with
  | none => rfl
  | some d =>
    cases y with
    | none => rfl
    | some e =>
      have hne : d ≠ e := fun he => h d rfl (he ▸ rfl)
      simp only [putS, setL_eq]
      rw [List.set_comm _ _ hne]

theorem updL_comm {α : Type} {l : List α} {i j : Nat} (p q : Option α) (h : i ≠ j) : updL (updL l i p) j q = updL (updL l j q) i p := by
  cases p <;> cases q <;> simp only [updL, setL_eq]
  rw [List.set_comm _ _ h]

/-- effects change places -/
theorem eff_comm {P : Program} {T : Table} {ops : Array Oper} {F : List (Nat × Bool)} {i j : Nat} {oy ox : Oper} (hc : commB T ops oy ox = true)
    {tm : List SV} {h h1 h2 : Heap} {vy vx : SV} {uy ux : Option (List Prop × Prop)} (ey : effI P T ops.toList F i oy tm h = some (vy, h1, uy)) (ex : effI P T ops.toList F j ox tm h1 = some (vx, h2, ux)) :
    ∃ g, effI P T ops.toList F j ox tm h = some (vx, g, ux) ∧ effI P T ops.toList F i oy tm g = some (vy, h2, uy) := by
  unfold commB at hc
  obtain ⟨hap, hm⟩ := Bool.and_eq_true_iff.1 hc
  obtain ⟨_, hdst, _⟩ := Oper.apart_spec hap
  cases cy : clsOf T oy.op with
  | pure =>
    obtain ⟨rfl, hy⟩ := effI_pure cy ey
    exact ⟨h2, ex, hy h2⟩
  | read =>
    cases cx : clsOf T ox.op with
    | pure =>
      obtain ⟨rfl, hx⟩ := effI_pure cx ex
      exact ⟨h, hx h, ey⟩
    | read =>
      obtain ⟨rfl, hy, hy'⟩ := effI_read cy ey
      obtain ⟨rfl, hx, hx'⟩ := effI_read cx ex
      exact ⟨_, ex, ey⟩
    | make =>
      obtain ⟨rfl, hy, hy'⟩ := effI_read cy ey
      rcases effI_make cx ex with ⟨rfl, _⟩ | ⟨d, b, n, m1, m2, m3⟩
      · exact ⟨_, ex, ey⟩
      · exact ⟨h2, ex, hy h2 (pushB_keeps m2)⟩
    | write =>
      obtain ⟨rfl, hy, hy'⟩ := effI_read cy ey
      rcases effI_write cx ex with ⟨rfl, hx⟩ | ⟨d', k', bl, bl', v1, v2, v3, v4⟩
      · exact ⟨_, ex, ey⟩
      · simp only [memB, farB, cy, cx, Bool.false_or] at hm
        cases hs : storeAt ops.toList oy with
        | none => simp [hs] at hm
        | some t =>
          cases hs' : storeAt ops.toList ox with
          | none => simp [hs, hs'] at hm
          | some t' =>
            simp only [hs, hs'] at hm
            have e2 := v3 t' hs'
            have hne : d' ≠ t := by
              intro e
              rw [← e2, e] at hm
              simp at hm
            subst v2
            exact ⟨_, ex, hy' t hs _ fun i => getB_set_ne hne⟩
    | own => simp [memB, farB, cy, cx] at hm
  | make =>
    cases cx : clsOf T ox.op with
    | pure =>
      obtain ⟨rfl, hx⟩ := effI_pure cx ex
      exact ⟨h, hx h, ey⟩
    | make =>
      rcases effI_make cy ey with ⟨rfl, hy⟩ | ⟨d, b, n, m1, m2, m3⟩
      · exact ⟨h2, ex, hy h2⟩
      · rcases effI_make cx ex with ⟨rfl, hx⟩ | ⟨d', b', n', m1', m2', m3'⟩
        · exact ⟨h, hx h, ey⟩
        · have hne : d ≠ d' := fun e => hdst d m1 (by rw [m1', e])
          obtain ⟨g, g1, g2⟩ := pushB_comm hne m2 m2'
          exact ⟨g, m3' h g g1, m3 g h2 g2⟩
    | read => simp [memB, farB, cy, cx] at hm
    | write =>
      rcases effI_make cy ey with ⟨rfl, hy⟩ | ⟨d, b, n, m1, m2, m3⟩
      · exact ⟨h2, ex, hy h2⟩
      · rcases effI_write cx ex with ⟨rfl, hx⟩ | ⟨d', k, blk, blk', w1, w2, w3, w4⟩
        · exact ⟨h, hx h, ey⟩
        · simp only [memB, farB, cy, cx, Bool.false_or, m1] at hm
          cases hs : storeAt ops.toList ox with
          | none => simp [hs] at hm
          | some t =>
            simp only [hs] at hm
            have e1 := w3 t hs
            have hne : d ≠ d' := by
              intro e
              rw [e, e1] at hm
              simp at hm
            have w1' : getB h d' k = some blk := by rw [← getB_push_ne hne m2]; exact w1
            subst w2
            exact ⟨_, w4 h w1', m3 _ _ (pushB_setB hne m2)⟩
    | own => simp [memB, farB, cy, cx] at hm
  | write =>
    cases cx : clsOf T ox.op with
    | pure =>
      obtain ⟨rfl, hx⟩ := effI_pure cx ex
      exact ⟨h, hx h, ey⟩
    | read =>
      obtain ⟨rfl, hx, hx'⟩ := effI_read cx ex
      rcases effI_write cy ey with ⟨rfl, hy⟩ | ⟨d, k, blk, blk', w1, w2, w3, w4⟩
      · exact ⟨_, ex, ey⟩
      · simp only [memB, farB, cy, cx, Bool.false_or] at hm
        cases hs : storeAt ops.toList oy with
        | none => simp [hs] at hm
        | some t =>
          cases hs' : storeAt ops.toList ox with
          | none => simp [hs, hs'] at hm
          | some t' =>
            simp only [hs, hs'] at hm
            have e1 := w3 t hs
            have hne : d ≠ t' := by
              intro e
              rw [← e1, e] at hm
              simp at hm
            subst w2
            exact ⟨h, hx' t' hs' h fun i => (getB_set_ne hne).symm, ey⟩
    | make =>
      rcases effI_write cy ey with ⟨rfl, hy⟩ | ⟨d, k, blk, blk', w1, w2, w3, w4⟩
      · exact ⟨h2, ex, hy h2⟩
      · rcases effI_make cx ex with ⟨rfl, hx⟩ | ⟨d', b, n, m1, m2, m3⟩
        · exact ⟨h, hx h, ey⟩
        · simp only [memB, farB, cy, cx, Bool.false_or, m1] at hm
          cases hs : storeAt ops.toList oy with
          | none => simp [hs] at hm
          | some t =>
            simp only [hs] at hm
            have e1 := w3 t hs
            have hne : d' ≠ d := by
              intro e
              rw [e, e1] at hm
              simp at hm
            subst w2
            cases hpu : pushB h d' b with
            | none =>
              exfalso
              unfold pushB setB at m2
              unfold pushB at hpu
              cases q1 : getL h d' with
              | none =>
                cases q2 : getL h d with
                | none => simp [q1, q2] at m2
                | some l => simp [q2, getL_setL, if_neg (Ne.symm hne), q1] at m2
              | some l => simp [q1] at hpu
            | some gn =>
              obtain ⟨g, n'⟩ := gn
              have q := pushB_setB (d' := d) (i' := k) (b' := blk') hne hpu
              rw [q] at m2
              cases m2
              refine ⟨g, m3 h g hpu, w4 g ?_⟩
              rw [getB_push_ne hne hpu]
              exact w1
    | write =>
      rcases effI_write cy ey with ⟨rfl, hy⟩ | ⟨d, k, blk, blk', w1, w2, w3, w4⟩
      · exact ⟨h2, ex, hy h2⟩
      · rcases effI_write cx ex with ⟨rfl, hx⟩ | ⟨d', k', bl, bl', v1, v2, v3, v4⟩
        · exact ⟨h, hx h, ey⟩
        · simp only [memB, farB, cy, cx, Bool.false_or] at hm
          cases hs : storeAt ops.toList oy with
          | none => simp [hs] at hm
          | some t =>
            cases hs' : storeAt ops.toList ox with
            | none => simp [hs, hs'] at hm
            | some t' =>
              simp only [hs, hs'] at hm
              have e1 := w3 t hs
              have e2 := v3 t' hs'
              have hne : d ≠ d' := by
                intro e
                rw [← e1, ← e2, e] at hm
                simp at hm
              subst w2
              rw [getB_set_ne hne] at v1
              subst v2
              refine ⟨_, v4 h v1, ?_⟩
              rw [w4 _ (by rw [getB_set_ne (Ne.symm hne)]; exact w1), setB_comm (Ne.symm hne)]
    | own => simp [memB, farB, cy, cx] at hm
  | own =>
    cases cx : clsOf T ox.op with
    | pure =>
      obtain ⟨rfl, hx⟩ := effI_pure cx ex
      exact ⟨h, hx h, ey⟩
    | read => simp [memB, farB, cy, cx] at hm
    | make => simp [memB, farB, cy, cx] at hm
    | write => simp [memB, farB, cy, cx] at hm
    | own => simp [memB, farB, cy, cx] at hm

theorem step_comm {P : Program} {T : Table} {ops : Array Oper} {F : List (Nat × Bool)} {i j : Nat} {oy ox : Oper} (hi : getL ops.toList i = some oy) (hj : getL ops.toList j = some ox) (hij : i ≠ j) (hc : commB T ops oy ox = true)
    {rs r1 r2 : RS} (ey : stepR P T ops.toList F i rs = some r1) (ex : stepR P T ops.toList F j r1 = some r2) :
    ∃ g, stepR P T ops.toList F j rs = some g ∧ stepR P T ops.toList F i g = some r2 := by
  obtain ⟨hap, hm⟩ := Bool.and_eq_true_iff.1 hc
  obtain ⟨hl1, hdst, hl2⟩ := Oper.apart_spec hap
  rw [stepR_eq hi] at ey
  rw [stepR_eq hj] at ex
  cases e1 : effI P T ops.toList F i oy rs.tmps rs.heap with
  | none => simp [e1] at ey
  | some a =>
    obtain ⟨vy, h1, uy⟩ := a
    simp only [e1, Option.map_some, Option.some.injEq] at ey
    subst ey
    cases e2 : effI P T ops.toList F j ox (putRS rs i oy.dst (vy, h1, uy)).tmps (putRS rs i oy.dst (vy, h1, uy)).heap with
    | none => simp [e2] at ex
    | some b =>
      obtain ⟨vx, h2, ux⟩ := b
      simp only [e2, Option.map_some, Option.some.injEq] at ex
      subst ex
      have e2' : effI P T ops.toList F j ox rs.tmps h1 = some (vx, h2, ux) := by
        have := effI_put (P := P) (T := T) (ops := ops) (F := F) (i := j) (o := ox) (tm := rs.tmps) (h := h1) (dst := oy.dst) (v := vy) hl1
        rw [← this]; exact e2
      obtain ⟨g, g1, g2⟩ := eff_comm hc e1 e2'
      refine ⟨putRS rs j ox.dst (vx, g, ux), by rw [stepR_eq hj, g1]; rfl, ?_⟩
      rw [stepR_eq hi]
      have e3 : effI P T ops.toList F i oy (putRS rs j ox.dst (vx, g, ux)).tmps (putRS rs j ox.dst (vx, g, ux)).heap = some (vy, h2, uy) := by
        have := effI_put (P := P) (T := T) (ops := ops) (F := F) (i := i) (o := oy) (tm := rs.tmps) (h := g) (dst := ox.dst) (v := vx) hl2
        exact this.trans g2
      rw [e3]
      simp only [Option.map_some, Option.some.injEq]
      unfold putRS
      simp only []
      rw [putS_comm (x := oy.dst) (y := ox.dst) hdst, updL_comm (i := i) (j := j) _ _ hij, updL_comm (l := rs.cd) (i := i) (j := j) _ _ hij]

end Eng

/- A program's operations carried out on values written out: whole regions. -/
namespace Eng
open Go Go.RowKit

/-- must it wait for it? -/
inductive Waits (ops : Array Oper) : Oper → Nat → Prop where
  | edge {x : Oper} {e : Edge} : e ∈ x.after → Region.binds .any e = true → Waits ops x e.on
  | step {x y : Oper} {e : Edge} {i : Nat} : e ∈ x.after → Region.binds .any e = true → ops[e.on]? = some y → Waits ops y i → Waits ops x i
/-- which operations it must wait for, as a number's bits; of those ahead the same is known -/
def maskOf (ms : List Nat) : List Edge → Nat
  | [] => 0
  | e :: es => cond (Region.binds .any e) (Nat.lor (Nat.lor (2 ^ e.on) ((getL ms e.on).getD 0)) (maskOf ms es)) (maskOf ms es)

/-- may a region's operations change places, wherever its edges leave it open? -/
def pairB (T : Table) (ops : Array Oper) (x : Oper) (m : Nat) : Nat → List Oper → Bool
  | _, [] => true
  | i, y :: ys => (Nat.testBit m i || commB T ops y x) && pairB T ops x m (i + 1) ys

def checkFrom (T : Table) (ops : Array Oper) : List Oper → List Oper → Nat → List Nat → Bool
  | _, [], _, _ => true
  | before, x :: xs, i, ms => pairB T ops x (maskOf ms x.after.toList) 0 before && (x.after.all fun e => !Region.binds .any e || Nat.blt e.on i) && checkFrom T ops (before ++ [x]) xs (i + 1) (ms ++ [maskOf ms x.after.toList])

def checkB (T : Table) (ops : List Oper) : Bool := checkFrom T ops.toArray [] ops 0 []

def MasksOK (ops : Array Oper) (ms : List Nat) : Prop := ∀ k m y i, getL ms k = some m → ops[k]? = some y → Nat.testBit m i = true → Waits ops y i

theorem maskOf_spec {ops : Array Oper} {ms : List Nat} (hm : MasksOK ops ms) {x : Oper} {i : Nat} : ∀ {es : List Edge}, (∀ e ∈ es, e ∈ x.after) → (∀ e ∈ es, Region.binds .any e = true → ∃ y, ops[e.on]? = some y) → Nat.testBit (maskOf ms es) i = true → Waits ops x i
  | [], _, _, h => by simp [maskOf] at h
  | e :: es, he, ho, h => by
    simp only [maskOf] at h
    cases hb : Region.binds .any e with
    | false =>
      rw [hb] at h
      exact maskOf_spec hm (fun e h => he e (.tail _ h)) (fun e h => ho e (.tail _ h)) h
    | true =>
      rw [hb] at h
      simp only [cond_true] at h
      have h : Nat.testBit ((2 ^ e.on ||| (getL ms e.on).getD 0) ||| maskOf ms es) i = true := h
      rw [Nat.testBit_or, Nat.testBit_or, Bool.or_eq_true, Bool.or_eq_true] at h
      rcases h with (h | h) | h
      · rw [Nat.testBit_two_pow] at h
        have := of_decide_eq_true h
        subst this
        exact .edge (he e (.head _)) hb
      · cases hg : getL ms e.on with
        | none => simp [hg] at h
        | some m =>
          rw [hg] at h
          obtain ⟨y, hy⟩ := ho e (.head _) hb
          exact .step (he e (.head _)) hb hy (hm _ _ _ _ hg hy h)
      · exact maskOf_spec hm (fun e h => he e (.tail _ h)) (fun e h => ho e (.tail _ h)) h

structure Checked (T : Table) (ops : Array Oper) : Prop where
  pair : ∀ i j y x, i < j → ops[i]? = some y → ops[j]? = some x → commB T ops y x = true ∨ Waits ops x i
  back : ∀ j x, ops[j]? = some x → ∀ e ∈ x.after, Region.binds .any e = true → e.on < j

theorem pairB_spec {T : Table} {ops : Array Oper} {x : Oper} {m : Nat} (hm : ∀ i, Nat.testBit m i = true → Waits ops x i) : ∀ (ys : List Oper) (k : Nat), pairB T ops x m k ys = true → ∀ i y, ys[i]? = some y → commB T ops y x = true ∨ Waits ops x (k + i)
  | [], k, _, i, y, h => by simp at h
  | z :: ys, k, hp, i, y, h => by
    simp only [pairB, Bool.and_eq_true, Bool.or_eq_true] at hp
    obtain ⟨h1, h2⟩ := hp
    cases i with
    | zero =>
      simp at h
      subst h
      rcases h1 with h1 | h1
      · exact .inr (hm _ h1)
      · exact .inl h1
    | succ i =>
      have := pairB_spec hm ys (k + 1) h2 i y (by simpa using h)
      rcases this with h3 | h3
      · exact .inl h3
      · exact .inr (by rw [show k + (i + 1) = k + 1 + i by omega]; exact h3)

theorem checkFrom_spec {T : Table} {ops : Array Oper} : ∀ (xs before : List Oper) (k : Nat) (ms : List Nat), k = before.length → ms.length = k → MasksOK ops ms → checkFrom T ops before xs k ms = true → ops.toList = before ++ xs →
    ∀ j x, k ≤ j → ops[j]? = some x →
      (∀ i y, i < j → ops[i]? = some y → commB T ops y x = true ∨ Waits ops x i) ∧ (∀ e ∈ x.after, Region.binds .any e = true → e.on < j)
  | [], before, k, ms, hk, _, _, _, ho, j, x, hj, hx => by
    exfalso
    have : ops.toList[j]? = some x := by simpa using hx
    rw [ho] at this
    simp only [List.append_nil] at this
    rw [List.getElem?_eq_none (by omega)] at this
    cases this
  | z :: xs, before, k, ms, hk, hml, hms, hc, ho, j, x, hj, hx => by
    simp only [checkFrom, Bool.and_eq_true] at hc
    obtain ⟨⟨h1, h2⟩, h3⟩ := hc
    have hzk : ops[k]? = some z := by
      have : ops.toList[k]? = some z := by rw [ho, List.getElem?_append_right (by omega)]; simp [hk]
      simpa using this
    have hback : ∀ e ∈ z.after, Region.binds .any e = true → e.on < k := by
      intro e he hb
      have := Array.all_eq_true'.1 h2 e he
      simp only [Bool.or_eq_true, Bool.not_eq_true', hb] at this
      rcases this with h | h
      · cases h
      · exact Nat.le_of_ble_eq_true h
    have hmask : ∀ i, Nat.testBit (maskOf ms z.after.toList) i = true → Waits ops z i := fun i hi => maskOf_spec hms (fun e h => by simpa using h) (fun e h hb => by
      have hlt := hback e (by simpa using h) hb
      have hk : k < ops.size := (Array.getElem?_eq_some_iff.1 hzk).1
      exact ⟨_, Array.getElem?_eq_getElem (by omega)⟩) hi
    by_cases hjk : j = k
    · subst hjk
      have hz : x = z := by
        have : ops.toList[j]? = some x := by simpa using hx
        rw [ho, List.getElem?_append_right (by omega)] at this
        simpa [hk] using this.symm
      subst hz
      refine ⟨fun i y hi hy => ?_, fun e he hb => ?_⟩
      · have hy' : before[i]? = some y := by
          have : ops.toList[i]? = some y := by simpa using hy
          rw [ho, List.getElem?_append_left (by omega)] at this
          exact this
        have := pairB_spec hmask before 0 h1 i y hy'
        simpa using this
      · exact hback e he hb
    · refine checkFrom_spec xs (before ++ [z]) (k + 1) (ms ++ [maskOf ms z.after.toList]) (by simp [hk]) (by simp [hml]) ?_ h3 (by rw [ho]; simp) j x (by omega) hx
      intro k' m y i hg hy ht
      rw [getL_eq] at hg
      by_cases hk' : k' < ms.length
      · rw [List.getElem?_append_left hk'] at hg
        exact hms k' m y i (by rw [getL_eq]; exact hg) hy ht
      · rw [List.getElem?_append_right (by omega)] at hg
        have hkk : k' - ms.length = 0 := by
          have := (List.getElem?_eq_some_iff.1 hg).1
          simp at this
          omega
        rw [hkk] at hg
        simp at hg
        subst hg
        have hkk : k' = k := by omega
        subst hkk
        rw [hzk] at hy
        cases hy
        exact hmask i ht

theorem checkB_spec {T : Table} {ops : Array Oper} (h : checkB T ops.toList = true) : Checked T ops := by
  unfold checkB at h
  have h' := fun j x (hx : ops[j]? = some x) => checkFrom_spec (T := T) (ops := ops) ops.toList [] 0 [] rfl rfl (fun k m y i hg => by simp [getL] at hg) (by simpa using h) (by simp) j x (Nat.zero_le _) hx
  exact ⟨fun i j y x hij hy hx => (h' j x hx).1 i y hij hy, fun j x hx => (h' j x hx).2⟩

theorem runR_append {P : Program} {T : Table} {ops : List Oper} {F : List (Nat × Bool)} : ∀ (is js : List Nat) (rs : RS),
    runR P T ops F (is ++ js) rs = (runR P T ops F is rs).bind (runR P T ops F js)
  | [], js, rs => rfl
  | i :: is, js, rs => by
    simp only [List.cons_append, runR]
    cases stepR P T ops F i rs with
    | none => rfl
    | some r => exact runR_append is js r

/-- an operation of the list comes first, if it may pass all ahead of it -/
theorem moveFront {P : Program} {T : Table} {ops : Array Oper} {F : List (Nat × Bool)} {i : Nat} {x : Oper} (hi : getL ops.toList i = some x) (post : List Nat) {r' : RS} :
    ∀ (pre : List Nat) (rs : RS), (∀ j ∈ pre, j ≠ i ∧ ∃ y, getL ops.toList j = some y ∧ commB T ops y x = true) → runR P T ops.toList F (pre ++ i :: post) rs = some r' →
      runR P T ops.toList F (i :: (pre ++ post)) rs = some r'
  | [], rs, _, h => h
  | j :: pre, rs, hp, h => by
    obtain ⟨hne, y, hy, hc⟩ := hp j (by simp)
    simp only [List.cons_append, runR] at h
    cases h1 : stepR P T ops.toList F j rs with
    | none => simp [h1] at h
    | some r1 =>
      simp only [h1] at h
      have h2 := moveFront hi post pre r1 (fun k hk => hp k (by simp [hk])) h
      simp only [runR] at h2
      cases h3 : stepR P T ops.toList F i r1 with
      | none => simp [h3] at h2
      | some r2 =>
        simp only [h3] at h2
        obtain ⟨g, g1, g2⟩ := step_comm hy hi hne hc h1 h3
        simp only [List.cons_append, runR, g1, g2]
        exact h2

theorem stepR_len {P : Program} {T : Table} {ops : List Oper} {F : List (Nat × Bool)} {i : Nat} {rs r1 : RS} (e : stepR P T ops F i rs = some r1) : r1.ob.length = rs.ob.length ∧ r1.cd.length = rs.cd.length := by
  unfold stepR at e
  cases h1 : getL ops i with
  | none => simp [h1] at e
  | some o =>
    simp only [h1] at e
    cases h2 : guardB ops o rs.tmps with
    | none => simp [h2] at e
    | some b =>
      cases b with
      | false => simp only [h2] at e; cases e; exact ⟨rfl, rfl⟩
      | true =>
        simp only [h2] at e
        cases h3 : evalC P T ops o (evO rs.tmps) rs.heap with
        | none => simp [h3] at e
        | some x => obtain ⟨v, h, pre⟩ := x; simp only [h3] at e; cases e; exact ⟨setL_length _ _ _, setL_length _ _ _⟩

theorem stepR_ob {P : Program} {T : Table} {ops : List Oper} {F : List (Nat × Bool)} {i : Nat} {rs r1 : RS} (e : stepR P T ops F i rs = some r1) {k : Nat} (hk : k ≠ i) : getL r1.ob k = getL rs.ob k ∧ getL r1.cd k = getL rs.cd k := by
  unfold stepR at e
  cases h1 : getL ops i with
  | none => simp [h1] at e
  | some o =>
    simp only [h1] at e
    cases h2 : guardB ops o rs.tmps with
    | none => simp [h2] at e
    | some b =>
      cases b with
      | false => simp only [h2] at e; cases e; exact ⟨rfl, rfl⟩
      | true =>
        simp only [h2] at e
        cases h3 : evalC P T ops o (evO rs.tmps) rs.heap with
        | none => simp [h3] at e
        | some x =>
          obtain ⟨v, h, pre⟩ := x
          simp only [h3] at e
          cases e
          constructor <;> simp only [getL_setL, if_neg (Ne.symm hk)]

theorem runR_ob {P : Program} {T : Table} {ops : List Oper} {F : List (Nat × Bool)} : ∀ {is : List Nat} {rs r' : RS}, runR P T ops F is rs = some r' → ∀ k, k ∉ is → getL r'.ob k = getL rs.ob k ∧ getL r'.cd k = getL rs.cd k
  | [], rs, r', h, k, _ => by simp only [runR] at h; cases h; exact ⟨rfl, rfl⟩
  | i :: is, rs, r', h, k, hk => by
    simp only [runR] at h
    cases h1 : stepR P T ops F i rs with
    | none => simp [h1] at h
    | some r1 =>
      simp only [h1] at h
      have a := runR_ob h k (fun hm => hk (by simp [hm]))
      have b := stepR_ob h1 (k := k) (fun e => hk (by simp [e]))
      exact ⟨a.1.trans b.1, a.2.trans b.2⟩

theorem AllP_get : ∀ {ps : List Prop} {k : Nat} {p : Prop}, AllP ps → getL ps k = some p → p
  | [], k, p, _, h => by simp [getL] at h
  | q :: ps, 0, p, h, e => by simp only [getL] at e; cases e; exact h.1
  | q :: ps, k + 1, p, h, e => AllP_get h.2 (by simpa [getL] using e)

/-- sorted lists of what is left -/
structure Left (n : Nat) (listed : Array Bool) (rest : List Nat) : Prop where
  mem : ∀ i, i ∈ rest ↔ i < n ∧ listed.getD i true = false
  sorted : rest.Pairwise (· < ·)
  size : listed.size = n

theorem Left.split {n : Nat} {listed : Array Bool} {rest : List Nat} (h : Left n listed rest) {i : Nat} (hi : i ∈ rest) :
    ∃ pre post, rest = pre ++ i :: post ∧ (∀ j ∈ pre, j < i) ∧ Left n (listed.setIfInBounds i true) (pre ++ post) := by
  obtain ⟨pre, post, rfl⟩ := List.append_of_mem hi
  have hs := h.sorted
  rw [List.pairwise_append] at hs
  obtain ⟨s1, s2, s3⟩ := hs
  rw [List.pairwise_cons] at s2
  refine ⟨pre, post, rfl, fun j hj => s3 j hj i (by simp), ⟨?_, ?_, by simp [h.size]⟩⟩
  · intro j
    have hm := h.mem j
    have hin := (h.mem i).1 (by simp)
    by_cases hji : j = i
    · subst hji
      constructor
      · intro hmem
        rcases List.mem_append.1 hmem with h1 | h1
        · exact absurd (s3 j h1 j (by simp)) (Nat.lt_irrefl _)
        · exact absurd (s2.1 j h1) (Nat.lt_irrefl _)
      · rintro ⟨_, h2⟩
        exfalso
        have hlt : j < listed.size := by rw [h.size]; exact hin.1
        simp [Array.getD_eq_getD_getElem?, hlt] at h2
    · have e : (listed.setIfInBounds i true).getD j true = listed.getD j true := by
        simp [Array.getD_eq_getD_getElem?, Array.getElem?_setIfInBounds_ne (Ne.symm hji)]
      rw [e, ← hm]
      simp [hji]
  · rw [List.pairwise_append]
    exact ⟨s1, s2.2, fun a ha b hb => s3 a ha b (by simp [hb])⟩

theorem any_sound {P : Program} {T : Table} (hT : TableOK P T) {w0 : World} {fb : Gh} {ops : Array Oper} {F : List (Nat × Bool)} (hC : Checked T ops) {Q : Exit → Act → World → Prop} {r' : RS}
    (hob : ∀ k p, getL r'.ob k = some p → AllP p) (hcd : AllP r'.cd) (hQ : ∀ ρ' a' w', Rel w0 fb ρ' r'.tmps r'.heap a' w' → Q .normal a' w') :
    ∀ (fuel : Nat) (listed : Array Bool) (rest : List Nat) (rs : RS) (ρ : Env) (a : Act) (w : World), rest.length = fuel → Left ops.size listed rest → runR P T ops.toList F rest rs = some r' →
      rs.ob.length = ops.size → rs.cd.length = ops.size → Rel w0 fb ρ rs.tmps rs.heap a w →
      (∀ j x e, ops[j]? = some x → listed.getD j false = true → e ∈ x.after → Region.binds .any e = true → listed.getD e.on false = true) → wpAny P .any ops Q fuel listed a w := by
  have ready_in : ∀ {listed : Array Bool} {rest : List Nat} {i : Nat}, Left ops.size listed rest → i ∈ Region.ready .any ops listed →
      i ∈ rest ∧ ∃ x, ops[i]? = some x ∧ ∀ e ∈ x.after, Region.binds .any e = true → listed.getD e.on false = true := by
    intro listed rest i hl hi
    unfold Region.ready at hi
    rw [List.mem_filter] at hi
    obtain ⟨h1, h2⟩ := hi
    simp only [Bool.and_eq_true, Bool.not_eq_true'] at h2
    refine ⟨(hl.mem i).2 ⟨by simpa using h1, h2.1⟩, ?_⟩
    cases ho : ops[i]? with
    | none => simp [ho] at h2
    | some x =>
      refine ⟨x, rfl, fun e he hb => ?_⟩
      have h3 := h2.2
      rw [ho] at h3
      simp only [Option.map_some, Option.getD_some] at h3
      have := Array.all_eq_true'.1 h3 e he
      simpa [hb] using this
  have ready_nil : ∀ {listed : Array Bool} {rest : List Nat}, Left ops.size listed rest → Region.ready .any ops listed = [] → rest = [] := by
    intro listed rest hl hr
    cases rest with
    | nil => rfl
    | cons j rest =>
      exfalso
      have hj := (hl.mem j).1 (by simp)
      obtain ⟨x, hx⟩ : ∃ x, ops[j]? = some x := ⟨_, Array.getElem?_eq_getElem hj.1⟩
      have : j ∈ Region.ready .any ops listed := by
        unfold Region.ready
        rw [List.mem_filter]
        refine ⟨by simpa using hj.1, ?_⟩
        simp only [hj.2, Bool.not_false, Bool.true_and, hx, Option.map_some, Option.getD_some]
        refine Array.all_eq_true'.2 fun e he => ?_
        cases hb : Region.binds .any e with
        | false => rfl
        | true =>
          simp only [Bool.not_true, Bool.false_or]
          have hlt := hC.back j x hx e he hb
          have hn : e.on ∉ j :: rest := by
            intro hm
            have hs := hl.sorted
            rw [List.pairwise_cons] at hs
            rcases List.mem_cons.1 hm with h1 | h1
            · omega
            · have := hs.1 _ h1; omega
          have hsz : e.on < listed.size := by rw [hl.size]; omega
          have := fun hf => hn ((hl.mem e.on).2 ⟨by omega, hf⟩)
          rw [Array.getD_eq_getD_getElem?, Array.getElem?_eq_getElem hsz] at this ⊢
          simpa using this
      rw [hr] at this
      cases this
  intro fuel
  induction fuel with
  | zero =>
    intro listed rest rs ρ a w hlen hl hrun _ _ hrel _
    have : rest = [] := List.length_eq_zero_iff.1 hlen
    subst this
    simp only [runR] at hrun
    cases hrun
    refine ⟨?_, hQ ρ a w hrel⟩
    cases hr : Region.ready .any ops listed with
    | nil => rfl
    | cons i l =>
      have := (ready_in hl (i := i) (by rw [hr]; simp)).1
      cases this
  | succ fuel ih =>
    intro listed rest rs ρ a w hlen hl hrun hlo hlc hrel hcl
    refine ⟨fun hr => ?_, fun i hi => ?_⟩
    · have := ready_nil hl hr
      subst this
      simp at hlen
    · obtain ⟨hmem, x, hx, hafter⟩ := ready_in hl hi
      obtain ⟨pre, post, rfl, hpre, hl'⟩ := hl.split hmem
      have hgx : getL ops.toList i = some x := by rw [getL_eq]; simpa using hx
      have hmv := moveFront (P := P) (T := T) (F := F) hgx post pre rs (by
        intro j hj
        have hji := hpre j hj
        obtain ⟨y, hy⟩ : ∃ y, ops[j]? = some y := ⟨_, Array.getElem?_eq_getElem ((hl.mem j).1 (by simp [hj])).1⟩
        refine ⟨by omega, y, by rw [getL_eq]; simpa using hy, ?_⟩
        rcases hC.pair j i y x hji hy hx with h1 | h1
        · exact h1
        · exfalso
          have key : ∀ {x : Oper} {j : Nat}, Waits ops x j → (∀ e ∈ x.after, Region.binds .any e = true → listed.getD e.on false = true) → listed.getD j false = true := by
            intro x j hw
            induction hw with
            | edge he hb => intro ha; exact ha _ he hb
            | step he hb hy _ ih => intro ha; exact ih fun e' he' hb' => hcl _ _ e' hy (ha _ he hb) he' hb'
          have h1 := key h1 hafter
          have h2 := ((hl.mem j).1 (by simp [hj])).2
          have hsz : j < listed.size := by rw [hl.size]; exact ((hl.mem j).1 (by simp [hj])).1
          rw [Array.getD_eq_getD_getElem?, Array.getElem?_eq_getElem hsz] at h1 h2
          simp at h1 h2
          rw [h1] at h2
          cases h2) hrun
      simp only [runR] at hmv
      cases h1 : stepR P T ops.toList F i rs with
      | none => simp [h1] at hmv
      | some r1 =>
        simp only [h1] at hmv
        have hni : i ∉ pre ++ post := by
          intro hm
          have := (hl'.mem i).1 hm
          have hsz : i < listed.size := by rw [hl.size]; exact this.1
          simp [Array.getD_eq_getD_getElem?, hsz] at this
        have hk := runR_ob hmv i hni
        have hlen1 := stepR_len h1
        have hin := ((hl.mem i).1 hmem).1
        refine stepR_wp hT hrel h1 (fun p hp => hob i p (by rw [hk.1]; exact hp)) (fun p hp => AllP_get hcd (k := i) (by rw [hk.2]; exact hp)) (by omega) (by omega) ?_
        intro ρ' a' w' hrel'
        refine ih _ (pre ++ post) r1 ρ' a' w' ?_ hl' hmv (by omega) (by omega) hrel' ?_
        · simp at hlen ⊢
          omega
        · have mono : ∀ k, listed.getD k false = true → (listed.setIfInBounds i true).getD k false = true := by
            intro k hk
            rw [Array.getD_eq_getD_getElem?] at hk ⊢
            rw [Array.getElem?_setIfInBounds]
            by_cases hik : i = k
            · subst hik
              have : i < listed.size := by rw [hl.size]; exact hin
              simp [this]
            · rw [if_neg hik]; exact hk
          intro j x' e hj hlj he hb
          by_cases hij : j = i
          · subst hij
            rw [hx] at hj
            cases hj
            exact mono _ (hafter e he hb)
          · have : listed.getD j false = true := by
              rw [Array.getD_eq_getD_getElem?, Array.getElem?_setIfInBounds_ne (Ne.symm hij)] at hlj
              rw [Array.getD_eq_getD_getElem?]
              exact hlj
            exact mono _ (hcl j x' e hj this he hb)

end Eng

/- A program's operations carried out on values written out: code, with loops gone through round by round or left to others. -/
namespace Eng
open Go Go.RowKit

structure St where
  tmps : List SV
  heap : Heap

inductive It where
  | code (c : Code)
  | blk (id : Nat)
  | lp (c : Code)

/-- where a run has come to: the code's end, a return, a way out of a block that is not in sight, a loop -/
inductive Out where
  | fall (st : St)
  | ret (st : St)
  | ex (id : Nat) (st : St)
  | stop (k : List It) (st : St)

def rs0 (n : Nat) (st : St) : RS := ⟨st.tmps, st.heap, List.replicate n [], List.replicate n True⟩

/-- the outcome of the operation j, where it is a test -/
def gval (P : Program) (T : Table) (ops : List Oper) (F : List (Nat × Bool)) (j : Nat) (st : St) : Option Bool :=
  match runR P T ops F (List.range j) (rs0 ops.length st) with
  | some rs => match getL ops j with
    | some o => match guardB ops o rs.tmps with
      | some true => match evalOp P T o (evO rs.tmps) rs.heap with
        | some (v, _, _) => v.bool?
        | none => none
      | _ => none
    | none => none
  | none => none

def joinL : List (List Prop) → List Prop → List Prop
  | [], ob => ob
  | [] :: l, ob => joinL l ob
  | (p :: ps) :: l, ob => (p :: ps) ++ joinL l ob

def forkR {α : Type} (P : Program) (T : Table) (ops : List Oper) (st : St) (k : St → List (List Prop) → Option α) : List Nat → List (Nat × Bool) → Option α
  | [], F => match runR P T ops F (List.range ops.length) (rs0 ops.length st) with
    | some rs => k ⟨rs.tmps, rs.heap⟩ rs.ob
    | none => none
  | j :: gs, F => match gval P T ops F j st with
    | some g => cond g (forkR P T ops st k gs ((j, true) :: F)) (forkR P T ops st k gs ((j, false) :: F))
    | none => forkR P T ops st k gs F

def hasGuard : List Oper → Bool
  | [] => false
  | o :: ops => match o.guard with
    | some _ => true
    | none => hasGuard ops

def guardOf (j : Nat) : List Oper → Bool
  | [] => false
  | o :: ops => match o.guard with
    | some (g, _) => Nat.beq g j || guardOf j ops
    | none => guardOf j ops

/-- the tests of a region, in order -/
def gsOf (ops : List Oper) : List Nat := cond (hasGuard ops) ((List.range ops.length).filter fun j => guardOf j ops) []

def popTo (id : Nat) : List It → Option (List It)
  | [] => none
  | .blk j :: k => cond (Nat.beq j id) (some k) (popTo id k)
  | .code _ :: k => popTo id k
  | .lp _ :: k => popTo id k

def exec {α : Type} (P : Program) (T : Table) (un : List It → Bool) (leaf : Out → List Prop → Option α) : Nat → List It → St → List Prop → Option α
  | 0, _, _, _ => none
  | _ + 1, [], st, ob => leaf (.fall st) ob
  | n + 1, .blk _ :: k, st, ob => exec P T un leaf n k st ob
  | n + 1, .lp c :: k, st, ob => cond (un k) (exec P T un leaf n (.code c :: .lp c :: k) st ob) (leaf (.stop (.lp c :: k) st) ob)
  | n + 1, .code c :: k, st, ob => match c with
    | .skip => exec P T un leaf n k st ob
    | .region _ ops draw => cond (!draw || checkB T ops.toList) (forkR P T ops.toList st (fun st' o => exec P T un leaf n k st' (joinL o ob)) (gsOf ops.toList) []) none
    | .seq a b => exec P T un leaf n (.code a :: .code b :: k) st ob
    | .cond x a b => match evO st.tmps x with
      | some s => match s.bool? with
        | some g => cond g (exec P T un leaf n (.code a :: k) st ob) (exec P T un leaf n (.code b :: k) st ob)
        | none => none
      | none => none
    | .block id b => exec P T un leaf n (.code b :: .blk id :: k) st ob
    | .loop b => cond (un k) (exec P T un leaf n (.code b :: .lp b :: k) st ob) (leaf (.stop (.code (.loop b) :: k) st) ob)
    | .exit id => match popTo id k with
      | some k' => exec P T un leaf n k' st ob
      | none => leaf (.ex id st) ob
    | .ret => leaf (.ret st) ob
    | _ => none

/-- going round from the head of a round on -/
def LoopW (P : Program) (c : Code) (Q : Exit → Act → World → Prop) (a : Act) (w : World) : Prop :=
  ∀ (b : Frame) (k : List Item) (cs : List Frame), ∃ e a' w', Q e a' w' ∧ Arrives P (lone (b.at a (.code c :: .inLoop c :: k)) cs w) b k cs e a' w'

theorem wp_of_loopW {P : Program} {c : Code} {Q : Exit → Act → World → Prop} {a : Act} {w : World} (h : LoopW P c Q a w) : (Code.loop c).wp P Q a w := by
  intro b k cs
  obtain ⟨e, a', w', hq, harr⟩ := h b k cs
  exact ⟨e, a', w', hq, .of_steps (.one step_loop) harr⟩

theorem loopW_round {P : Program} {c : Code} {Q : Exit → Act → World → Prop} {a : Act} {w : World} (h : c.wp P (Exit.then (LoopW P c Q) Q) a w) : LoopW P c Q a w := by
  intro b k cs
  obtain ⟨e, a₁, w₁, hq, harr⟩ := h b (.inLoop c :: k) cs
  cases e with
  | normal =>
    obtain ⟨e₂, a₂, w₂, hq₂, harr₂⟩ := hq b k cs
    exact ⟨e₂, a₂, w₂, hq₂, .of_steps (Steps.trans harr (.one step_inLoop)) harr₂⟩
  | exit id => exact ⟨_, a₁, w₁, hq, .pass (x := .inLoop c) rfl (fun _ _ => .inl (by simp)) harr⟩
  | goto l => exact ⟨_, a₁, w₁, hq, .pass (x := .inLoop c) rfl (fun _ _ => .inl (by simp)) harr⟩
  | ret => exact ⟨_, a₁, w₁, hq, .pass (x := .inLoop c) rfl (fun _ _ => .inl (by simp)) harr⟩
  | panic ch => exact ⟨_, a₁, w₁, hq, .pass (x := .inLoop c) rfl (fun _ _ => .inl (by simp)) harr⟩
  | outgrown => exact ⟨_, a₁, w₁, hq, .pass (x := .inLoop c) rfl (fun _ _ => .inl (by simp)) harr⟩

/-- a loop by what holds at each round's head, and a measure -/
theorem loopW_inv {P : Program} {c : Code} {Q : Exit → Act → World → Prop} (I : Nat → Act → World → Prop)
    (round : ∀ n a w, I n a w → c.wp P (Exit.then (fun a' w' => ∃ m, m < n ∧ I m a' w') Q) a w) : ∀ (n : Nat) (a : Act) (w : World), I n a w → LoopW P c Q a w := by
  intro n
  induction n using Nat.strongRecOn with
  | _ n ih =>
    intro a w hI
    refine loopW_round (wp_mono (round n a w hI) ?_)
    intro e a' w' hq
    cases e with
    | normal => obtain ⟨m, hm, hI'⟩ := hq; exact ih m hm a' w' hI'
    | _ => exact hq

/-- what is left to do -/
def cont (P : Program) (Q : Exit → Act → World → Prop) : List It → Exit → Act → World → Prop
  | [] => Q
  | .code c :: k => Exit.then (fun a w => c.wp P (cont P Q k) a w) (cont P Q k)
  | .blk id :: k => Exit.inBlock id (cont P Q k)
  | .lp c :: k => Exit.then (fun a w => LoopW P c (cont P Q k) a w) (cont P Q k)

theorem cont_ret {P : Program} {Q : Exit → Act → World → Prop} {a : Act} {w : World} (h : Q .ret a w) : ∀ k, cont P Q k .ret a w
  | [] => h
  | .code _ :: k => cont_ret h k
  | .blk _ :: k => cont_ret h k
  | .lp _ :: k => cont_ret h k

theorem cont_exit {P : Program} {Q : Exit → Act → World → Prop} {id : Nat} {a : Act} {w : World} : ∀ k, (∀ k', popTo id k = some k' → cont P Q k' .normal a w) → (popTo id k = none → Q (.exit id) a w) → cont P Q k (.exit id) a w
  | [], _, h2 => h2 rfl
  | .code _ :: k, h1, h2 => cont_exit k h1 h2
  | .lp _ :: k, h1, h2 => cont_exit k h1 h2
  | .blk j :: k, h1, h2 => by
    show (if id = j then cont P Q k .normal a w else cont P Q k (.exit id) a w)
    by_cases hj : id = j
    · subst hj
      rw [if_pos rfl]
      exact h1 k (by simp [popTo])
    · rw [if_neg hj]
      have hb : Nat.beq j id = false := Bool.eq_false_iff.2 fun e => hj (Nat.eq_of_beq_eq_true e).symm
      have hp : popTo id (.blk j :: k) = popTo id k := by simp only [popTo, hb, cond_false]
      rw [hp] at h1 h2
      exact cont_exit k h1 h2

theorem joinL_spec : ∀ {o : List (List Prop)} {ob : List Prop}, AllP (joinL o ob) → (∀ k p, getL o k = some p → AllP p) ∧ AllP ob
  | [], ob, h => ⟨fun k p e => by simp [getL] at e, h⟩
  | [] :: l, ob, h => by
    obtain ⟨h1, h2⟩ := joinL_spec (o := l) (ob := ob) h
    refine ⟨fun k p e => ?_, h2⟩
    cases k with
    | zero => simp only [getL] at e; cases e; trivial
    | succ k => exact h1 k p (by simpa [getL] using e)
  | (q :: qs) :: l, ob, h => by
    obtain ⟨h0, h'⟩ := AllP_append (ps := q :: qs) h
    obtain ⟨h1, h2⟩ := joinL_spec (o := l) (ob := ob) h'
    refine ⟨fun k p e => ?_, h2⟩
    cases k with
    | zero => simp only [getL] at e; cases e; exact h0
    | succ k => exact h1 k p (by simpa [getL] using e)

/-- what was taken for granted is so -/
def Good (P : Program) (T : Table) (ops : List Oper) (F : List (Nat × Bool)) (st : St) : Prop :=
  ∀ j b, lookF F j = some b → ∀ g, gval P T ops F j st = some g → g = b

theorem lit_congr {F F' : List (Nat × Bool)} {i : Nat} (h : lookF F i = lookF F' i) (v : SV) : lit F i v = lit F' i v := by
  unfold lit
  rw [h]

theorem runR_congr {P : Program} {T : Table} {ops : List Oper} {F F' : List (Nat × Bool)} : ∀ (is : List Nat) (rs : RS), (∀ i ∈ is, lookF F i = lookF F' i) → runR P T ops F is rs = runR P T ops F' is rs
  | [], rs, _ => rfl
  | i :: is, rs, h => by
    have h1 : stepR P T ops F i rs = stepR P T ops F' i rs := by
      unfold stepR
      simp only [lit_congr (h i (by simp))]
    simp only [runR, h1]
    cases stepR P T ops F' i rs with
    | none => rfl
    | some r => exact runR_congr is r (fun j hj => h j (by simp [hj]))

theorem gval_congr {P : Program} {T : Table} {ops : List Oper} {F F' : List (Nat × Bool)} {j : Nat} {st : St} (h : ∀ i, i < j → lookF F i = lookF F' i) : gval P T ops F j st = gval P T ops F' j st := by
  unfold gval
  rw [runR_congr (List.range j) _ (fun i hi => h i (by simpa using hi))]

theorem cd_good {P : Program} {T : Table} {ops : List Oper} {F : List (Nat × Bool)} {st : St} (hG : Good P T ops F st) : ∀ (m : Nat) (rs : RS), m ≤ ops.length → runR P T ops F (List.range m) (rs0 ops.length st) = some rs →
    (∀ k p, getL rs.cd k = some p → p) ∧ rs.cd.length = ops.length ∧ rs.ob.length = ops.length := by
  intro m
  induction m with
  | zero =>
    intro rs _ h
    simp only [List.range_zero, runR] at h
    cases h
    refine ⟨fun k p e => ?_, by simp [rs0], by simp [rs0]⟩
    simp only [rs0, getL_eq, List.getElem?_replicate] at e
    split at e
    · cases e; trivial
    · cases e
  | succ m ih =>
    intro rs hm h
    rw [List.range_succ, runR_append] at h
    cases h1 : runR P T ops F (List.range m) (rs0 ops.length st) with
    | none => simp [h1] at h
    | some r1 =>
      simp only [h1, Option.bind_some, runR] at h
      obtain ⟨i1, i2, i3⟩ := ih r1 (by omega) h1
      cases h2 : stepR P T ops F m r1 with
      | none => simp [h2] at h
      | some r2 =>
        simp only [h2] at h
        cases h
        have hl := stepR_len h2
        refine ⟨fun k p e => ?_, by omega, by omega⟩
        by_cases hk : k = m
        · subst hk
          have h2' := h2
          unfold stepR at h2
          cases g1 : getL ops k with
          | none => simp [g1] at h2
          | some o =>
            simp only [g1] at h2
            cases g2 : guardB ops o r1.tmps with
            | none => simp [g2] at h2
            | some b =>
              cases b with
              | false => simp only [g2] at h2; cases h2; exact i1 k p e
              | true =>
                simp only [g2] at h2
                cases g3 : evalC P T ops o (evO r1.tmps) r1.heap with
                | none => simp [g3] at h2
                | some x =>
                  obtain ⟨v, hh, pre⟩ := x
                  simp only [g3] at h2
                  cases h2
                  simp only [getL_setL, if_true] at e
                  rw [if_pos (by omega)] at e
                  cases e
                  unfold lit
                  cases g4 : lookF F k with
                  | none => trivial
                  | some b =>
                    simp only []
                    cases g5 : v.bool? with
                    | none => trivial
                    | some g =>
                      simp only []
                      refine hG k b g4 g ?_
                      unfold gval
                      simp only [h1, g1, g2, (evalC_some g3).1, g5]
        · have := (stepR_ob h2 hk).2
          rw [this] at e
          exact i1 k p e

theorem AllP_of {ps : List Prop} (h : ∀ k p, getL ps k = some p → p) : AllP ps := by
  induction ps with
  | nil => trivial
  | cons q ps ih => exact ⟨h 0 q rfl, ih fun k p e => h (k + 1) p (by simpa [getL] using e)⟩

/-- a region, whatever its tests come to -/
theorem forkR_sound {α : Type} {P : Program} {T : Table} {ops : List Oper} {st : St} {k : St → List (List Prop) → Option α} {x : α} {G : Prop}
    (hk : ∀ rs F, Good P T ops F st → runR P T ops F (List.range ops.length) (rs0 ops.length st) = some rs → k ⟨rs.tmps, rs.heap⟩ rs.ob = some x → G) :
    ∀ (gs : List Nat) (F : List (Nat × Bool)), gs.Pairwise (· < ·) → (∀ j, j ∈ gs → ∀ i b, lookF F i = some b → i < j) → Good P T ops F st → forkR P T ops st k gs F = some x → G := by
  intro gs
  induction gs with
  | nil =>
    intro F _ _ hG h
    simp only [forkR] at h
    cases h1 : runR P T ops F (List.range ops.length) (rs0 ops.length st) with
    | none => simp [h1] at h
    | some rs => simp only [h1] at h; exact hk rs F hG h1 h
  | cons j gs ih =>
    intro F hs hF hG h
    rw [List.pairwise_cons] at hs
    simp only [forkR] at h
    cases h1 : gval P T ops F j st with
    | none =>
      simp only [h1] at h
      exact ih F hs.2 (fun i hi => hF i (by simp [hi])) hG h
    | some g =>
      simp only [h1] at h
      have step : ∀ b, g = b → forkR P T ops st k gs ((j, b) :: F) = some x → G := by
        intro b hb h'
        subst hb
        refine ih ((j, g) :: F) hs.2 ?_ ?_ h'
        · intro i hi i' b' hl
          simp only [lookF] at hl
          by_cases hji : Nat.beq j i' = true
          · have := Nat.eq_of_beq_eq_true hji
            have := hs.1 i hi
            omega
          · rw [Bool.eq_false_iff.2 hji] at hl
            have := hF j (by simp) i' b' hl
            have := hs.1 i hi
            omega
        · intro i b' hl g' hg'
          simp only [lookF] at hl
          have look : ∀ i', i' < j → lookF ((j, g) :: F) i' = lookF F i' := by
            intro i' hi'
            have : Nat.beq j i' = false := Bool.eq_false_iff.2 fun e => by have := Nat.eq_of_beq_eq_true e; omega
            simp only [lookF, this, cond_false]
          by_cases hji : Nat.beq j i = true
          · have hij := Nat.eq_of_beq_eq_true hji
            subst hij
            rw [hji] at hl
            cases hl
            rw [gval_congr look] at hg'
            rw [h1] at hg'
            exact (Option.some.inj hg').symm
          · rw [Bool.eq_false_iff.2 hji] at hl
            have hlt := hF j (by simp) i b' hl
            rw [gval_congr (F' := F) (fun i' hi' => look i' (by omega))] at hg'
            exact hG i b' hl g' hg'
      cases g with
      | true => exact step true rfl h
      | false => exact step false rfl h

theorem gsOf_sorted (ops : List Oper) : (gsOf ops).Pairwise (· < ·) := by
  unfold gsOf
  cases hasGuard ops with
  | false => exact List.Pairwise.nil
  | true => exact List.Pairwise.filter _ List.pairwise_lt_range

theorem left_all (n : Nat) : Left n (Array.replicate n false) (List.range n) := by
  refine ⟨fun i => ?_, List.pairwise_lt_range, by simp⟩
  simp only [List.mem_range]
  constructor
  · intro h
    refine ⟨h, ?_⟩
    rw [Array.getD_eq_getD_getElem?, Array.getElem?_eq_getElem (by simpa using h)]
    simp
  · exact fun h => h.1

/-- a region's text order -/
theorem runR_ops {P : Program} {T : Table} (hT : TableOK P T) {w0 : World} {fb : Gh} {ops : Array Oper} {F : List (Nat × Bool)} {Q : Exit → Act → World → Prop} {r' : RS}
    (hob : ∀ k p, getL r'.ob k = some p → AllP p) (hcd : AllP r'.cd) (hQ : ∀ ρ' a' w', Rel w0 fb ρ' r'.tmps r'.heap a' w' → Q .normal a' w') :
    ∀ (is : List Nat) (rs : RS) (ρ : Env) (a : Act) (w : World), is.Nodup → (∀ i ∈ is, i < ops.size) → runR P T ops.toList F is rs = some r' → rs.ob.length = ops.size → rs.cd.length = ops.size →
      Rel w0 fb ρ rs.tmps rs.heap a w → wpOps P ops Q is a w
  | [], rs, ρ, a, w, _, _, h, _, _, hr => by simp only [runR] at h; cases h; exact hQ ρ a w hr
  | i :: is, rs, ρ, a, w, hn, hlt, h, hlo, hlc, hr => by
    simp only [runR] at h
    rw [wpOps_cons]
    cases h1 : stepR P T ops.toList F i rs with
    | none => simp [h1] at h
    | some r1 =>
      simp only [h1] at h
      rw [List.nodup_cons] at hn
      have hk := runR_ob h i hn.1
      have hlen := stepR_len h1
      have hi := hlt i (by simp)
      refine stepR_wp hT hr h1 (fun p hp => hob i p (by rw [hk.1]; exact hp)) (fun p hp => AllP_get hcd (k := i) (by rw [hk.2]; exact hp)) (by omega) (by omega) ?_
      intro ρ' a' w' hr'
      exact runR_ops hT hob hcd hQ is r1 ρ' a' w' hn.2 (fun j hj => hlt j (by simp [hj])) h (by omega) (by omega) hr'

def Leaf (P : Program) (w0 : World) (fb : Gh) (Q : Exit → Act → World → Prop) : Out → Prop
  | .fall st => ∀ ρ a w, Rel w0 fb ρ st.tmps st.heap a w → Q .normal a w
  | .ret st => ∀ ρ a w, Rel w0 fb ρ st.tmps st.heap a w → Q .ret a w
  | .ex id st => ∀ ρ a w, Rel w0 fb ρ st.tmps st.heap a w → Q (.exit id) a w
  | .stop k st => ∀ ρ a w, Rel w0 fb ρ st.tmps st.heap a w → cont P Q k .normal a w

theorem exec_sound {α : Type} {P : Program} {T : Table} (hT : TableOK P T) (hm : P.follows .mixedOrders = true) {w0 : World} {fb : Gh} {un : List It → Bool} {Q : Exit → Act → World → Prop} {leaf : Out → List Prop → Option α} {x : α}
    (hQ : ∀ out ob, leaf out ob = some x → AllP ob ∧ Leaf P w0 fb Q out) :
    ∀ (n : Nat) (k : List It) (st : St) (ob0 : List Prop), exec P T un leaf n k st ob0 = some x →
      AllP ob0 ∧ ∀ (ρ : Env) (a : Act) (w : World), Rel w0 fb ρ st.tmps st.heap a w → cont P Q k .normal a w := by
  intro n
  induction n with
  | zero => intro k st ob0 h; simp [exec] at h
  | succ n ih =>
    intro k st ob0 h
    cases k with
    | nil =>
      simp only [exec] at h
      obtain ⟨hob, hl⟩ := hQ _ _ h
      exact ⟨hob, fun ρ a w hr => hl ρ a w hr⟩
    | cons it k =>
      cases it with
      | blk id =>
        simp only [exec] at h
        obtain ⟨h1, h2⟩ := ih k st ob0 h
        exact ⟨h1, h2⟩
      | lp c =>
        simp only [exec] at h
        cases hun : un k with
        | true =>
          simp only [hun, cond_true] at h
          obtain ⟨h1, h2⟩ := ih _ st ob0 h
          exact ⟨h1, fun ρ a w hr => loopW_round (h2 ρ a w hr)⟩
        | false =>
          simp only [hun, cond_false] at h
          obtain ⟨hob, hl⟩ := hQ _ _ h
          exact ⟨hob, fun ρ a w hr => hl ρ a w hr⟩
      | code c =>
        cases c <;> simp only [exec] at h <;> try (cases h; done)
        case skip =>
          obtain ⟨h1, h2⟩ := ih k st ob0 h
          exact ⟨h1, fun ρ a w hr => wp_skip (h2 ρ a w hr)⟩
        case region id ops draw =>
          by_cases hc : (!draw || checkB T ops.toList) = true
          · rw [hc] at h
            simp only [cond_true] at h
            refine forkR_sound (P := P) (T := T) (ops := ops.toList) (st := st) ?_ (gsOf ops.toList) [] (gsOf_sorted _) (fun j _ i b hl => by simp [lookF] at hl) (fun j b hl => by simp [lookF] at hl) h
            intro rs F hG hrun hk
            obtain ⟨h1, h2⟩ := ih k ⟨rs.tmps, rs.heap⟩ _ hk
            obtain ⟨j1, j2⟩ := joinL_spec h1
            have hcd := cd_good hG ops.toList.length rs (Nat.le_refl _) hrun
            refine ⟨j2, fun ρ a w hr => ?_⟩
            have hsz : ops.toList.length = ops.size := by simp
            cases draw with
            | false =>
              refine wp_region ?_
              rw [← hsz]
              exact runR_ops hT j1 (AllP_of hcd.1) (fun ρ' a' w' hr' => h2 ρ' a' w' hr') (List.range ops.toList.length) _ ρ a w List.nodup_range (fun i hi => by simpa using hi) hrun (by simp [rs0]) (by simp [rs0]) hr
            | true =>
              have hck : checkB T ops.toList = true := by simpa using hc
              refine wp_region_any hm ?_
              exact any_sound hT (checkB_spec hck) j1 (AllP_of hcd.1) (fun ρ' a' w' hr' => h2 ρ' a' w' hr') ops.size _ (List.range ops.size) (rs0 ops.toList.length st) ρ a _ (by simp) (left_all _) (by rw [← hsz]; exact hrun) (by simp [rs0]) (by simp [rs0]) hr.drew (fun j x e _ hl => by
                rw [Array.getD_eq_getD_getElem?, Array.getElem?_replicate] at hl
                split at hl <;> simp at hl)
          · rw [Bool.eq_false_iff.2 hc] at h
            cases h
        case seq x y =>
          obtain ⟨h1, h2⟩ := ih _ st ob0 h
          exact ⟨h1, fun ρ a w hr => wp_seq (h2 ρ a w hr)⟩
        case cond x y z =>
          cases h1 : evO st.tmps x with
          | none => simp [h1] at h
          | some s =>
            cases h2 : s.bool? with
            | none => simp [h1, h2] at h
            | some g =>
              simp only [h1, h2] at h
              cases g with
              | true =>
                simp only [cond_true] at h
                obtain ⟨h3, h4⟩ := ih _ st ob0 h
                refine ⟨h3, fun ρ a w hr => ?_⟩
                have e := SV.bool?_spec h2 (evO_spec hr.tmps x s h1)
                exact wp_cond_true e (h4 ρ a w hr)
              | false =>
                simp only [cond_false] at h
                obtain ⟨h3, h4⟩ := ih _ st ob0 h
                refine ⟨h3, fun ρ a w hr => ?_⟩
                have e := SV.bool?_spec h2 (evO_spec hr.tmps x s h1)
                exact wp_cond_false e (h4 ρ a w hr)
        case block id b =>
          obtain ⟨h1, h2⟩ := ih _ st ob0 h
          exact ⟨h1, fun ρ a w hr => wp_block (h2 ρ a w hr)⟩
        case loop b =>
          cases hun : un k with
          | true =>
            simp only [hun, cond_true] at h
            obtain ⟨h1, h2⟩ := ih _ st ob0 h
            exact ⟨h1, fun ρ a w hr => wp_of_loopW (loopW_round (h2 ρ a w hr))⟩
          | false =>
            simp only [hun, cond_false] at h
            obtain ⟨hob, hl⟩ := hQ _ _ h
            exact ⟨hob, fun ρ a w hr => hl ρ a w hr⟩
        case exit id =>
          cases h1 : popTo id k with
          | none =>
            simp only [h1] at h
            obtain ⟨hob, hl⟩ := hQ _ _ h
            refine ⟨hob, fun ρ a w hr => wp_exit (cont_exit k (fun k' e => by rw [h1] at e; cases e) (fun _ => hl ρ a w hr))⟩
          | some k' =>
            simp only [h1] at h
            obtain ⟨h2, h3⟩ := ih k' st ob0 h
            refine ⟨h2, fun ρ a w hr => wp_exit (cont_exit k (fun k'' e => by rw [h1] at e; cases e; exact h3 ρ a w hr) (fun e => by rw [h1] at e; cases e))⟩
        case ret =>
          obtain ⟨hob, hl⟩ := hQ _ _ h
          exact ⟨hob, fun ρ a w hr => wp_ret (cont_ret (hl ρ a w hr) k)⟩

end Eng

/- A program's operations carried out on values written out: whole functions. -/
namespace Eng
open Go Go.RowKit

def resP (P : Program) (st : St) : ResultVar → Option PV
  | .tmp t => match getL st.tmps t with
    | some (.pv p) => some p
    | _ => none
  | .cell t ty => match getL st.tmps t with
    | some s => match loadV P ty s st.heap with
      | some (.pv p, []) => some p
      | _ => none
    | none => none

def resPs (P : Program) (st : St) : List ResultVar → Option (List PV)
  | [] => some []
  | r :: rs => match resP P st r, resPs P st rs with
    | some p, some ps => some (p :: ps)
    | _, _ => none

def outSt : Out → Option St
  | .fall st => some st
  | .ret st => some st
  | _ => none

/-- a result read off a frame -/
def semR (a : Act) : ResultVar → Sem Value
  | .tmp t => pure (a.tmps.getD t undef)
  | .cell x t => do loadVar t (← asAddr (a.tmps.getD x undef))

theorem run_resP {P : Program} {w0 : World} {fb : Gh} {ρ : Env} {st : St} {a : Act} {w : World} (hr : Rel w0 fb ρ st.tmps st.heap a w) {r : ResultVar} {p : PV} (h : resP P st r = some p) :
    ∃ v, denP ρ p = some v ∧ (semR a r).run P w = .ok v w := by
  cases r with
  | tmp t =>
    simp only [resP] at h
    split at h
    · rename_i q e
      cases h
      exact ⟨_, hr.tmps t _ e, rfl⟩
    · cases h
  | cell t ty =>
    simp only [resP] at h
    cases h1 : getL st.tmps t with
    | none => simp [h1] at h
    | some s =>
      simp only [h1] at h
      split at h
      · rename_i q e
        cases h
        obtain ⟨ad, v, g2, v1, v2⟩ := loadV_spec (P := P) hr.toHRel e trivial (hr.tmps t _ h1)
        refine ⟨v, v1, ?_⟩
        simp only [semR, g2, asAddr, Sem.run_bind, Sem.run_pure, Result.andThen_ok, v2]
      · cases h

theorem run_resPs {P : Program} {w0 : World} {fb : Gh} {ρ : Env} {st : St} {a : Act} {w : World} (hr : Rel w0 fb ρ st.tmps st.heap a w) : ∀ {rs : List ResultVar} {ps : List PV}, resPs P st rs = some ps →
    ∃ l, denPs ρ ps = some l ∧ (rs.mapM (semR a)).run P w = .ok l w
  | [], ps, h => by simp only [resPs] at h; cases h; exact ⟨[], rfl, rfl⟩
  | r :: rs, ps, h => by
    simp only [resPs] at h
    cases h1 : resP P st r with
    | none => simp [h1] at h
    | some p =>
      cases h2 : resPs P st rs with
      | none => simp [h1, h2] at h
      | some qs =>
        simp only [h1, h2] at h
        cases h
        obtain ⟨v, v1, v2⟩ := run_resP hr h1
        obtain ⟨l, l1, l2⟩ := run_resPs hr h2
        refine ⟨v :: l, by simp [denPs, v1, l1], ?_⟩
        rw [List.mapM_cons]
        simp only [Sem.run_bind, v2, Result.andThen_ok, l2, Sem.run_pure]

theorem run_results {P : Program} {w0 : World} {fb : Gh} {ρ : Env} {st : St} {a : Act} {w : World} {fn : Func} (hr : Rel w0 fb ρ st.tmps st.heap a w) {ps : List PV} (h : resPs P st fn.results.toList = some ps) :
    ∃ v, relS ρ (tupOf ps) v ∧ (results fn a.tmps).run P w = .ok v w := by
  obtain ⟨l, l1, l2⟩ := run_resPs hr h
  have key : results fn a.tmps = (do let vs ← fn.results.mapM (semR a); pure (if h : vs.size = 1 then vs[0] else .tuple vs)) := by
    unfold results
    exact congrArg (fun g => (Array.mapM g fn.results >>= fun vs => (pure (if h : vs.size = 1 then vs[0] else .tuple vs) : Sem Value))) (funext fun r => by cases r <;> rfl)
  rw [key, Array.mapM_eq_mapM_toList]
  simp only [Sem.run_bind, Sem.run_map, l2, Result.andThen_ok]
  cases ps with
  | nil => simp only [denPs] at l1; cases l1; exact ⟨_, ⟨[], rfl, rfl⟩, by simp⟩
  | cons p ps =>
    simp only [denPs] at l1
    cases h1 : denP ρ p with
    | none => simp [h1] at l1
    | some v =>
      cases h2 : denPs ρ ps with
      | none => simp [h1, h2] at l1
      | some vs =>
        simp only [h1, h2] at l1
        cases l1
        cases ps with
        | nil =>
          simp only [denPs] at h2
          cases h2
          exact ⟨v, h1, by simp⟩
        | cons q qs =>
          refine ⟨_, ⟨v :: vs, by simp only [denPs] at h2 ⊢; simp [h1, h2], rfl⟩, ?_⟩
          have : vs.length ≠ 0 := by
            intro e
            simp only [denPs] at h2
            cases h3 : denP ρ q <;> cases h4 : denPs ρ qs <;> simp [h3, h4] at h2
            subst h2; simp at e
          simp [this]

def pvVals : List PV → Option (List Value)
  | [] => some []
  | p :: ps => match p.val?, pvVals ps with
    | some v, some vs => some (v :: vs)
    | _, _ => none

theorem pvVals_spec {ρ : Env} : ∀ {ps : List PV} {l : List Value}, pvVals ps = some l → denPs ρ ps = some l
  | [], l, h => by simp only [pvVals] at h; cases h; rfl
  | p :: ps, l, h => by
    simp only [pvVals] at h
    cases h1 : p.val? with
    | none => simp [h1] at h
    | some v =>
      cases h2 : pvVals ps with
      | none => simp [h1, h2] at h
      | some vs =>
        simp only [h1, h2] at h
        cases h
        have : denP ρ p = some v := PV.val?_den h1
        simp [denPs, this, pvVals_spec h2]

def SV.val? : SV → Option Value
  | .any => none
  | .pv p => p.val?
  | .tup ps => match pvVals ps with
    | some l => some (.tuple l.toArray)
    | none => none

theorem SV.val?_spec {ρ : Env} {s : SV} {v u : Value} (h : s.val? = some v) (r : relS ρ s u) : u = v := by
  cases s with
  | any => cases h
  | pv p => exact PV.val?_spec h r
  | tup ps =>
    simp only [SV.val?] at h
    cases h1 : pvVals ps with
    | none => simp [h1] at h
    | some l =>
      simp only [h1] at h
      cases h
      obtain ⟨m, m1, m2⟩ := r
      rw [pvVals_spec h1] at m1
      cases m1
      exact m2

def start (ntmps : Nat) (ps : List PV) : St := ⟨ps.map .pv ++ List.replicate (ntmps - ps.length) (.tup []), List.replicate ntmps []⟩

/-- a function's own result: of arguments the value, what must hold -/
def leafV (P : Program) (fn : Func) (out : Out) (ob : List Prop) : Option (SV × List Prop) :=
  match outSt out with
  | some st => match resPs P st fn.results.toList with
    | some ps => some (tupOf ps, ob)
    | none => none
  | none => none

def callX (P : Program) (T : Table) (n : Nat) (fn : Func) (ps : List PV) : Option (SV × List Prop) :=
  match fn.body with
  | some c => exec P T (fun _ => true) (leafV P fn) n [.code c] (start fn.ntmps ps) []
  | none => none

theorem start_rel {ρ0 : Env} (hρ : ρ0 = Env.no) {ntmps : Nat} {ps : List PV} {vals : List Value} (hps : pvVals ps = some vals) (hn : ps.length ≤ ntmps) (fb : Gh) (ha : ∀ j, fb.anc j = none) (w : World) :
    Rel w fb ρ0 (start ntmps ps).tmps (start ntmps ps).heap { tmps := vals.toArray ++ Array.replicate (ntmps - vals.toArray.size) undef, defers := [] } w := by
  have hd := pvVals_spec (ρ := ρ0) hps
  have hl : vals.length = ps.length := by
    clear hn hρ
    induction ps generalizing vals with
    | nil => simp only [pvVals] at hps; cases hps; rfl
    | cons p ps ih =>
      simp only [pvVals] at hps
      cases h1 : p.val? with
      | none => simp [h1] at hps
      | some v =>
        cases h2 : pvVals ps with
        | none => simp [h1, h2] at hps
        | some vs =>
          simp only [h1, h2] at hps
          cases hps
          simp [ih h2 (pvVals_spec h2)]
  have h0 : HRel w fb ρ0 (start ntmps ps).heap w := by
    refine ⟨?_, ?_, ?_, ?_, ?_, ?_, (fun j b e => by rw [ha j] at e; cases e), ⟨rfl, rfl, rfl, Nat.le_refl _, fun _ _ _ => rfl⟩⟩
    · intro d i blk hg
      exfalso
      simp only [start, getB, getL_eq, List.getElem?_replicate] at hg
      split at hg
      · rename_i l hl'
        split at hl'
        · cases hl'; simp at hg
        · cases hl'
      · cases hg
    · intro d i b hb; rw [hρ] at hb; cases hb
    · intro d i b hb; rw [hρ] at hb; cases hb
    · intro d i d' i' b hb; rw [hρ] at hb; cases hb
    · intro d i b blk hb; rw [hρ] at hb; cases hb
    · intro d i b hb; rw [hρ] at hb; cases hb
  refine { h0 with tmps := ?_, len := ?_, defers := rfl }
  · intro t s hs
    simp only [start, getL_eq] at hs
    rw [List.getElem?_append] at hs
    split at hs
    · rename_i ht
      simp only [List.length_map] at ht
      simp only [List.getElem?_map, Option.map_eq_some_iff] at hs
      obtain ⟨p, hp, rfl⟩ := hs
      obtain ⟨v, v1, v2⟩ := getL_denPs hd (by rw [getL_eq]; exact hp)
      have : (vals.toArray ++ Array.replicate (ntmps - vals.toArray.size) undef)[t]? = some v := by
        rw [Array.getElem?_append_left (by simp; omega)]
        simpa using v1
      simp only [Array.getD_eq_getD_getElem?, this, Option.getD_some]
      exact v2
    · rename_i ht
      simp only [List.length_map] at ht hs
      rw [List.getElem?_replicate] at hs
      split at hs
      · rename_i h2
        cases hs
        have : (vals.toArray ++ Array.replicate (ntmps - vals.toArray.size) undef)[t]? = some undef := by
          rw [Array.getElem?_append_right (by simp; omega)]
          rw [Array.getElem?_replicate, if_pos (by simp; omega)]
        simp only [Array.getD_eq_getD_getElem?, this, Option.getD_some]
        exact ⟨[], rfl, rfl⟩
      · cases hs
  · simp [start, hl]

/-- WHAT A FUNCTION COMES TO, by the reckoning of its text. -/
theorem calls_of_exec {P : Program} {T : Table} (hT : TableOK P T) (hm : P.follows .mixedOrders = true) {f : FuncId} {fn : Func} (hf : P.funcs[f]? = some fn) {n : Nat} {ps : List PV} {vals : List Value}
    (hps : pvVals ps = some vals) (hn : Nat.ble ps.length fn.ntmps = true) {sv : SV} {ob : List Prop} (he : callX P T n fn ps = some (sv, ob)) (hob : AllP ob) {v : Value} (hv : sv.val? = some v) (w : World) :
    Calls P f vals.toArray w fun e w' => e = .returned v ∧ Below w.heap.size w w' := by
  unfold callX at he
  cases hb : fn.body with
  | none => simp [hb] at he
  | some c =>
    simp only [hb] at he
    refine calls_of_wp hf hb ?_
    have key : ∀ out ob', leafV P fn out ob' = some (sv, ob) → AllP ob' ∧ Leaf P w Gh.no (bodyPost P fn fun e w' => e = .returned v ∧ Below w.heap.size w w') out := by
      intro out ob' hl
      unfold leafV at hl
      have fin : ∀ st, outSt out = some st → ob' = ob ∧ ∀ ρ a w', Rel w Gh.no ρ st.tmps st.heap a w' → a.defers = [] ∧ ∃ u, (results fn a.tmps).run P w' = .ok u w' ∧ (Ending.returned u = .returned v ∧ Below w.heap.size w w') := by
        intro st hst
        simp only [hst] at hl
        cases h2 : resPs P st fn.results.toList with
        | none => simp [h2] at hl
        | some qs =>
          simp only [h2] at hl
          cases hl
          refine ⟨rfl, fun ρ a w' hr => ⟨hr.defers, ?_⟩⟩
          obtain ⟨u, u1, u2⟩ := run_results hr h2
          have := SV.val?_spec hv u1
          subst this
          refine ⟨u, u2, rfl, ?_⟩
          have k := hr.keep
          exact ⟨k.os, k.tape, k.output, k.size, fun j hj => k.block j hj id⟩
      cases out with
      | fall st => obtain ⟨e, h⟩ := fin st rfl; subst e; exact ⟨hob, fun ρ a w' hr => h ρ a w' hr⟩
      | ret st => obtain ⟨e, h⟩ := fin st rfl; subst e; exact ⟨hob, fun ρ a w' hr => h ρ a w' hr⟩
      | ex id st => simp [outSt] at hl
      | stop k st => simp [outSt] at hl
    obtain ⟨_, h⟩ := exec_sound hT hm key n [.code c] (start fn.ntmps ps) [] he
    exact wp_mono (h _ _ w (start_rel rfl hps (Nat.le_of_ble_eq_true hn) _ (fun _ => rfl) w)) fun e a w' hq => by cases e <;> exact hq

end Eng

/- Numbers in words: sums and products of words, and what they come to modulo the prime. -/
namespace Fw
open Go Eng

def m64 : Nat := 18446744073709551616

/-- carries and borrows, as the model has them -/
def addS (x y c : Int) : Int := (((x.toNat + y.toNat + c.toNat) % 2 ^ 64 : Nat) : Int)
def addC (x y c : Int) : Int := (((x.toNat + y.toNat + c.toNat) / 2 ^ 64 : Nat) : Int)
def subS (x y b : Int) : Int := (((x.toNat + 2 ^ 64 - y.toNat - b.toNat) % 2 ^ 64 : Nat) : Int)
def subB (x y b : Int) : Int := ((if x.toNat < y.toNat + b.toNat then 1 else 0 : Nat) : Int)
def mulL (x y : Int) : Int := (x * y) % 18446744073709551616
def mulH (x y : Int) : Int := (x * y) / 18446744073709551616

/-- a word -/
def W (x : Int) : Prop := 0 ≤ x ∧ x < 18446744073709551616
def B (x : Int) : Prop := 0 ≤ x ∧ x ≤ 1

theorem addS_spec {x y c : Int} (hx : W x) (hy : W y) (hc : B c) : x + y + c = addS x y c + 18446744073709551616 * addC x y c ∧ W (addS x y c) ∧ B (addC x y c) := by
  unfold W B addS addC at *
  omega
theorem subS_spec {x y b : Int} (hx : W x) (hy : W y) (hb : B b) : x - y - b = subS x y b - 18446744073709551616 * subB x y b ∧ W (subS x y b) ∧ B (subB x y b) := by
  unfold W B subS subB at *
  split <;> omega
theorem mulH_spec {x y : Int} (hx : W x) (hy : W y) : x * y = mulL x y + 18446744073709551616 * mulH x y ∧ W (mulL x y) ∧ 0 ≤ mulH x y ∧ mulH x y ≤ 18446744073709551614 := by
  unfold W mulL mulH at *
  have h1 : 0 ≤ x * y := Int.mul_nonneg hx.1 hy.1
  have h2 : x * y ≤ 18446744073709551615 * 18446744073709551615 := Int.mul_le_mul (by omega) (by omega) hy.1 (by omega)
  omega

theorem b_toNat {b : Int} (h : B b) : b.toNat ≤ 1 := by unfold B at h; omega

/-- a number of four words -/
def val4 (a b c d : Int) : Int := a + 18446744073709551616 * b + 340282366920938463463374607431768211456 * c + 6277101735386680763835789423207666416102355444464034512896 * d

theorem dg_words {a b c d : Int} (ha : W a) (hb : W b) (hc : W c) (hd : W d) {x : Nat} (h : (x : Int) = val4 a b c d) : dg 64 x 0 = a ∧ dg 64 x 1 = b ∧ dg 64 x 2 = c ∧ dg 64 x 3 = d := by
  unfold W val4 dg at *
  simp only [Nat.mul_zero, Nat.pow_zero, Nat.div_one, Nat.mul_one, Nat.reduceMul, Nat.reducePow]
  omega

theorem words_dg (x : Nat) (h : x < 115792089237316195423570985008687907853269984665640564039457584007913129639936) : (x : Int) = val4 (dg 64 x 0) (dg 64 x 1) (dg 64 x 2) (dg 64 x 3) := by
  unfold val4 dg at *
  simp only [Nat.mul_zero, Nat.pow_zero, Nat.div_one, Nat.mul_one, Nat.reduceMul, Nat.reducePow]
  omega

theorem dg_W (x i : Nat) : W (dg 64 x i) := by
  unfold W dg
  have := Nat.mod_lt (x / 2 ^ (64 * i)) (show 0 < 2 ^ 64 by decide)
  simp only [Nat.reducePow] at this ⊢
  omega

theorem P_lit : ((Ec.P : Nat) : Int) = 57896044618658097711785492504343953926634992332820282019728792003956564819949 := rfl

/-- the model's own operations on words -/
def wr (x : Int) : Int := IntKind.wrap .u64 x
def andI (a b : Int) : Int := wr ((BitVec.ofInt 64 a &&& BitVec.ofInt 64 b).toNat)
def shrI (a n : Int) : Int := a.fdiv (2 ^ (min n.toNat 64))

theorem wr_mod (x : Int) : wr x = x % 18446744073709551616 := by
  unfold wr IntKind.wrap
  simp [IntKind.bits, IntKind.signed]
theorem wr_W (x : Int) : W (wr x) := by rw [wr_mod]; unfold W; omega
theorem wr_id {x : Int} (h : W x) : wr x = x := by rw [wr_mod]; unfold W at h; omega

theorem ofInt_toNat {a : Int} (h : W a) : (BitVec.ofInt 64 a).toNat = a.toNat := by
  unfold W at h
  rw [BitVec.toNat_ofInt]
  omega

theorem and_low {a : Int} (h : W a) (k : Nat) (hk : k ≤ 64) : andI a (((2 ^ k - 1 : Nat)) : Int) = a % ((2 ^ k : Nat) : Int) := by
  have hp : (2 : Nat) ^ k ≤ 2 ^ 64 := Nat.pow_le_pow_right (by decide) hk
  have hp' : (2 : Nat) ^ 64 = 18446744073709551616 := by decide
  have h0 : 0 < 2 ^ k := Nat.two_pow_pos k
  have hW : W (((2 ^ k - 1 : Nat)) : Int) := by unfold W; omega
  unfold andI
  rw [BitVec.toNat_and, ofInt_toNat h, ofInt_toNat hW, wr_id]
  · rw [Int.toNat_natCast, Nat.and_two_pow_sub_one_eq_mod]
    unfold W at h
    rw [show (a : Int) = ((a.toNat : Nat) : Int) from by omega]
    simp
  · rw [Int.toNat_natCast, Nat.and_two_pow_sub_one_eq_mod]
    unfold W at *
    have := Nat.mod_le a.toNat (2 ^ k)
    omega

theorem and32 {a : Int} (h : W a) : andI a 4294967295 = a % 4294967296 := by
  have := and_low h 32 (by decide)
  simpa using this
theorem and63 {a : Int} (h : W a) : andI a 9223372036854775807 = a % 9223372036854775808 := by
  have := and_low h 63 (by decide)
  simpa using this

theorem shr32 (a : Int) : shrI a 32 = a / 4294967296 := by
  unfold shrI
  rw [Int.fdiv_eq_ediv_of_nonneg _ (by decide)]
  rfl
theorem shr63 (a : Int) : shrI a 63 = a / 9223372036854775808 := by
  unfold shrI
  rw [Int.fdiv_eq_ediv_of_nonneg _ (by decide)]
  rfl

/-- the high word of a product, as Go's text has it -/
def mulX (x y : Int) : Int :=
  let x0 := andI x 4294967295
  let x1 := shrI x 32
  let y0 := andI y 4294967295
  let y1 := shrI y 32
  let w0 := wr (x0 * y0)
  let t := wr (wr (x1 * y0) + shrI w0 32)
  let w1 := andI t 4294967295
  let w2 := shrI t 32
  let w1' := wr (w1 + wr (x0 * y1))
  wr (wr (wr (x1 * y1) + w2) + shrI w1' 32)

theorem mulX_eq {x y : Int} (hx : W x) (hy : W y) : mulX x y = mulH x y := by
  have hx' := hx
  have hy' := hy
  unfold W at hx' hy'
  have key := mul64_arith x y hx'.1 hx'.2 hy'.1 hy'.2
  unfold mulX mulH
  simp only [and32 hx, and32 hy, shr32, and32 (wr_W _)]
  simp only [wr_mod]
  rw [← key]

/-- what is left when p is taken away, and the borrow -/
def lessR (a b c d : Int) : List Int × Int :=
  let r0 := subS a 18446744073709551597 0
  let c0 := subB a 18446744073709551597 0
  let r1 := subS b 18446744073709551615 c0
  let c1 := subB b 18446744073709551615 c0
  let r2 := subS c 18446744073709551615 c1
  let c2 := subB c 18446744073709551615 c1
  let r3 := subS d 9223372036854775807 c2
  let c3 := subB d 9223372036854775807 c2
  ([r0, r1, r2, r3], c3)

theorem W_lit {n : Int} (h0 : 0 ≤ n) (h1 : n < 18446744073709551616) : W n := ⟨h0, h1⟩
theorem B0 : B 0 := ⟨by decide, by decide⟩
theorem B1 : B 1 := ⟨by decide, by decide⟩

theorem lessR_spec {a b c d : Int} (ha : W a) (hb : W b) (hc : W c) (hd : W d) : ∃ r0 r1 r2 r3 c3, lessR a b c d = ([r0, r1, r2, r3], c3) ∧ W r0 ∧ W r1 ∧ W r2 ∧ W r3 ∧ B c3 ∧
    val4 a b c d - Ec.P = val4 r0 r1 r2 r3 - 115792089237316195423570985008687907853269984665640564039457584007913129639936 * c3 := by
  have h0 := subS_spec ha (W_lit (n := 18446744073709551597) (by decide) (by decide)) B0
  have h1 := subS_spec hb (W_lit (n := 18446744073709551615) (by decide) (by decide)) h0.2.2
  have h2 := subS_spec hc (W_lit (n := 18446744073709551615) (by decide) (by decide)) h1.2.2
  have h3 := subS_spec hd (W_lit (n := 9223372036854775807) (by decide) (by decide)) h2.2.2
  refine ⟨_, _, _, _, _, rfl, h0.2.1, h1.2.1, h2.2.1, h3.2.1, h3.2.2, ?_⟩
  have e0 := h0.1
  have e1 := h1.1
  have e2 := h2.1
  have e3 := h3.1
  rw [P_lit]
  unfold val4
  omega

theorem val4_nn {a b c d : Int} (ha : W a) (hb : W b) (hc : W c) (hd : W d) : 0 ≤ val4 a b c d ∧ val4 a b c d < 115792089237316195423570985008687907853269984665640564039457584007913129639936 := by
  unfold W val4 at *
  omega

/-- words of a number modulo p -/
theorem words_mod {a b c d : Int} (ha : W a) (hb : W b) (hc : W c) (hd : W d) {n : Nat} (h : val4 a b c d = ((n % Ec.P : Nat) : Int)) : [dg 64 (n % Ec.P) 0, dg 64 (n % Ec.P) 1, dg 64 (n % Ec.P) 2, dg 64 (n % Ec.P) 3] = [a, b, c, d] := by
  obtain ⟨e0, e1, e2, e3⟩ := dg_words ha hb hc hd h.symm
  rw [e0, e1, e2, e3]

/-- p taken away or not: the number modulo p -/
theorem less_mod {a b c d : Int} (ha : W a) (hb : W b) (hc : W c) (hd : W d) (hN : val4 a b c d < 2 * Ec.P) :
    ((lessR a b c d).2 = 0 → [dg 64 ((val4 a b c d).toNat % Ec.P) 0, dg 64 ((val4 a b c d).toNat % Ec.P) 1, dg 64 ((val4 a b c d).toNat % Ec.P) 2, dg 64 ((val4 a b c d).toNat % Ec.P) 3] = (lessR a b c d).1) ∧
    ((lessR a b c d).2 ≠ 0 → [dg 64 ((val4 a b c d).toNat % Ec.P) 0, dg 64 ((val4 a b c d).toNat % Ec.P) 1, dg 64 ((val4 a b c d).toNat % Ec.P) 2, dg 64 ((val4 a b c d).toNat % Ec.P) 3] = [a, b, c, d]) := by
  obtain ⟨r0, r1, r2, r3, c3, e, w0, w1, w2, w3, hb3, hv⟩ := lessR_spec ha hb hc hd
  have hn := val4_nn ha hb hc hd
  have hr := val4_nn w0 w1 w2 w3
  have hP : (Ec.P : Int) = 57896044618658097711785492504343953926634992332820282019728792003956564819949 := P_lit
  rw [e]
  generalize hV : val4 a b c d = N at *
  constructor
  · intro h
    refine words_mod w0 w1 w2 w3 ?_
    simp only at h
    subst h
    have : (N.toNat : Int) = N := Int.toNat_of_nonneg hn.1
    have h1 : N.toNat % Ec.P = N.toNat - Ec.P := by
      rw [Nat.mod_eq_sub_mod (by omega), Nat.mod_eq_of_lt (by omega)]
    rw [h1]
    omega
  · intro h
    have : (N.toNat : Int) = N := Int.toNat_of_nonneg hn.1
    have hc3 : c3 = 1 := by
      simp only at h
      unfold B at hb3
      omega
    subst hc3
    have h1 : N.toNat % Ec.P = N.toNat := Nat.mod_eq_of_lt (by omega)
    exact words_mod ha hb hc hd (by rw [hV, h1, this])

theorem mod_val {n : Nat} {x : Fin Ec.P} (h : n % Ec.P = x.val) : [dg 64 (n % Ec.P) 0, dg 64 (n % Ec.P) 1, dg 64 (n % Ec.P) 2, dg 64 (n % Ec.P) 3] = [dg 64 x.val 0, dg 64 x.val 1, dg 64 x.val 2, dg 64 x.val 3] := by rw [h]

/-- a sum of words, words of numbers below p -/
def addW (a b c d e f g h : Int) : List Int × Int :=
  let s0 := addS a e 0
  let c0 := addC a e 0
  let s1 := addS b f c0
  let c1 := addC b f c0
  let s2 := addS c g c1
  let c2 := addC c g c1
  ([s0, s1, s2, addS d h c2], addC d h c2)

theorem addW_spec {a b c d e f g h : Int} (ha : W a) (hb : W b) (hc : W c) (hd : W d) (he : W e) (hf : W f) (hg : W g) (hh : W h) :
    ∃ s0 s1 s2 s3 k, addW a b c d e f g h = ([s0, s1, s2, s3], k) ∧ W s0 ∧ W s1 ∧ W s2 ∧ W s3 ∧ B k ∧ val4 a b c d + val4 e f g h = val4 s0 s1 s2 s3 + 115792089237316195423570985008687907853269984665640564039457584007913129639936 * k := by
  have h0 := addS_spec ha he B0
  have h1 := addS_spec hb hf h0.2.2
  have h2 := addS_spec hc hg h1.2.2
  have h3 := addS_spec hd hh h2.2.2
  refine ⟨_, _, _, _, _, rfl, h0.2.1, h1.2.1, h2.2.1, h3.2.1, h3.2.2, ?_⟩
  have e0 := h0.1
  have e1 := h1.1
  have e2 := h2.1
  have e3 := h3.1
  unfold val4
  omega

/-- p less a number -/
def negW (a b c d : Int) : List Int × Int :=
  let r0 := subS 18446744073709551597 a 0
  let c0 := subB 18446744073709551597 a 0
  let r1 := subS 18446744073709551615 b c0
  let c1 := subB 18446744073709551615 b c0
  let r2 := subS 18446744073709551615 c c1
  let c2 := subB 18446744073709551615 c c1
  ([r0, r1, r2, subS 9223372036854775807 d c2], subB 9223372036854775807 d c2)

theorem negW_spec {a b c d : Int} (ha : W a) (hb : W b) (hc : W c) (hd : W d) : ∃ r0 r1 r2 r3 c3, negW a b c d = ([r0, r1, r2, r3], c3) ∧ W r0 ∧ W r1 ∧ W r2 ∧ W r3 ∧ B c3 ∧
    Ec.P - val4 a b c d = val4 r0 r1 r2 r3 - 115792089237316195423570985008687907853269984665640564039457584007913129639936 * c3 := by
  have h0 := subS_spec (W_lit (n := 18446744073709551597) (by decide) (by decide)) ha B0
  have h1 := subS_spec (W_lit (n := 18446744073709551615) (by decide) (by decide)) hb h0.2.2
  have h2 := subS_spec (W_lit (n := 18446744073709551615) (by decide) (by decide)) hc h1.2.2
  have h3 := subS_spec (W_lit (n := 9223372036854775807) (by decide) (by decide)) hd h2.2.2
  refine ⟨_, _, _, _, _, rfl, h0.2.1, h1.2.1, h2.2.1, h3.2.1, h3.2.2, ?_⟩
  have e0 := h0.1
  have e1 := h1.1
  have e2 := h2.1
  have e3 := h3.1
  rw [P_lit]
  unfold val4
  omega

/-- one product of two words, added to two others: the lower word and the upper one -/
def macL (x y w o : Int) : Int := addS (addS (mulL x y) w 0) o 0
def macH (x y w o : Int) : Int := wr (wr (mulH x y + addC (mulL x y) w 0) + addC (addS (mulL x y) w 0) o 0)

theorem mac_spec {x y w o : Int} (hx : W x) (hy : W y) (hw : W w) (ho : W o) : x * y + w + o = macL x y w o + 18446744073709551616 * macH x y w o ∧ W (macL x y w o) ∧ W (macH x y w o) := by
  have h0 := mulH_spec hx hy
  have h1 := addS_spec h0.2.1 hw B0
  have h2 := addS_spec h1.2.1 ho B0
  have p : x * y ≤ 18446744073709551615 * 18446744073709551615 := Int.mul_le_mul (by unfold W at hx; omega) (by unfold W at hy; omega) hy.1 (by omega)
  unfold macL macH
  have e0 := h0.1
  have e1 := h1.1
  have e2 := h2.1
  have b1 := h1.2.2
  have b2 := h2.2.2
  have w2 := h2.2.1
  have hh := h0.2.2
  generalize mulH x y = H at *
  generalize addC (mulL x y) w 0 = C at *
  generalize addC (addS (mulL x y) w 0) o 0 = D at *
  generalize addS (addS (mulL x y) w 0) o 0 = L at *
  generalize addS (mulL x y) w 0 = M at *
  generalize mulL x y = N at *
  generalize x * y = Q at *
  have w1 : W (H + C) := by unfold W B at *; omega
  rw [wr_id w1]
  have w3 : W (H + C + D) := by unfold W B at *; omega
  rw [wr_id w3]
  exact ⟨by omega, w2, w3⟩

/-- a row of products -/
def rowW (x : Int) (y0 y1 y2 y3 w0 w1 w2 w3 : Int) : List Int :=
  let o0 := macH x y0 w0 0
  let o1 := macH x y1 w1 o0
  let o2 := macH x y2 w2 o1
  [macL x y0 w0 0, macL x y1 w1 o0, macL x y2 w2 o1, macL x y3 w3 o2, macH x y3 w3 o2]

theorem W0 : W 0 := ⟨by decide, by decide⟩

theorem rowW_spec {x y0 y1 y2 y3 w0 w1 w2 w3 : Int} (hx : W x) (h0 : W y0) (h1 : W y1) (h2 : W y2) (h3 : W y3) (g0 : W w0) (g1 : W w1) (g2 : W w2) (g3 : W w3) :
    ∃ l0 l1 l2 l3 o, rowW x y0 y1 y2 y3 w0 w1 w2 w3 = [l0, l1, l2, l3, o] ∧ W l0 ∧ W l1 ∧ W l2 ∧ W l3 ∧ W o ∧
      x * val4 y0 y1 y2 y3 + val4 w0 w1 w2 w3 = val4 l0 l1 l2 l3 + 115792089237316195423570985008687907853269984665640564039457584007913129639936 * o := by
  have m0 := mac_spec hx h0 g0 W0
  have m1 := mac_spec hx h1 g1 m0.2.2
  have m2 := mac_spec hx h2 g2 m1.2.2
  have m3 := mac_spec hx h3 g3 m2.2.2
  refine ⟨_, _, _, _, _, rfl, m0.2.1, m1.2.1, m2.2.1, m3.2.1, m3.2.2, ?_⟩
  have e0 := m0.1
  have e1 := m1.1
  have e2 := m2.1
  have e3 := m3.1
  have : x * val4 y0 y1 y2 y3 = x * y0 + 18446744073709551616 * (x * y1) + 340282366920938463463374607431768211456 * (x * y2) + 6277101735386680763835789423207666416102355444464034512896 * (x * y3) := by unfold val4; grind
  rw [this]
  unfold val4
  omega

/-- eight words of a product -/
def mul8 (x0 x1 x2 x3 y0 y1 y2 y3 : Int) : List Int :=
  match rowW x0 y0 y1 y2 y3 0 0 0 0 with
  | [a0, a1, a2, a3, a4] => match rowW x1 y0 y1 y2 y3 a1 a2 a3 a4 with
    | [b0, b1, b2, b3, b4] => match rowW x2 y0 y1 y2 y3 b1 b2 b3 b4 with
      | [c0, c1, c2, c3, c4] => match rowW x3 y0 y1 y2 y3 c1 c2 c3 c4 with
        | [d0, d1, d2, d3, d4] => [a0, b0, c0, d0, d1, d2, d3, d4]
        | _ => []
      | _ => []
    | _ => []
  | _ => []

theorem mul8_spec {x0 x1 x2 x3 y0 y1 y2 y3 : Int} (hx : W x0 ∧ W x1 ∧ W x2 ∧ W x3) (hy : W y0 ∧ W y1 ∧ W y2 ∧ W y3) :
    ∃ l0 l1 l2 l3 h0 h1 h2 h3, mul8 x0 x1 x2 x3 y0 y1 y2 y3 = [l0, l1, l2, l3, h0, h1, h2, h3] ∧ (W l0 ∧ W l1 ∧ W l2 ∧ W l3) ∧ (W h0 ∧ W h1 ∧ W h2 ∧ W h3) ∧
      val4 x0 x1 x2 x3 * val4 y0 y1 y2 y3 = val4 l0 l1 l2 l3 + 115792089237316195423570985008687907853269984665640564039457584007913129639936 * val4 h0 h1 h2 h3 := by
  obtain ⟨hx0, hx1, hx2, hx3⟩ := hx
  obtain ⟨hy0, hy1, hy2, hy3⟩ := hy
  obtain ⟨a0, a1, a2, a3, a4, ea, p0, p1, p2, p3, p4, pe⟩ := rowW_spec hx0 hy0 hy1 hy2 hy3 W0 W0 W0 W0
  obtain ⟨b0, b1, b2, b3, b4, eb, q0, q1, q2, q3, q4, qe⟩ := rowW_spec hx1 hy0 hy1 hy2 hy3 p1 p2 p3 p4
  obtain ⟨c0, c1, c2, c3, c4, ec, r0, r1, r2, r3, r4, re⟩ := rowW_spec hx2 hy0 hy1 hy2 hy3 q1 q2 q3 q4
  obtain ⟨d0, d1, d2, d3, d4, ed, s0, s1, s2, s3, s4, se⟩ := rowW_spec hx3 hy0 hy1 hy2 hy3 r1 r2 r3 r4
  refine ⟨a0, b0, c0, d0, d1, d2, d3, d4, ?_, ⟨p0, q0, r0, s0⟩, ⟨s1, s2, s3, s4⟩, ?_⟩
  · unfold mul8
    simp only [ea, eb, ec, ed]
  · have : val4 x0 x1 x2 x3 * val4 y0 y1 y2 y3 = x0 * val4 y0 y1 y2 y3 + 18446744073709551616 * (x1 * val4 y0 y1 y2 y3) + 340282366920938463463374607431768211456 * (x2 * val4 y0 y1 y2 y3) + 6277101735386680763835789423207666416102355444464034512896 * (x3 * val4 y0 y1 y2 y3) := by
      generalize val4 y0 y1 y2 y3 = Y
      unfold val4; grind
    rw [this]
    generalize x0 * val4 y0 y1 y2 y3 = A at *
    generalize x1 * val4 y0 y1 y2 y3 = B at *
    generalize x2 * val4 y0 y1 y2 y3 = C at *
    generalize x3 * val4 y0 y1 y2 y3 = D at *
    unfold val4 at *
    omega

/-- a number of four words, and what stands above them, below 2^255 and a little more -/
def foldU (a b c d k : Int) : List Int :=
  let lo := mulL k 38
  let hi := mulH k 38
  let top := shrI d 63
  let d0 := andI d 9223372036854775807
  let s0 := addS a lo 0
  let c0 := addC a lo 0
  let s1 := addS b hi c0
  let c1 := addC b hi c0
  let s2 := addS c 0 c1
  let s3 := wr (d0 + addC c 0 c1)
  let t := wr (19 * top)
  (addW s0 s1 s2 s3 t 0 0 0).1

def foldV (a b c d : Int) : List Int :=
  (addW a b c (andI d 9223372036854775807) (wr (19 * shrI d 63)) 0 0 0).1

theorem shr63_W {d : Int} (h : W d) : B (shrI d 63) := by
  rw [shr63]; unfold W B at *; omega
theorem split63 {d : Int} (h : W d) : d = andI d 9223372036854775807 + 9223372036854775808 * shrI d 63 ∧ 0 ≤ andI d 9223372036854775807 ∧ andI d 9223372036854775807 < 9223372036854775808 := by
  rw [shr63, and63 h]; unfold W at *; omega

theorem foldV_spec {a b c d : Int} (ha : W a) (hb : W b) (hc : W c) (hd : W d) : ∃ r0 r1 r2 r3, foldV a b c d = [r0, r1, r2, r3] ∧ W r0 ∧ W r1 ∧ W r2 ∧ W r3 ∧
    val4 a b c d = val4 r0 r1 r2 r3 + Ec.P * shrI d 63 ∧ val4 r0 r1 r2 r3 ≤ 57896044618658097711785492504343953926634992332820282019728792003956564819986 := by
  obtain ⟨e, n0, n1⟩ := split63 hd
  have ht := shr63_W hd
  have w1 : W (andI d 9223372036854775807) := by unfold W; omega
  have w2 : W (wr (19 * shrI d 63)) := wr_W _
  have e2 : wr (19 * shrI d 63) = 19 * shrI d 63 := wr_id (by unfold W B at *; omega)
  obtain ⟨s0, s1, s2, s3, k, ek, p0, p1, p2, p3, pk, pe⟩ := addW_spec ha hb hc w1 w2 W0 W0 W0
  refine ⟨s0, s1, s2, s3, by unfold foldV; rw [ek], p0, p1, p2, p3, ?_⟩
  rw [e2] at pe
  rw [P_lit]
  have hv := val4_nn ha hb hc w1
  unfold val4 at *
  generalize shrI d 63 = t at *
  generalize andI d 9223372036854775807 = d0 at *
  unfold W B at *
  omega

theorem foldU_spec {a b c d k : Int} (ha : W a) (hb : W b) (hc : W c) (hd : W d) (hk : W k) : ∃ r0 r1 r2 r3, foldU a b c d k = [r0, r1, r2, r3] ∧ W r0 ∧ W r1 ∧ W r2 ∧ W r3 ∧
    val4 a b c d + 115792089237316195423570985008687907853269984665640564039457584007913129639936 * k = val4 r0 r1 r2 r3 + Ec.P * (shrI d 63 + 2 * k) := by
  obtain ⟨e, n0, n1⟩ := split63 hd
  have ht := shr63_W hd
  have m := mulH_spec hk (W_lit (n := 38) (by decide) (by decide))
  have mh : W (mulH k 38) := by unfold W; omega
  have h0 := addS_spec ha m.2.1 B0
  have h1 := addS_spec hb mh h0.2.2
  have h2 := addS_spec hc W0 h1.2.2
  have w3 : W (andI d 9223372036854775807 + addC c 0 (addC b (mulH k 38) (addC a (mulL k 38) 0))) := by
    have := h2.2.2
    unfold W B at *
    omega
  have e3 := wr_id w3
  have w2 : W (wr (19 * shrI d 63)) := wr_W _
  have e2 : wr (19 * shrI d 63) = 19 * shrI d 63 := wr_id (by unfold W B at *; omega)
  obtain ⟨s0, s1, s2, s3, q, ek, p0, p1, p2, p3, pk, pe⟩ := addW_spec h0.2.1 h1.2.1 h2.2.1 (wr_W _) w2 W0 W0 W0
  refine ⟨s0, s1, s2, s3, by unfold foldU; simp only []; rw [ek], p0, p1, p2, p3, ?_⟩
  rw [e2, e3] at pe
  rw [P_lit]
  have a0 := h0.1
  have a1 := h1.1
  have a2 := h2.1
  have b0 := h0.2.1
  have b1 := h1.2.1
  have b2 := h2.2.1
  have b3 := h2.2.2
  have m1 := m.1
  unfold val4 at *
  generalize shrI d 63 = t at *
  generalize andI d 9223372036854775807 = d0 at *
  generalize addC c 0 (addC b (mulH k 38) (addC a (mulL k 38) 0)) = z2 at *
  generalize addS c 0 (addC b (mulH k 38) (addC a (mulL k 38) 0)) = y2 at *
  generalize addC b (mulH k 38) (addC a (mulL k 38) 0) = z1 at *
  generalize addS b (mulH k 38) (addC a (mulL k 38) 0) = y1 at *
  generalize addC a (mulL k 38) 0 = z0 at *
  generalize addS a (mulL k 38) 0 = y0 at *
  generalize mulH k 38 = mh' at *
  generalize mulL k 38 = ml' at *
  unfold W B at *
  omega

/-- four words below 2^255 and a little more, of a number modulo p -/
theorem fold_mod {N V : Int} {q : Int} (h : N = V + Ec.P * q) (hN : 0 ≤ N) (hV : 0 ≤ V) (hq : 0 ≤ q) : N.toNat % Ec.P = V.toNat % Ec.P := by
  have h1 : N.toNat = V.toNat + Ec.P * q.toNat := by
    have e1 : ((Ec.P * q.toNat : Nat) : Int) = Ec.P * q := by rw [Int.natCast_mul, Int.toNat_of_nonneg hq]
    omega
  rw [h1, Nat.add_mul_mod_self_left]

/-- the upper half, 38 times, and the lower one -/
def redW (l0 l1 l2 l3 h0 h1 h2 h3 : Int) : List Int :=
  let o0 := macH h0 38 l0 0
  let o1 := macH h1 38 l1 o0
  let o2 := macH h2 38 l2 o1
  [macL h0 38 l0 0, macL h1 38 l1 o0, macL h2 38 l2 o1, macL h3 38 l3 o2, macH h3 38 l3 o2]

theorem redW_spec {l0 l1 l2 l3 h0 h1 h2 h3 : Int} (hl : W l0 ∧ W l1 ∧ W l2 ∧ W l3) (hh : W h0 ∧ W h1 ∧ W h2 ∧ W h3) : ∃ r0 r1 r2 r3 o, redW l0 l1 l2 l3 h0 h1 h2 h3 = [r0, r1, r2, r3, o] ∧ (W r0 ∧ W r1 ∧ W r2 ∧ W r3 ∧ W o) ∧
    val4 l0 l1 l2 l3 + 38 * val4 h0 h1 h2 h3 = val4 r0 r1 r2 r3 + 115792089237316195423570985008687907853269984665640564039457584007913129639936 * o := by
  obtain ⟨hl0, hl1, hl2, hl3⟩ := hl
  obtain ⟨hh0, hh1, hh2, hh3⟩ := hh
  have w38 : W 38 := W_lit (by decide) (by decide)
  have m0 := mac_spec hh0 w38 hl0 W0
  have m1 := mac_spec hh1 w38 hl1 m0.2.2
  have m2 := mac_spec hh2 w38 hl2 m1.2.2
  have m3 := mac_spec hh3 w38 hl3 m2.2.2
  refine ⟨_, _, _, _, _, rfl, ⟨m0.2.1, m1.2.1, m2.2.1, m3.2.1, m3.2.2⟩, ?_⟩
  have e0 := m0.1
  have e1 := m1.1
  have e2 := m2.1
  have e3 := m3.1
  unfold val4
  omega

end Fw

/- A program's operations carried out on values written out: numbers as arguments and results; how a function's reckoning becomes what is known of it. -/
namespace Eng
open Go Go.RowKit

def u64 (n : Int) : PV := .one (.val (.int .u64 n))
def bo (b : Bool) : PV := .one (.val (.bool b))
def iv (n : Int) : PV := .one (.val (.int .i64 n))

def PV.ints? (k : IntKind) : PV → Option (List Int)
  | .agg cs => decInts k cs
  | .one _ => none

def intsV (k : IntKind) (l : List Int) : Value := .agg (l.map (Value.int k)).toArray
def intsC (k : IntKind) (l : List Int) : List Cell := l.map fun n => .val (.int k n)

theorem PV.ints?_spec {ρ : Env} {k : IntKind} {p : PV} {l : List Int} {v : Value} (h : p.ints? k = some l) (e : denP ρ p = some v) : v = intsV k l := by
  cases p with
  | one c => cases h
  | agg cs =>
    simp only [PV.ints?] at h
    simp only [denP, decInts_spec (ρ := ρ) h] at e
    exact (Option.some.inj e).symm

theorem intsC_val (k : IntKind) : ∀ l : List Int, cellVals (intsC k l) = some (l.map (Value.int k))
  | [] => rfl
  | n :: l => by
    have h := intsC_val k l
    simp only [intsC] at h
    simp [intsC, cellVals, cellVal, h]

theorem intsP_val (k : IntKind) (l : List Int) : (PV.agg (intsC k l)).val? = some (intsV k l) := by
  simp [PV.val?, intsC_val, intsV]

theorem intsS_val (k : IntKind) (l : List Int) : (SV.pv (.agg (intsC k l))).val? = some (intsV k l) := intsP_val k l

def PV.int? : PV → Option (IntKind × Int)
  | .one c => c.int?
  | .agg _ => none

theorem PV.int?_spec {ρ : Env} {k : IntKind} {p : PV} {n : Int} {v : Value} (h : p.int? = some (k, n)) (e : denP ρ p = some v) : v = .int k n := by
  cases p with
  | agg cs => cases h
  | one c =>
    have h1 := Cell.int?_spec (ρ := ρ) (c := c) h
    have h2 := denP_one e
    rw [h1] at h2
    cases h2
    rfl

def PV.bool? : PV → Option Bool
  | .one (.val (.bool b)) => some b
  | _ => none

theorem PV.bool?_spec {ρ : Env} {p : PV} {b : Bool} {v : Value} (h : p.bool? = some b) (e : denP ρ p = some v) : v = .bool b :=
  SV.bool?_spec (ρ := ρ) (s := .pv p) (by
    cases p with
    | agg cs => cases h
    | one c =>
      cases c with
      | val u => cases u <;> simp only [PV.bool?] at h <;> first | (cases h; done) | exact h
      | _ => cases h) e

/-- a number modulo the prime, in words; in digits of 16 bits; a number's bytes -/
def feP (x : Fin Ec.P) : PV := .agg [.fe x]
def feV (x : Fin Ec.P) : Value := intsV .u64 (digI 64 x.val 4)
theorem feP_val (x : Fin Ec.P) : (feP x).val? = some (feV x) := rfl
def nmP (x : Fin Ec.P) : PV := .agg [.nm x]
def nmV (x : Fin Ec.P) : Value := intsV .u64 (digI 16 x.val 16)
theorem nmP_val (x : Fin Ec.P) : (nmP x).val? = some (nmV x) := rfl
def keyP (x : Nat) : PV := .agg [.dig .u8 8 x 32]
def keyV (x : Nat) : Value := intsV .u8 (digI 8 x 32)
theorem keyP_val (x : Nat) : (keyP x).val? = some (keyV x) := rfl

def toF (n : Nat) : Fin Ec.P := ⟨n % Ec.P, Nat.mod_lt _ (by decide)⟩

def W4 (a b c d : Int) : Prop := Fw.W a ∧ Fw.W b ∧ Fw.W c ∧ Fw.W d

def decE (p : PV) : Option (Fin Ec.P × List Prop) :=
  match p with
  | .agg [.fe x] => some (x, [])
  | p => match p.ints? .u64 with
    | some [a, b, c, d] => some (toF (Fw.val4 a b c d).toNat, [W4 a b c d ∧ Fw.val4 a b c d < Ec.P])
    | _ => none

theorem feL_of {a b c d : Int} (h : W4 a b c d) (hp : Fw.val4 a b c d < Ec.P) : digI 64 (toF (Fw.val4 a b c d).toNat).val 4 = [a, b, c, d] := by
  obtain ⟨ha, hb, hc, hd⟩ := h
  have h0 : 0 ≤ Fw.val4 a b c d := by unfold Fw.W Fw.val4 at *; omega
  have hn : (Fw.val4 a b c d).toNat < Ec.P := by omega
  have hx : ((Fw.val4 a b c d).toNat : Int) = Fw.val4 a b c d := Int.toNat_of_nonneg h0
  obtain ⟨e0, e1, e2, e3⟩ := Fw.dg_words ha hb hc hd hx
  unfold digI toF
  simp only [Nat.mod_eq_of_lt hn]
  show [dg 64 _ 0, dg 64 _ 1, dg 64 _ 2, dg 64 _ 3] = _
  rw [e0, e1, e2, e3]

theorem decE_spec {ρ : Env} {p : PV} {x : Fin Ec.P} {pre : List Prop} {v : Value} (h : decE p = some (x, pre)) (hp : AllP pre) (e : denP ρ p = some v) : v = feV x := by
  unfold decE at h
  split at h
  · rename_i y
    cases h
    have := PV.val?_den (ρ := ρ) (feP_val x)
    unfold feP at this
    rw [this] at e
    exact (Option.some.inj e).symm
  · split at h
    · rename_i a b c d h1
      cases h
      obtain ⟨⟨hw, hlt⟩, _⟩ := hp
      have := PV.ints?_spec h1 e
      rw [this]
      unfold feV
      rw [feL_of hw hlt]
    · cases h

/-- what a function comes to, as what is known of it -/
theorem specOK_of {P : Program} {f : FuncId} {fn : Func} (hf : P.funcs[f]? = some fn) (hname : (fn.name == "runtime.NumGoroutine") = false) (hbody : fn.body.isSome = true) {g : FnSpec}
    (h : ∀ ps sv pre, g ps = some (sv, pre) → AllP pre → ∀ ρ vals, denPs ρ ps = some vals → ∃ v, sv.val? = some v ∧ ∀ w, Calls P f vals.toArray w fun e w' => e = .returned v ∧ Below w.heap.size w w') : SpecOK P f g := by
  intro ps sv pre hg hp ρ vals hd w
  obtain ⟨v, hv, hc⟩ := h ps sv pre hg hp ρ vals hd
  refine ⟨v, ?_, .inr ⟨?_, hc w⟩⟩
  · cases sv with
    | any => cases hv
    | pv p => exact PV.val?_den hv
    | tup qs =>
      simp only [SV.val?] at hv
      cases h1 : pvVals qs with
      | none => simp [h1] at hv
      | some l => simp only [h1] at hv; cases hv; exact ⟨l, pvVals_spec h1, rfl⟩
  · have hn : (fn.name == "runtime.NumGoroutine") = false := hname
    have hb : fn.body.isNone = false := by cases hx : fn.body <;> simp_all
    simp only [callFunc, Sem.run_bind, run_program, Result.andThen_ok, hf, hn, Bool.false_eq_true, if_false, hb, Sem.run_pure]

/-- the table by its rows -/
def lookP : List (FuncId × FnSpec) → FuncId → Option FnSpec
  | [], _ => none
  | (g, s) :: L, f => cond (Nat.beq g f) (some s) (lookP L f)
def lookT (L : List (FuncId × FnSpec)) : Table := ⟨lookP L, fun _ => none, fun _ => none⟩
def lookG : List (FuncId × SlSpec) → FuncId → Option SlSpec
  | [], _ => none
  | (g, s) :: L, f => cond (Nat.beq g f) (some s) (lookG L f)
/-- with functions that take or give slices -/
def lookS (S : List (FuncId × SlSpec)) (L : List (FuncId × FnSpec)) : Table := ⟨lookP L, lookG S, fun _ => none⟩

theorem tableOK_nil (P : Program) : TableOK P (lookT []) := ⟨(fun _ _ h => nomatch h), (fun _ _ h => nomatch h), fun _ _ h => nomatch h⟩
theorem tableS_nil {P : Program} {L : List (FuncId × FnSpec)} (h : TableOK P (lookT L)) : TableOK P (lookS [] L) := ⟨h.fn, (fun _ _ h => nomatch h), fun _ _ h => nomatch h⟩
theorem tableS_cons {P : Program} {f : FuncId} {s : SlSpec} {S : List (FuncId × SlSpec)} {L : List (FuncId × FnSpec)} (h : SlOK P f s) (hL : TableOK P (lookS S L)) : TableOK P (lookS ((f, s) :: S) L) := by
  refine ⟨hL.fn, fun f' g e => ?_, hL.g⟩
  simp only [lookS, lookG] at e
  by_cases hb : Nat.beq f f' = true
  · rw [hb] at e
    have := Nat.eq_of_beq_eq_true hb
    subst this
    cases e
    exact h
  · rw [Bool.eq_false_iff.2 hb] at e
    exact hL.sl f' g e
theorem tableS_plain {P : Program} {f : FuncId} {s : FnSpec} {S : List (FuncId × SlSpec)} {L : List (FuncId × FnSpec)} (h : SpecOK P f s) (hL : TableOK P (lookS S L)) : TableOK P (lookS S ((f, s) :: L)) := by
  refine ⟨fun f' g e => ?_, hL.sl, hL.g⟩
  simp only [lookS, lookP] at e
  by_cases hb : Nat.beq f f' = true
  · rw [hb] at e
    have := Nat.eq_of_beq_eq_true hb
    subst this
    cases e
    exact h
  · rw [Bool.eq_false_iff.2 hb] at e
    exact hL.fn f' g e

theorem tableOK_cons {P : Program} {f : FuncId} {s : FnSpec} {L : List (FuncId × FnSpec)} (h : SpecOK P f s) (hL : TableOK P (lookT L)) : TableOK P (lookT ((f, s) :: L)) := by
  refine ⟨fun f' g e => ?_, (fun f' g e => by cases e), fun f' g e => by cases e⟩
  simp only [lookT, lookP] at e
  by_cases hb : Nat.beq f f' = true
  · rw [hb] at e
    have := Nat.eq_of_beq_eq_true hb
    subst this
    cases e
    exact h
  · rw [Bool.eq_false_iff.2 hb] at e
    exact hL.fn f' g e

end Eng

/- A program's operations carried out on values written out: functions of one, two and three arguments of known kinds. -/
namespace Eng
open Go Go.RowKit

/-- a kind of argument: how it is read, and how it is written -/
structure Dec (α : Type) where
  dec : PV → Option (α × List Prop)
  can : α → PV
  law : ∀ {p : PV} {x : α} {pre : List Prop} {ρ : Env} {v : Value}, dec p = some (x, pre) → AllP pre → denP ρ p = some v → (can x).val? = some v

def dE : Dec (Fin Ec.P) where
  dec := decE
  can := feP
  law := fun h hp e => by have := decE_spec h hp e; subst this; exact feP_val _

def dI (k : IntKind) : Dec Int where
  dec := fun p => match p.int? with
    | some (k', n) => cond (ikEq k' k) (some (n, [])) none
    | none => none
  can := fun n => .one (.val (.int k n))
  law := by
    intro p x pre ρ v h _ e
    cases h1 : p.int? with
    | none => simp [h1] at h
    | some kn =>
      obtain ⟨k', n⟩ := kn
      simp only [h1] at h
      by_cases hk : k' = k
      · subst hk
        simp only [ikEq, decide_true, cond_true] at h
        cases h
        rw [PV.int?_spec h1 e]
        rfl
      · simp [ikEq, hk] at h

def dL (k : IntKind) : Dec (List Int) where
  dec := fun p => (p.ints? k).map (·, [])
  can := fun l => .agg (intsC k l)
  law := by
    intro p x pre ρ v h _ e
    cases h1 : p.ints? k with
    | none => simp [h1] at h
    | some l =>
      simp only [h1, Option.map_some] at h
      cases h
      rw [PV.ints?_spec h1 e]
      exact intsP_val k _

def dB : Dec Bool where
  dec := fun p => p.bool?.map (·, [])
  can := fun b => .one (.val (.bool b))
  law := by
    intro p x pre ρ v h _ e
    cases h1 : p.bool? with
    | none => simp [h1] at h
    | some b =>
      simp only [h1, Option.map_some] at h
      cases h
      rw [PV.bool?_spec h1 e]
      rfl

def spec1 {α : Type} (A : Dec α) (res : α → SV × List Prop) : FnSpec
  | [p] => match A.dec p with
    | some (x, pre) => some ((res x).1, (res x).2 ++ pre)
    | none => none
  | _ => none

def spec2 {α β : Type} (A : Dec α) (B : Dec β) (res : α → β → SV × List Prop) : FnSpec
  | [p, q] => match A.dec p, B.dec q with
    | some (x, pre), some (y, pre') => some ((res x y).1, (res x y).2 ++ (pre ++ pre'))
    | _, _ => none
  | _ => none

def spec3 {α β γ : Type} (A : Dec α) (B : Dec β) (C : Dec γ) (res : α → β → γ → SV × List Prop) : FnSpec
  | [p, q, r] => match A.dec p, B.dec q, C.dec r with
    | some (x, pre), some (y, pre'), some (z, pre'') => some ((res x y z).1, (res x y z).2 ++ (pre ++ (pre' ++ pre'')))
    | _, _, _ => none
  | _ => none

theorem denPs_cons {ρ : Env} {p : PV} {ps : List PV} {l : List Value} (h : denPs ρ (p :: ps) = some l) : ∃ v vs, denP ρ p = some v ∧ denPs ρ ps = some vs ∧ l = v :: vs := by
  simp only [denPs] at h
  cases h1 : denP ρ p with
  | none => simp [h1] at h
  | some v =>
    cases h2 : denPs ρ ps with
    | none => simp [h1, h2] at h
    | some vs => simp only [h1, h2] at h; cases h; exact ⟨v, vs, rfl, rfl, rfl⟩
theorem denPs_nil {ρ : Env} {l : List Value} (h : denPs ρ [] = some l) : l = [] := by simp only [denPs] at h; cases h; rfl

/-- what is asked of a function's reckoning: the value, and that what it leans on holds -/
def Meets (x : Option (SV × List Prop)) (sv : SV) : Prop := ∃ sv' ob v, x = some (sv', ob) ∧ AllP ob ∧ sv'.val? = some v ∧ sv.val? = some v

theorem Meets.of {x : Option (SV × List Prop)} {sv : SV} {ob : List Prop} {v : Value} (h : x = some (sv, ob)) (ho : AllP ob) (hv : sv.val? = some v) : Meets x sv := ⟨sv, ob, v, h, ho, hv, hv⟩

section
variable {P : Program} {f : FuncId} {fn : Func} (hf : P.funcs[f]? = some fn) (hname : (fn.name == "runtime.NumGoroutine") = false) (hbody : fn.body.isSome = true)
include hf hname hbody

theorem spec1_calls {α : Type} {A : Dec α} {res : α → SV × List Prop} (h : ∀ x, AllP (res x).2 → ∀ va, (A.can x).val? = some va → ∃ v, (res x).1.val? = some v ∧ ∀ w, Calls P f #[va] w fun e w' => e = .returned v ∧ Below w.heap.size w w') : SpecOK P f (spec1 A res) := by
  refine specOK_of hf hname hbody ?_
  intro ps sv pre hg hp ρ vals hd
  unfold spec1 at hg
  split at hg
  · rename_i p
    cases h1 : A.dec p with
    | none => simp [h1] at hg
    | some xp =>
      obtain ⟨x, pre1⟩ := xp
      simp only [h1] at hg
      cases hg
      obtain ⟨hp1, hp2⟩ := AllP_append hp
      obtain ⟨v1, l1, d1, d1', rfl⟩ := denPs_cons hd
      have := denPs_nil d1'
      subst this
      obtain ⟨v, a, b⟩ := h x hp1 v1 (A.law h1 hp2 d1)
      exact ⟨v, a, b⟩
  · cases hg

theorem spec2_calls {α β : Type} {A : Dec α} {B : Dec β} {res : α → β → SV × List Prop}
    (h : ∀ x y, AllP (res x y).2 → ∀ va vb, (A.can x).val? = some va → (B.can y).val? = some vb → ∃ v, (res x y).1.val? = some v ∧ ∀ w, Calls P f #[va, vb] w fun e w' => e = .returned v ∧ Below w.heap.size w w') : SpecOK P f (spec2 A B res) := by
  refine specOK_of hf hname hbody ?_
  intro ps sv pre hg hp ρ vals hd
  unfold spec2 at hg
  split at hg
  · rename_i p q
    cases h1 : A.dec p with
    | none => simp [h1] at hg
    | some xp =>
      obtain ⟨x, pre1⟩ := xp
      cases h2 : B.dec q with
      | none => simp [h1, h2] at hg
      | some yq =>
        obtain ⟨y, pre2⟩ := yq
        simp only [h1, h2] at hg
        cases hg
        obtain ⟨hp1, hp'⟩ := AllP_append hp
        obtain ⟨hp2, hp3⟩ := AllP_append hp'
        obtain ⟨v1, l1, d1, d1', rfl⟩ := denPs_cons hd
        obtain ⟨v2, l2, d2, d2', rfl⟩ := denPs_cons d1'
        have := denPs_nil d2'
        subst this
        obtain ⟨v, a, b⟩ := h x y hp1 v1 v2 (A.law h1 hp2 d1) (B.law h2 hp3 d2)
        exact ⟨v, a, b⟩
  · cases hg

theorem spec3_calls {α β γ : Type} {A : Dec α} {B : Dec β} {C : Dec γ} {res : α → β → γ → SV × List Prop}
    (h : ∀ x y z, AllP (res x y z).2 → ∀ va vb vc, (A.can x).val? = some va → (B.can y).val? = some vb → (C.can z).val? = some vc → ∃ v, (res x y z).1.val? = some v ∧ ∀ w, Calls P f #[va, vb, vc] w fun e w' => e = .returned v ∧ Below w.heap.size w w') : SpecOK P f (spec3 A B C res) := by
  refine specOK_of hf hname hbody ?_
  intro ps sv pre hg hp ρ vals hd
  unfold spec3 at hg
  split at hg
  · rename_i p q r
    cases h1 : A.dec p with
    | none => simp [h1] at hg
    | some xp =>
      obtain ⟨x, pre1⟩ := xp
      cases h2 : B.dec q with
      | none => simp [h1, h2] at hg
      | some yq =>
        obtain ⟨y, pre2⟩ := yq
        cases h3 : C.dec r with
        | none => simp [h1, h2, h3] at hg
        | some zr =>
          obtain ⟨z, pre3⟩ := zr
          simp only [h1, h2, h3] at hg
          cases hg
          obtain ⟨hp1, hp'⟩ := AllP_append hp
          obtain ⟨hp2, hp''⟩ := AllP_append hp'
          obtain ⟨hp3, hp4⟩ := AllP_append hp''
          obtain ⟨v1, l1, d1, d1', rfl⟩ := denPs_cons hd
          obtain ⟨v2, l2, d2, d2', rfl⟩ := denPs_cons d1'
          obtain ⟨v3, l3, d3, d3', rfl⟩ := denPs_cons d2'
          have := denPs_nil d3'
          subst this
          obtain ⟨v, a, b⟩ := h x y z hp1 v1 v2 v3 (A.law h1 hp2 d1) (B.law h2 hp3 d2) (C.law h3 hp4 d3)
          exact ⟨v, a, b⟩
  · cases hg

variable {T : Table} (hT : TableOK P T) (hm : P.follows .mixedOrders = true)
include hT hm

theorem spec1_ok {α : Type} {A : Dec α} {res : α → SV × List Prop} {n : Nat} (hn : Nat.ble 1 fn.ntmps = true) (h : ∀ x, AllP (res x).2 → Meets (callX P T n fn [A.can x]) (res x).1) : SpecOK P f (spec1 A res) := by
  refine spec1_calls hf hname hbody fun x hx va ha => ?_
  obtain ⟨sv', ob, v, h1, h2, h3, h4⟩ := h x hx
  exact ⟨v, h4, fun w => calls_of_exec hT hm hf (ps := [A.can x]) (vals := [va]) (by simp only [pvVals, ha]) hn h1 h2 h3 w⟩

theorem spec2_ok {α β : Type} {A : Dec α} {B : Dec β} {res : α → β → SV × List Prop} {n : Nat} (hn : Nat.ble 2 fn.ntmps = true) (h : ∀ x y, AllP (res x y).2 → Meets (callX P T n fn [A.can x, B.can y]) (res x y).1) : SpecOK P f (spec2 A B res) := by
  refine spec2_calls hf hname hbody fun x y hx va vb ha hb => ?_
  obtain ⟨sv', ob, v, h1, h2, h3, h4⟩ := h x y hx
  exact ⟨v, h4, fun w => calls_of_exec hT hm hf (ps := [A.can x, B.can y]) (vals := [va, vb]) (by simp only [pvVals, ha, hb]) hn h1 h2 h3 w⟩

theorem spec3_ok {α β γ : Type} {A : Dec α} {B : Dec β} {C : Dec γ} {res : α → β → γ → SV × List Prop} {n : Nat} (hn : Nat.ble 3 fn.ntmps = true) (h : ∀ x y z, AllP (res x y z).2 → Meets (callX P T n fn [A.can x, B.can y, C.can z]) (res x y z).1) : SpecOK P f (spec3 A B C res) := by
  refine spec3_calls hf hname hbody fun x y z hx va vb vc ha hb hc => ?_
  obtain ⟨sv', ob, v, h1, h2, h3, h4⟩ := h x y z hx
  exact ⟨v, h4, fun w => calls_of_exec hT hm hf (ps := [A.can x, B.can y, C.can z]) (vals := [va, vb, vc]) (by simp only [pvVals, ha, hb, hc]) hn h1 h2 h3 w⟩

theorem spec0_ok {res : SV} {n : Nat} (h : Meets (callX P T n fn []) res) : SpecOK P f (fun ps => match ps with
    | [] => some (res, [])
    | _ => none) := by
  refine specOK_of hf hname hbody ?_
  intro ps s pre hg hp ρ vals hd
  split at hg
  · cases hg
    have := denPs_nil hd
    subst this
    obtain ⟨sv', ob, v, h1, h2, h3, h4⟩ := h
    exact ⟨v, h4, fun w => calls_of_exec hT hm hf rfl rfl h1 h2 h3 w⟩
  · cases hg
end

end Eng

/- A program's operations carried out on values written out: functions with a loop that is gone through by what holds at each round's head. -/
namespace Eng
open Go Go.RowKit

def memN (i : Nat) : List Nat → Bool
  | [] => false
  | j :: l => Nat.beq i j || memN i l

/-- only some slots are still of use -/
def wkT (keep : List Nat) : Nat → List SV → List SV
  | _, [] => []
  | i, s :: l => cond (memN i keep) s .any :: wkT keep (i + 1) l

theorem wkT_get {keep : List Nat} : ∀ {l : List SV} {i t : Nat} {s : SV}, getL (wkT keep i l) t = some s → s = .any ∨ getL l t = some s
  | [], i, t, s, h => by simp [wkT, getL] at h
  | x :: l, i, 0, s, h => by
    simp only [wkT, getL, Option.some.injEq] at h
    cases hm : memN i keep with
    | true => rw [hm] at h; exact .inr (by simp only [getL]; rw [← h]; rfl)
    | false => rw [hm] at h; exact .inl h.symm
  | x :: l, i, t + 1, s, h => by
    simp only [wkT, getL] at h
    simpa only [getL] using wkT_get h

theorem wkT_length {keep : List Nat} : ∀ {l : List SV} {i : Nat}, (wkT keep i l).length = l.length
  | [], _ => rfl
  | _ :: l, i => by simp [wkT, wkT_length]

theorem Rel.wk {w0 : World} {fb : Gh} {ρ : Env} {tm : List SV} {h : Heap} {a : Act} {w : World} (r : Rel w0 fb ρ tm h a w) (keep : List Nat) : Rel w0 fb ρ (wkT keep 0 tm) h a w where
  tmps := fun t s e => by
    rcases wkT_get e with rfl | e
    · trivial
    · exact r.tmps t s e
  len := by rw [wkT_length]; exact r.len
  defers := r.defers
  toHRel := r.toHRel

inductive Stop where
  | at (k : List It) (st : St)
  | out (sv : SV)

def leafL (P : Program) (fn : Func) (keep : List Nat) : Out → List Prop → Option (Stop × List Prop)
  | .stop k st, ob => some (.at k ⟨wkT keep 0 st.tmps, st.heap⟩, ob)
  | .fall st, ob => match leafV P fn (.fall st) ob with
    | some (sv, ob) => some (.out sv, ob)
    | none => none
  | .ret st, ob => match leafV P fn (.ret st) ob with
    | some (sv, ob) => some (.out sv, ob)
    | none => none
  | .ex _ _, _ => none

def runL (P : Program) (T : Table) (fn : Func) (keep : List Nat) (n : Nat) (k : List It) (st : St) : Option (Stop × List Prop) :=
  exec P T (fun _ => false) (leafL P fn keep) n k st []

/-- the round's head, of a function's first loop -/
def head1 (P : Program) (T : Table) (fn : Func) (ps : List PV) : Option (Code × List It) :=
  match fn.body with
  | some c => match runL P T fn [] 1000 [.code c] (start fn.ntmps ps) with
    | some (.at (.code (.loop b) :: k) _, _) => some (b, k)
    | _ => none
  | none => none

section
variable {P : Program} {T : Table} (hT : TableOK P T) (hm : P.follows .mixedOrders = true) {f : FuncId} {fn : Func} (hf : P.funcs[f]? = some fn)
include hT hm hf

omit hf in
theorem runL_sound {keep : List Nat} {n : Nat} {k : List It} {st : St} {r : Stop} {ob : List Prop} {v : Value} {w0 : World} (h : runL P T fn keep n k st = some (r, ob)) (hob : AllP ob)
    (hr : match r with
      | .at k' st' => ∀ ρ a w, Rel w0 Gh.no ρ st'.tmps st'.heap a w → cont P (bodyPost P fn fun e w' => e = .returned v ∧ Below w0.heap.size w0 w') k' .normal a w
      | .out sv => sv.val? = some v) :
    ∀ (ρ : Env) (a : Act) (w : World), Rel w0 Gh.no ρ st.tmps st.heap a w → cont P (bodyPost P fn fun e w' => e = .returned v ∧ Below w0.heap.size w0 w') k .normal a w := by
  refine (exec_sound (w0 := w0) (fb := Gh.no) hT hm (Q := bodyPost P fn fun e w' => e = .returned v ∧ Below w0.heap.size w0 w') ?_ n k st [] h).2
  intro out ob' hl
  have fin : ∀ st, (match leafV P fn (.fall st) ob' with
    | some (sv, ob) => some (Stop.out sv, ob)
    | none => none) = some (r, ob) → ob' = ob ∧ ∀ ρ a w', Rel w0 Gh.no ρ st.tmps st.heap a w' → a.defers = [] ∧ ∃ u, (results fn a.tmps).run P w' = .ok u w' ∧ (Ending.returned u = .returned v ∧ Below w0.heap.size w0 w') := by
    intro st hst
    simp only [leafV, outSt] at hst
    cases h2 : resPs P st fn.results.toList with
    | none => simp [h2] at hst
    | some qs =>
      simp only [h2] at hst
      cases hst
      refine ⟨rfl, fun ρ a w' hr' => ⟨hr'.defers, ?_⟩⟩
      obtain ⟨u, u1, u2⟩ := run_results hr' h2
      have := SV.val?_spec hr u1
      subst this
      refine ⟨u, u2, rfl, ?_⟩
      have k := hr'.keep
      exact ⟨k.os, k.tape, k.output, k.size, fun j hj => k.block j hj id⟩
  cases out with
  | fall st => exact ⟨(fin st hl).1 ▸ hob, fun ρ a w' hr => (fin st hl).2 ρ a w' hr⟩
  | ret st => exact ⟨(fin st hl).1 ▸ hob, fun ρ a w' hr => (fin st hl).2 ρ a w' hr⟩
  | ex id st => simp [leafL] at hl
  | stop k' st' =>
    simp only [leafL] at hl
    cases hl
    exact ⟨hob, fun ρ a w' hr' => hr ρ a w' (hr'.wk keep)⟩

/-- A FUNCTION WITH A LOOP -/
theorem loop_calls {c b : Code} {k : List It} {keep : List Nat} {N n m : Nat} {ps : List PV} {vals : List Value} {σ : Type} {v : Value} (S : Nat → σ → St) (I : Nat → σ → Prop) (hb : fn.body = some c)
    (hps : pvVals ps = some vals) (hn : Nat.ble ps.length fn.ntmps = true)
    (pre : ∃ ob s0, runL P T fn keep n [.code c] (start fn.ntmps ps) = some (.at (.code (.loop b) :: k) (S 0 s0), ob) ∧ AllP ob ∧ I 0 s0)
    (round : ∀ i s, i ≤ N → I i s → ∃ ob r, runL P T fn keep m (.code b :: .lp b :: k) (S i s) = some (r, ob) ∧ AllP ob ∧
      match r with
      | .at k' st' => k' = .lp b :: k ∧ i < N ∧ ∃ s', st' = S (i + 1) s' ∧ I (i + 1) s'
      | .out sv => sv.val? = some v) (w : World) :
    Calls P f vals.toArray w fun e w' => e = .returned v ∧ Below w.heap.size w w' := by
  refine calls_of_wp hf hb ?_
  have loop : ∀ d i s, N - i = d → i ≤ N → I i s → ∀ ρ a w', Rel w Gh.no ρ (S i s).tmps (S i s).heap a w' → LoopW P b (cont P (bodyPost P fn fun e w' => e = .returned v ∧ Below w.heap.size w w') k) a w' := by
    intro d
    induction d with
    | zero =>
      intro i s hd hi hI ρ a w' hr
      obtain ⟨ob, r, h1, h2, h3⟩ := round i s hi hI
      refine loopW_round (runL_sound (v := v) hT hm h1 h2 ?_ ρ a w' hr)
      cases r with
      | «at» k' st' => obtain ⟨_, hlt, _⟩ := h3; omega
      | out sv => exact h3
    | succ d ih =>
      intro i s hd hi hI ρ a w' hr
      obtain ⟨ob, r, h1, h2, h3⟩ := round i s hi hI
      refine loopW_round (runL_sound (v := v) hT hm h1 h2 ?_ ρ a w' hr)
      cases r with
      | «at» k' st' =>
        obtain ⟨rfl, hlt, s', rfl, hI'⟩ := h3
        exact fun ρ a w hr => ih (i + 1) s' (by omega) (by omega) hI' ρ a w hr
      | out sv => exact h3
  obtain ⟨ob, s0, h1, h2, h3⟩ := pre
  have hw := runL_sound (v := v) (w0 := w) hT hm h1 h2 (fun ρ a w' hr => wp_of_loopW (loop N 0 s0 (by omega) (by omega) h3 ρ a w' hr))
  exact wp_mono (hw _ _ w (start_rel rfl hps (Nat.le_of_ble_eq_true hn) _ (fun _ => rfl) w)) fun e a w' hq => by cases e <;> exact hq
end

def bodyOf (fn : Func) : Code := match fn.body with
  | some c => c
  | none => .skip

/-- a text's first loop, and what comes behind it -/
def nav : Nat → Code → List It → Option (Code × List It)
  | 0, _, _ => none
  | _ + 1, .loop b, k => some (b, k)
  | n + 1, .seq a b, k => match nav n a (.code b :: k) with
    | some r => some r
    | none => nav n b k
  | n + 1, .block id b, k => nav n b (.blk id :: k)
  | _, _, _ => none

def hd (fn : Func) : Code × List It := match nav 100 (bodyOf fn) [] with
  | some r => r
  | none => (.skip, [])

/-- where a function comes to its first loop -/
def first (P : Program) (T : Table) (fn : Func) (keep : List Nat) (n : Nat) (ps : List PV) : Option (Stop × List Prop) :=
  runL P T fn keep n [.code (bodyOf fn)] (start fn.ntmps ps)
def first0 (P : Program) (T : Table) (fn : Func) (keep : List Nat) (n : Nat) (ps : List PV) : St :=
  match first P T fn keep n ps with
  | some (.at _ st, _) => st
  | _ => ⟨[], []⟩
def round (P : Program) (T : Table) (fn : Func) (keep : List Nat) (n : Nat) (st : St) : Option (Stop × List Prop) :=
  runL P T fn keep n (.code (hd fn).1 :: .lp (hd fn).1 :: (hd fn).2) st
def atHead (fn : Func) (st : St) : Stop := .at (.code (.loop (hd fn).1) :: (hd fn).2) st
def again (fn : Func) (st : St) : Stop := .at (.lp (hd fn).1 :: (hd fn).2) st

def setS (st : St) (t : Nat) (s : SV) : St := ⟨setL st.tmps t s, st.heap⟩
/-- the cells of a block -/
def setC (st : St) (d : Nat) (cs : List Cell) : St := ⟨st.tmps, match getL st.heap d with
  | some (b :: l) => setL st.heap d (⟨cs, b.ty, b.kd⟩ :: l)
  | _ => st.heap⟩

theorem map_range_eq {α : Type} {f g : Nat → α} {n : Nat} (h : (List.range n).map f = (List.range n).map g) {i : Nat} (hi : i < n) : f i = g i :=
  List.map_inj_left.1 h i (List.mem_range.2 hi)

theorem loopCalls {P : Program} {T : Table} (hT : TableOK P T) (hm : P.follows .mixedOrders = true) {f : FuncId} {fn : Func} (hf : P.funcs[f]? = some fn) (hb : fn.body.isSome = true) {keep : List Nat} {n m : Nat} (N : Nat) {ps : List PV} {vals : List Value} {σ : Type} {v : Value} (S : Nat → σ → St) (I : Nat → σ → Prop)
    (hps : pvVals ps = some vals) (hn : Nat.ble ps.length fn.ntmps = true)
    (pre : ∃ ob s0, first P T fn keep n ps = some (atHead fn (S 0 s0), ob) ∧ AllP ob ∧ I 0 s0)
    (rnd : ∀ i s, i < N → I i s → ∃ ob s', round P T fn keep m (S i s) = some (again fn (S (i + 1) s'), ob) ∧ AllP ob ∧ I (i + 1) s')
    (last : ∀ s, I N s → ∃ ob sv, round P T fn keep m (S N s) = some (.out sv, ob) ∧ AllP ob ∧ sv.val? = some v) (w : World) :
    Calls P f vals.toArray w fun e w' => e = .returned v ∧ Below w.heap.size w w' := by
  have hb' : fn.body = some (bodyOf fn) := by
    unfold bodyOf
    cases h : fn.body with
    | none => rw [h] at hb; cases hb
    | some c => rfl
  refine loop_calls (m := m) (N := N) hT hm hf S I hb' hps hn pre ?_ w
  intro i s hi hI
  by_cases hlt : i < N
  · obtain ⟨ob, s', h1, h2, h3⟩ := rnd i s hlt hI
    exact ⟨ob, _, h1, h2, rfl, hlt, s', rfl, h3⟩
  · have : i = N := by omega
    subst this
    obtain ⟨ob, sv, h1, h2, h3⟩ := last s hI
    exact ⟨ob, _, h1, h2, h3⟩

end Eng

/- A program's operations carried out on values written out: functions that take or give slices, and loops gone through from place to place. -/
namespace Eng
open Go Go.RowKit

/-- does a cell tell of no block that lies at such a place? -/
def freeC (bad : Nat → Bool) : Cell → Bool
  | .ptr d _ _ => !bad d
  | .sli d _ _ _ _ _ => !bad d
  | .gs d _ _ _ _ => !bad d
  | .gp d _ _ => !bad d
  | _ => true
def freeCs (bad : Nat → Bool) : List Cell → Bool
  | [] => true
  | c :: cs => freeC bad c && freeCs bad cs
def freeP (bad : Nat → Bool) (p : PV) : Bool := freeCs bad p.cells
def freePs (bad : Nat → Bool) : List PV → Bool
  | [] => true
  | p :: ps => freeP bad p && freePs bad ps
def freeS (bad : Nat → Bool) : SV → Bool
  | .any => true
  | .pv p => freeP bad p
  | .tup ps => freePs bad ps
def freeT (bad : Nat → Bool) (skip : Nat) : Nat → List SV → Bool
  | _, [] => true
  | i, s :: l => (Nat.beq i skip || freeS bad s) && freeT bad skip (i + 1) l
def freeB (bad : Nat → Bool) : List Blk → Bool
  | [] => true
  | b :: l => freeCs bad b.cells && freeB bad l
def freeH (bad : Nat → Bool) : Heap → Bool
  | [] => true
  | l :: h => freeB bad l && freeH bad h

section
variable {ρ ρ' : Env} {bad : Nat → Bool} (hag : ∀ d, bad d = false → ∀ i, ρ' d i = ρ d i ∧ ρ'.cap d i = ρ.cap d i ∧ ρ'.sv d i = ρ.sv d i)
include hag

theorem denC_agree {c : Cell} (h : freeC bad c = true) : denC ρ' c = denC ρ c := by
  cases c with
  | ptr d i off =>
    have hb : bad d = false := by simpa [freeC] using h
    simp only [denC, (hag d hb i).1]
  | sli d i off n c sym =>
    have hb : bad d = false := by simpa [freeC] using h
    simp only [denC, (hag d hb i).1, (hag d hb i).2.1]
  | gs d i n c sym =>
    have hb : bad d = false := by simpa [freeC] using h
    simp only [denC, (hag d hb i).2.2]
  | gp d i k =>
    have hb : bad d = false := by simpa [freeC] using h
    simp only [denC, (hag d hb i).2.2]
  | _ => rfl
theorem denCs_agree : ∀ {cs : List Cell}, freeCs bad cs = true → denCs ρ' cs = denCs ρ cs
  | [], _ => rfl
  | c :: cs, h => by
    simp only [freeCs, Bool.and_eq_true] at h
    simp only [denCs, denC_agree hag h.1, denCs_agree h.2]
theorem denP_agree {p : PV} (h : freeP bad p = true) : denP ρ' p = denP ρ p := by
  cases p with
  | one c =>
    simp only [freeP, PV.cells, freeCs, Bool.and_true] at h
    simp only [denP, denC_agree hag h]
  | agg cs =>
    have hcs : freeCs bad cs = true := h
    simp only [denP, denCs_agree hag hcs]
theorem denPs_agree : ∀ {ps : List PV}, freePs bad ps = true → denPs ρ' ps = denPs ρ ps
  | [], _ => rfl
  | p :: ps, h => by
    simp only [freePs, Bool.and_eq_true] at h
    simp only [denPs, denP_agree hag h.1, denPs_agree h.2]
theorem relS_agree {s : SV} {v : Value} (h : freeS bad s = true) (r : relS ρ s v) : relS ρ' s v := by
  cases s with
  | any => trivial
  | pv p => show denP ρ' p = some v; rw [denP_agree hag h]; exact r
  | tup ps => obtain ⟨l, h1, h2⟩ := r; exact ⟨l, by rw [denPs_agree hag h]; exact h1, h2⟩
end

theorem freeT_get {bad : Nat → Bool} {skip : Nat} : ∀ {l : List SV} {i t : Nat} {s : SV}, freeT bad skip i l = true → getL l t = some s → i + t ≠ skip → freeS bad s = true
  | [], i, t, s, _, h, _ => by simp [getL] at h
  | x :: l, i, 0, s, hf, h, hne => by
    simp only [freeT, Bool.and_eq_true, Bool.or_eq_true] at hf
    simp only [getL, Option.some.injEq] at h
    subst h
    rcases hf.1 with h1 | h1
    · exact absurd (Nat.eq_of_beq_eq_true h1) hne
    · exact h1
  | x :: l, i, t + 1, s, hf, h, hne => by
    simp only [freeT, Bool.and_eq_true] at hf
    exact freeT_get hf.2 (by simpa [getL] using h) (by omega)

theorem freeB_get {bad : Nat → Bool} : ∀ {l : List Blk} {i : Nat} {b : Blk}, freeB bad l = true → getL l i = some b → freeCs bad b.cells = true
  | [], i, b, _, h => by simp [getL] at h
  | x :: l, 0, b, hf, h => by
    simp only [freeB, Bool.and_eq_true] at hf
    simp only [getL, Option.some.injEq] at h
    subst h
    exact hf.1
  | x :: l, i + 1, b, hf, h => by
    simp only [freeB, Bool.and_eq_true] at hf
    exact freeB_get hf.2 (by simpa [getL] using h)
theorem freeH_get {bad : Nat → Bool} : ∀ {h : Heap} {d : Nat} {l : List Blk}, freeH bad h = true → getL h d = some l → freeB bad l = true
  | [], d, l, _, h => by simp [getL] at h
  | x :: h, 0, l, hf, e => by
    simp only [freeH, Bool.and_eq_true] at hf
    simp only [getL, Option.some.injEq] at e
    subst e
    exact hf.1
  | x :: h, d + 1, l, hf, e => by
    simp only [freeH, Bool.and_eq_true] at hf
    exact freeH_get hf.2 (by simpa [getL] using e)
theorem freeH_blk {bad : Nat → Bool} {h : Heap} {d i : Nat} {b : Blk} (hf : freeH bad h = true) (e : getB h d i = some b) : freeCs bad b.cells = true := by
  unfold getB at e
  cases hl : getL h d with
  | none => simp [hl] at e
  | some l => simp only [hl] at e; exact freeB_get (freeH_get hf hl) e

/-- whole numbers as one list -/
def normC (cs : List Cell) : List Cell := match decInts .u64 cs with
  | some l => [.arr .u64 l]
  | none => match decInts .u8 cs with
    | some l => [.arr .u8 l]
    | none => cs
theorem normC_den {ρ : Env} (cs : List Cell) : denCs ρ (normC cs) = denCs ρ cs := by
  unfold normC
  cases h : decInts .u64 cs with
  | some l => simp only []; rw [decInts_spec h]; simp [denCs, denC]
  | none =>
    simp only []
    cases h' : decInts .u8 cs with
    | some l => simp only []; rw [decInts_spec h']; simp [denCs, denC]
    | none => rfl
/-- is a slice one that may be told anew: a row of one's own, or what is read alone? -/
def baseOf (h : Heap) : SV → Option (Nat × Nat × Blk × Cell × (Nat → Cell))
  | .pv (.one (.sli d i 0 n none sym)) => match getB h d i with
    | some blk => match blk.kd with
      | .sl => some (d, i, blk, .sli d i 0 n none sym, fun t => .sli t 0 0 n none true)
      | _ => none
    | none => none
  | .pv (.one (.gs d i n c sym)) => match getB h d i with
    | some blk => match blk.kd with
      | .gs => some (d, i, blk, .gs d i n c sym, fun t => .gs t 0 n c true)
      | _ => none
    | none => none
  | _ => none
/-- the slice of a slot, with its row, at the slot's own place -/
def rebase (t : Nat) (st : St) : Option St :=
  match getL st.tmps t with
  | some s => match baseOf st.heap s with
    | some (d, _, blk, _, c) => cond (Nat.blt t st.heap.length && freeT (fun x => Nat.beq x d || Nat.beq x t) t 0 st.tmps && freeH (fun x => Nat.beq x d || Nat.beq x t) (setL (setL st.heap d []) t [blk]))
          (some ⟨setL st.tmps t (.pv (.one (c t))), setL (setL st.heap d []) t [⟨normC blk.cells, blk.ty, blk.kd⟩]⟩) none
    | none => none
  | none => none

/-- blocks that nobody knows of are forgotten -/
def drop (d : Nat) (st : St) : Option St :=
  cond (freeT (fun x => Nat.beq x d) st.tmps.length 0 st.tmps && freeH (fun x => Nat.beq x d) (setL st.heap d [])) (some ⟨st.tmps, setL st.heap d []⟩) none

theorem getB_clear (h : Heap) (d d' i' : Nat) : getB (setL h d []) d' i' = if d = d' then none else getB h d' i' := by
  unfold getB
  rw [getL_setL]
  by_cases hd : d = d'
  · subst hd
    rw [if_pos rfl, if_pos rfl]
    by_cases hl : d < h.length
    · rw [if_pos hl]; rfl
    · rw [if_neg hl]
  · rw [if_neg hd, if_neg hd]

theorem getB_place {h : Heap} {t : Nat} {blk : Blk} (ht : t < h.length) (d' i' : Nat) : getB (setL h t [blk]) d' i' = if t = d' then (if i' = 0 then some blk else none) else getB h d' i' := by
  unfold getB
  rw [getL_setL]
  by_cases hd : t = d'
  · subst hd
    rw [if_pos rfl, if_pos rfl, if_pos ht]
    cases i' with
    | zero => rfl
    | succ i' => simp [getL]
  · rw [if_neg hd, if_neg hd]

/-- places under other names, some forgotten -/
theorem HRel.ren {w0 : World} {fb : Gh} {ρ ρ' : Env} {h h' : Heap} {w : World} (r : HRel w0 fb ρ h w) (σ : Nat → Nat → Option (Nat × Nat))
    (hsrc : ∀ x i blk', getB h' x i = some blk' → ∃ d j blk, σ x i = some (d, j) ∧ getB h d j = some blk ∧ blk'.kd = blk.kd ∧ blk'.ty = blk.ty ∧ ∀ l, denCs ρ blk.cells = some l → denCs ρ' blk'.cells = some l)
    (henv : ∀ x i d j, σ x i = some (d, j) → ρ' x i = ρ d j ∧ ρ'.cap x i = ρ.cap d j ∧ ρ'.sv x i = ρ.sv d j) (hno : ∀ x i, σ x i = none → ρ' x i = none ∧ ρ'.sv x i = none)
    (hdom : ∀ x i d j blk, σ x i = some (d, j) → getB h d j = some blk → ∃ blk', getB h' x i = some blk') (hinj : ∀ x i y k p, σ x i = some p → σ y k = some p → x = y ∧ i = k) (hanc : ∀ j p, fb.anc j = some p → ρ' 0 j = some p.1 ∧ ρ'.cap 0 j = p.2) : HRel w0 fb ρ' h' w := by
  have hpos : ∀ {x i b}, ρ' x i = some b → ∃ d j, σ x i = some (d, j) ∧ ρ d j = some b := by
    intro x i b hb
    cases hs : σ x i with
    | none => rw [(hno x i hs).1] at hb; cases hb
    | some p => obtain ⟨d, j⟩ := p; rw [(henv x i d j hs).1] at hb; exact ⟨d, j, rfl, hb⟩
  have hdead : ∀ {x i d j}, σ x i = some (d, j) → deadAt h d j → deadAt h' x i := by
    rintro x i d j hs ⟨blk, q1, q2⟩
    obtain ⟨blk', q3⟩ := hdom x i d j blk hs q1
    obtain ⟨d', j', blk2, p1, p2, p3, _⟩ := hsrc x i blk' q3
    rw [hs] at p1
    cases p1
    rw [q1] at p2
    cases p2
    exact ⟨blk', q3, p3.trans q2⟩
  have hsees : ∀ {x i d j}, σ x i = some (d, j) → seesAt h d j → seesAt h' x i := by
    rintro x i d j hs ⟨blk, q1, q2⟩
    obtain ⟨blk', q3⟩ := hdom x i d j blk hs q1
    obtain ⟨d', j', blk2, p1, p2, p3, _⟩ := hsrc x i blk' q3
    rw [hs] at p1
    cases p1
    rw [q1] at p2
    cases p2
    exact ⟨blk', q3, by rw [p3]; exact q2⟩
  refine ⟨?_, ?_, ?_, ?_, ?_, ?_, hanc, r.keep⟩
  · intro x i blk' hg
    obtain ⟨d, j, blk, p1, p2, p3, p4, p5⟩ := hsrc x i blk' hg
    obtain ⟨e1, e2, e3⟩ := henv x i d j p1
    rcases r.at_ d j blk p2 with ⟨q, l, v, z1, z2, z3⟩ | ⟨b, h1, h2, h3, h4⟩
    · refine .inl ⟨p3.trans q, l, v, p5 l z1, by rw [e3]; exact z2, ?_⟩
      rcases z3 with z3 | ⟨b, pre, junk, fz, y1, y2, y3, y4⟩
      · exact .inl z3
      · exact .inr ⟨b, pre, junk, fz, by rw [e1]; exact y1, y2, by rw [p4]; exact y3, y4⟩
    · refine .inr ⟨b, by rw [e1]; exact h1, h2, by rw [p3]; exact h3, ?_⟩
      rcases h4 with h4 | ⟨l, junk, y1, y2, y3⟩
      · exact .inl (p3.trans h4)
      · exact .inr ⟨l, junk, p5 l y1, by rw [p4]; exact y2, fun hk => by rw [e2]; exact y3 (by rw [← p3]; exact hk)⟩
  · intro x i b hb
    obtain ⟨d, j, hs, hb'⟩ := hpos hb
    obtain ⟨blk, q⟩ := r.dom d j b hb'
    exact hdom x i d j blk hs q
  · intro x i v hv
    cases hs : σ x i with
    | none => rw [(hno x i hs).2] at hv; cases hv
    | some p =>
      obtain ⟨d, j⟩ := p
      rw [(henv x i d j hs).2.2] at hv
      obtain ⟨blk, q⟩ := r.doms d j v hv
      exact hdom x i d j blk hs q
  · intro x i y k b h1 h2
    obtain ⟨d, j, s1, h1⟩ := hpos h1
    obtain ⟨d', j', s2, h2⟩ := hpos h2
    rcases r.inj _ _ _ _ _ h1 h2 with ⟨rfl, rfl⟩ | q | q | ⟨q, q'⟩
    · exact .inl (hinj x i y k _ s1 s2)
    · exact .inr (.inl (hdead s1 q))
    · exact .inr (.inr (.inl (hdead s2 q)))
    · exact .inr (.inr (.inr ⟨hsees s1 q, hsees s2 q'⟩))
  · intro x i b blk' hb hg
    obtain ⟨d, j, s1, hb'⟩ := hpos hb
    obtain ⟨d', j', blk, p1, p2, p3, _⟩ := hsrc x i blk' hg
    rw [s1] at p1
    cases p1
    rw [p3]
    exact r.low d j b blk hb' p2
  · intro x i b hb
    obtain ⟨d, j, _, hb'⟩ := hpos hb
    exact r.lt d j b hb'

theorem drop_rel {w0 : World} {fb : Gh} (ha : ∀ j, fb.anc j = none) {ρ : Env} {a : Act} {w : World} {d : Nat} {st st' : St} (e : drop d st = some st') (r : Rel w0 fb ρ st.tmps st.heap a w) : ∃ ρ' : Env, Rel w0 fb ρ' st'.tmps st'.heap a w := by
  unfold drop at e
  cases hc : (freeT (fun x => Nat.beq x d) st.tmps.length 0 st.tmps && freeH (fun x => Nat.beq x d) (setL st.heap d [])) with
  | false => rw [hc] at e; cases e
  | true =>
    rw [hc] at e
    cases e
    obtain ⟨c1, c2⟩ := Bool.and_eq_true_iff.1 hc
    let ρ' : Env := ⟨fun d' i' => if d = d' then none else ρ d' i', ρ.cap, fun d' i' => if d = d' then none else ρ.sv d' i'⟩
    have hag : ∀ x, Nat.beq x d = false → ∀ i, ρ' x i = ρ x i ∧ ρ'.cap x i = ρ.cap x i ∧ ρ'.sv x i = ρ.sv x i := by
      intro x hx i
      have hne : ¬ d = x := fun e => by subst e; simp at hx
      refine ⟨?_, rfl, ?_⟩
      · show (if d = x then none else ρ x i) = _
        rw [if_neg hne]
      · show (if d = x then none else ρ.sv x i) = _
        rw [if_neg hne]
    refine ⟨ρ', { r.toHRel.ren (ρ' := ρ') (h' := setL st.heap d []) (fun x i => if d = x then none else some (x, i)) ?_ ?_ ?_ ?_ ?_ (fun j b e => by rw [ha j] at e; cases e) with tmps := ?_, len := r.len, defers := r.defers }⟩
    · intro x i blk hg
      have hf := freeH_blk c2 hg
      rw [getB_clear] at hg
      by_cases hx : d = x
      · rw [if_pos hx] at hg; cases hg
      · rw [if_neg hx] at hg
        exact ⟨x, i, blk, if_neg hx, hg, rfl, rfl, fun l hl => by rw [denCs_agree hag hf]; exact hl⟩
    · intro x i d' j hs
      by_cases hx : d = x
      · rw [if_pos hx] at hs; cases hs
      · rw [if_neg hx] at hs
        cases hs
        exact hag x (Bool.eq_false_iff.2 fun e => hx (Nat.eq_of_beq_eq_true e).symm) i
    · intro x i hs
      by_cases hx : d = x
      · exact ⟨if_pos hx, if_pos hx⟩
      · rw [if_neg hx] at hs; cases hs
    · intro x i d' j blk hs hg
      by_cases hx : d = x
      · rw [if_pos hx] at hs; cases hs
      · rw [if_neg hx] at hs
        cases hs
        exact ⟨blk, by rw [getB_clear, if_neg hx]; exact hg⟩
    · intro x i y k p h1 h2
      by_cases hx : d = x
      · rw [if_pos hx] at h1; cases h1
      · by_cases hy : d = y
        · rw [if_pos hy] at h2; cases h2
        · rw [if_neg hx] at h1
          rw [if_neg hy] at h2
          cases h1
          cases h2
          exact ⟨rfl, rfl⟩
    · intro t s hs
      exact relS_agree hag (freeT_get c1 hs (by have : t < st.tmps.length := getL_some_lt hs; omega)) (r.tmps t s hs)

theorem baseOf_spec {h : Heap} {s : SV} {d i : Nat} {blk : Blk} {c0 : Cell} {c : Nat → Cell} (e : baseOf h s = some (d, i, blk, c0, c)) :
    s = .pv (.one c0) ∧ getB h d i = some blk ∧ ∀ (ρ ρ' : Env) (t : Nat), ρ' t 0 = ρ d i → ρ'.cap t 0 = ρ.cap d i → ρ'.sv t 0 = ρ.sv d i → denC ρ' (c t) = denC ρ c0 := by
  unfold baseOf at e
  split at e
  · rename_i d' i' n sym
    split at e
    · rename_i blk' hg
      split at e
      · cases e
        refine ⟨rfl, hg, fun ρ ρ' t h1 h2 h3 => ?_⟩
        simp only [denC, h1, h2]
      · cases e
    · cases e
  · rename_i d' i' n cp sym
    split at e
    · rename_i blk' hg
      split at e
      · cases e
        refine ⟨rfl, hg, fun ρ ρ' t h1 h2 h3 => ?_⟩
        simp only [denC, h3]
      · cases e
    · cases e
  · cases e

theorem rebase_rel {w0 : World} {fb : Gh} (ha : ∀ j, fb.anc j = none) {ρ : Env} {a : Act} {w : World} {t : Nat} {st st' : St} (e : rebase t st = some st') (r : Rel w0 fb ρ st.tmps st.heap a w) : ∃ ρ' : Env, Rel w0 fb ρ' st'.tmps st'.heap a w := by
  unfold rebase at e
  cases hslot : getL st.tmps t with
  | none => simp [hslot] at e
  | some s =>
    simp only [hslot] at e
    cases hb : baseOf st.heap s with
    | none => simp [hb] at e
    | some q =>
      obtain ⟨d, i, blk, c0, c⟩ := q
      simp only [hb] at e
      obtain ⟨rfl, hg, hcell⟩ := baseOf_spec hb
      cases hc : (Nat.blt t st.heap.length && freeT (fun x => Nat.beq x d || Nat.beq x t) t 0 st.tmps && freeH (fun x => Nat.beq x d || Nat.beq x t) (setL (setL st.heap d []) t [blk])) with
      | false => rw [hc] at e; cases e
      | true =>
        rw [hc] at e
        cases e
        simp only [Bool.and_eq_true] at hc
        obtain ⟨⟨c0', c1⟩, c2⟩ := hc
        have c0' : t < (setL st.heap d []).length := by rw [setL_length]; simpa [Nat.blt_eq] using c0'
        let σ : Nat → Nat → Option (Nat × Nat) := fun x k => if t = x then (if k = 0 then some (d, i) else none) else if d = x then none else some (x, k)
        let ρ' : Env := ⟨fun x k => if t = x then (if k = 0 then ρ d i else none) else if d = x then none else ρ x k, fun x k => if t = x then ρ.cap d i else ρ.cap x k, fun x k => if t = x then (if k = 0 then ρ.sv d i else none) else if d = x then none else ρ.sv x k⟩
        have hag : ∀ x, (Nat.beq x d || Nat.beq x t) = false → ∀ i, ρ' x i = ρ x i ∧ ρ'.cap x i = ρ.cap x i ∧ ρ'.sv x i = ρ.sv x i := by
          intro x hx k
          have h1 : ¬ t = x := fun e => by subst e; simp at hx
          have h2 : ¬ d = x := fun e => by subst e; simp at hx
          refine ⟨?_, ?_, ?_⟩
          · show (if t = x then _ else if d = x then none else ρ x k) = _
            rw [if_neg h1, if_neg h2]
          · show (if t = x then _ else ρ.cap x k) = _
            rw [if_neg h1]
          · show (if t = x then _ else if d = x then none else ρ.sv x k) = _
            rw [if_neg h1, if_neg h2]
        have h00 : ρ' t 0 = ρ d i ∧ ρ'.cap t 0 = ρ.cap d i ∧ ρ'.sv t 0 = ρ.sv d i := by
          refine ⟨?_, ?_, ?_⟩
          · show (if t = t then (if 0 = 0 then ρ d i else none) else _) = _; simp
          · show (if t = t then ρ.cap d i else _) = _; simp
          · show (if t = t then (if 0 = 0 then ρ.sv d i else none) else _) = _; simp
        have hget : ∀ x k, getB (setL (setL st.heap d []) t [⟨normC blk.cells, blk.ty, blk.kd⟩]) x k = if t = x then (if k = 0 then some ⟨normC blk.cells, blk.ty, blk.kd⟩ else none) else if d = x then none else getB st.heap x k := by
          intro x k
          rw [getB_place c0', getB_clear]
        have hfb : freeCs (fun x => Nat.beq x d || Nat.beq x t) blk.cells = true := by
          have := freeH_get c2 (d := t) (l := [blk]) (by rw [getL_setL, if_pos rfl, if_pos c0'])
          simp only [freeB, Bool.and_true] at this
          exact this
        have hfo : ∀ {x k blk'}, t ≠ x → d ≠ x → getB st.heap x k = some blk' → freeCs (fun x => Nat.beq x d || Nat.beq x t) blk'.cells = true := by
          intro x k blk' hx hd hb
          refine freeH_blk c2 (d := x) (i := k) ?_
          rw [getB_place c0', getB_clear, if_neg hx, if_neg hd]
          exact hb
        have cases_ : ∀ {x k p}, σ x k = some p → (t = x ∧ k = 0 ∧ p = (d, i)) ∨ (t ≠ x ∧ d ≠ x ∧ p = (x, k)) := by
          intro x k p hs
          have hs : (if t = x then (if k = 0 then some (d, i) else none) else if d = x then none else some (x, k)) = some p := hs
          by_cases hx : t = x
          · rw [if_pos hx] at hs
            by_cases hk : k = 0
            · rw [if_pos hk] at hs; cases hs; exact .inl ⟨hx, hk, rfl⟩
            · rw [if_neg hk] at hs; cases hs
          · rw [if_neg hx] at hs
            by_cases hd : d = x
            · rw [if_pos hd] at hs; cases hs
            · rw [if_neg hd] at hs; cases hs; exact .inr ⟨hx, hd, rfl⟩
        refine ⟨ρ', { r.toHRel.ren (ρ' := ρ') (h' := setL (setL st.heap d []) t [⟨normC blk.cells, blk.ty, blk.kd⟩]) σ ?_ ?_ ?_ ?_ ?_ (fun j b e => by rw [ha j] at e; cases e) with tmps := ?_, len := by rw [setL_length]; exact r.len, defers := r.defers }⟩
        · intro x k blk' hg'
          rw [hget] at hg'
          by_cases hx : t = x
          · rw [if_pos hx] at hg'
            by_cases hk : k = 0
            · rw [if_pos hk] at hg'
              cases hg'
              refine ⟨d, i, blk, ?_, hg, rfl, rfl, fun l hl => by rw [normC_den, denCs_agree hag hfb]; exact hl⟩
              show (if t = x then (if k = 0 then some (d, i) else none) else _) = _
              rw [if_pos hx, if_pos hk]
            · rw [if_neg hk] at hg'; cases hg'
          · rw [if_neg hx] at hg'
            by_cases hd : d = x
            · rw [if_pos hd] at hg'; cases hg'
            · rw [if_neg hd] at hg'
              refine ⟨x, k, blk', ?_, hg', rfl, rfl, fun l hl => by rw [denCs_agree hag (hfo hx hd hg')]; exact hl⟩
              show (if t = x then _ else if d = x then none else some (x, k)) = _
              rw [if_neg hx, if_neg hd]
        · intro x k d' j hs
          rcases cases_ hs with ⟨rfl, rfl, e⟩ | ⟨h1, h2, e⟩
          · cases e; exact h00
          · cases e
            have h1' : Nat.beq x t = false := Bool.eq_false_iff.2 fun e => h1 (Nat.eq_of_beq_eq_true e).symm
            have h2' : Nat.beq x d = false := Bool.eq_false_iff.2 fun e => h2 (Nat.eq_of_beq_eq_true e).symm
            exact hag x (by rw [h1', h2']; rfl) k
        · intro x k hs
          have hs : (if t = x then (if k = 0 then some (d, i) else none) else if d = x then none else some (x, k)) = none := hs
          show (if t = x then (if k = 0 then ρ d i else none) else if d = x then none else ρ x k) = none ∧ (if t = x then (if k = 0 then ρ.sv d i else none) else if d = x then none else ρ.sv x k) = none
          by_cases hx : t = x
          · rw [if_pos hx] at hs
            by_cases hk : k = 0
            · rw [if_pos hk] at hs; cases hs
            · rw [if_pos hx, if_pos hx, if_neg hk, if_neg hk]; exact ⟨rfl, rfl⟩
          · rw [if_neg hx] at hs
            by_cases hd : d = x
            · rw [if_neg hx, if_neg hx, if_pos hd, if_pos hd]; exact ⟨rfl, rfl⟩
            · rw [if_neg hd] at hs; cases hs
        · intro x k d' j blk' hs hg'
          rcases cases_ hs with ⟨h1, h2, e⟩ | ⟨h1, h2, e⟩
          · exact ⟨⟨normC blk.cells, blk.ty, blk.kd⟩, by rw [hget, if_pos h1, if_pos h2]⟩
          · cases e
            exact ⟨blk', by rw [hget, if_neg h1, if_neg h2]; exact hg'⟩
        · intro x k y m p h1 h2
          rcases cases_ h1 with ⟨p1, p2, p3⟩ | ⟨p1, p2, p3⟩ <;> rcases cases_ h2 with ⟨q1, q2, q3⟩ | ⟨q1, q2, q3⟩
          · exact ⟨p1.symm.trans q1, p2.trans q2.symm⟩
          · rw [p3] at q3; cases q3; exact absurd rfl q2
          · rw [q3] at p3; cases p3; exact absurd rfl p2
          · rw [p3] at q3; cases q3; exact ⟨rfl, rfl⟩
        · intro t' s hs
          rw [getL_setL] at hs
          by_cases ht : t = t'
          · subst ht
            rw [if_pos rfl] at hs
            split at hs
            · cases hs
              have := denP_one (r.tmps t _ hslot)
              rw [← hcell ρ ρ' t h00.1 h00.2.1 h00.2.2] at this
              exact denP_one' this
            · cases hs
          · rw [if_neg ht] at hs
            exact relS_agree hag (freeT_get c1 hs (by omega)) (r.tmps t' s hs)

/-- what is kept at a loop's head: slots; slots whose slices take their own place; places whose blocks are forgotten -/
structure Td where
  keep : List Nat
  ts : List Nat
  ds : List Nat
def allO (f : Nat → St → Option St) : List Nat → St → Option St
  | [], st => some st
  | t :: ts, st => match f t st with
    | some st' => allO f ts st'
    | none => none
/-- or as it was -/
def orSt (f : Nat → St → Option St) (t : Nat) (st : St) : Option St := match f t st with
  | some st' => some st'
  | none => some st
def tidy (d : Td) (st : St) : Option St := match allO (orSt rebase) d.ts ⟨wkT d.keep 0 st.tmps, st.heap⟩ with
  | some st' => allO (orSt drop) d.ds st'
  | none => none
theorem orSt_rel {w0 : World} {fb : Gh} {a : Act} {w : World} {f : Nat → St → Option St} (hf : ∀ {t st st'} {ρ : Env}, f t st = some st' → Rel w0 fb ρ st.tmps st.heap a w → ∃ ρ' : Env, Rel w0 fb ρ' st'.tmps st'.heap a w)
    {t : Nat} {st st' : St} {ρ : Env} (e : orSt f t st = some st') (r : Rel w0 fb ρ st.tmps st.heap a w) : ∃ ρ' : Env, Rel w0 fb ρ' st'.tmps st'.heap a w := by
  unfold orSt at e
  cases h : f t st with
  | none => simp only [h] at e; cases e; exact ⟨ρ, r⟩
  | some st1 => simp only [h] at e; cases e; exact hf h r
theorem allO_rel {w0 : World} {fb : Gh} {a : Act} {w : World} {f : Nat → St → Option St} (hf : ∀ {t st st'} {ρ : Env}, f t st = some st' → Rel w0 fb ρ st.tmps st.heap a w → ∃ ρ' : Env, Rel w0 fb ρ' st'.tmps st'.heap a w) :
    ∀ {ts : List Nat} {st st' : St} {ρ : Env}, allO f ts st = some st' → Rel w0 fb ρ st.tmps st.heap a w → ∃ ρ' : Env, Rel w0 fb ρ' st'.tmps st'.heap a w
  | [], st, st', ρ, e, r => by simp only [allO] at e; cases e; exact ⟨ρ, r⟩
  | t :: ts, st, st', ρ, e, r => by
    simp only [allO] at e
    cases h : f t st with
    | none => simp [h] at e
    | some st1 =>
      simp only [h] at e
      obtain ⟨ρ1, r1⟩ := hf h r
      exact allO_rel hf e r1
theorem tidy_rel {w0 : World} {fb : Gh} (ha : ∀ j, fb.anc j = none) {ρ : Env} {a : Act} {w : World} {d : Td} {st st' : St} (e : tidy d st = some st') (r : Rel w0 fb ρ st.tmps st.heap a w) : ∃ ρ' : Env, Rel w0 fb ρ' st'.tmps st'.heap a w := by
  unfold tidy at e
  cases h : allO (orSt rebase) d.ts ⟨wkT d.keep 0 st.tmps, st.heap⟩ with
  | none => simp [h] at e
  | some st1 =>
    simp only [h] at e
    obtain ⟨ρ1, r1⟩ := allO_rel (f := orSt rebase) (fun h r => orSt_rel (fun h r => rebase_rel ha h r) h r) h (r.wk d.keep)
    exact allO_rel (f := orSt drop) (fun h r => orSt_rel (fun h r => drop_rel ha h r) h r) e r1

inductive StopS where
  | at (k : List It) (st : St)
  | out (o : SRes)

def outS (st : St) (ob : List Prop) : List PV → Option (StopS × List Prop)
  | [p] => match ownV st.heap (.pv p) with
    | some (some (_, _, t), cs, _, pre) => some (.out (.row t cs), pre ++ ob)
    | _ => some (.out (.val (.pv p)), ob)
  | ps => some (.out (.val (.tup ps)), ob)

def leafS (P : Program) (fn : Func) (d : Td) : Out → List Prop → Option (StopS × List Prop)
  | .stop k st, ob => match tidy d st with
    | some st' => some (.at k st', ob)
    | none => none
  | .fall st, ob => match resPs P st fn.results.toList with
    | some ps => outS st ob ps
    | none => none
  | .ret st, ob => match resPs P st fn.results.toList with
    | some ps => outS st ob ps
    | none => none
  | .ex _ _, _ => none

def depth : List It → Nat
  | [] => 0
  | .lp _ :: k => depth k + 1
  | _ :: k => depth k
/-- loops inside so many others are gone through at once -/
def runS (P : Program) (T : Table) (fn : Func) (D : Nat) (d : Td) (n : Nat) (k : List It) (st : St) : Option (StopS × List Prop) :=
  exec P T (fun k => Nat.ble D (depth k)) (leafS P fn d) n k st []

/-- from a place one comes to an end of which R holds -/
inductive Goes (P : Program) (T : Table) (fn : Func) (R : SRes → Prop) : List It → St → Prop where
  | out (D : Nat) (d : Td) (n : Nat) {k : List It} {st : St} {o : SRes} {ob : List Prop} : runS P T fn D d n k st = some (.out o, ob) → AllP ob → R o → Goes P T fn R k st
  | at (D : Nat) (d : Td) (n : Nat) {k k' : List It} {st st' : St} {ob : List Prop} : runS P T fn D d n k st = some (.at k' st', ob) → AllP ob → Goes P T fn R k' st' → Goes P T fn R k st
  | loop {b : Code} {k : List It} {st : St} : Goes P T fn R (.code b :: .lp b :: k) st → Goes P T fn R (.code (.loop b) :: k) st
  | lp {b : Code} {k : List It} {st : St} : Goes P T fn R (.code b :: .lp b :: k) st → Goes P T fn R (.lp b :: k) st
  | conv {k : List It} {st st' : St} : (∀ w0 (fb : Gh), (∀ j, fb.anc j = none) → ∀ ρ a w, Rel w0 fb ρ st.tmps st.heap a w → ∃ ρ' : Env, Rel w0 fb ρ' st'.tmps st'.heap a w) → Goes P T fn R k st' → Goes P T fn R k st

/-- a result, as one that is known of -/
def OutIs (out o : SRes) : Prop := match out, o with
  | .val s, .val s' => ∃ v, s.val? = some v ∧ s'.val? = some v
  | .row e cs, .row e' cs' => e = e' ∧ ∃ l, cellVals cs = some l ∧ cellVals cs' = some l
  | _, _ => False

def EndS (w0 : World) (row : Option Nat) (out : SRes) (e : Ending) (w' : World) : Prop :=
  ∃ u, e = .returned u ∧ w0.grownBy w' row ∧ ∀ ρ, ResRel ρ out row w0 w' u

theorem SV.val?_rel {ρ : Env} {s : SV} {v : Value} (h : s.val? = some v) : relS ρ s v := by
  cases s with
  | any => cases h
  | pv p => exact PV.val?_den h
  | tup ps =>
    simp only [SV.val?] at h
    cases h1 : pvVals ps with
    | none => simp [h1] at h
    | some l => simp only [h1] at h; cases h; exact ⟨l, pvVals_spec h1, rfl⟩

section
variable {P : Program} {T : Table} (hT : TableOK P T) (hm : P.follows .mixedOrders = true) {fn : Func} {w0 : World} {row : Option Nat} {out : SRes}
include hT hm

theorem runS_sound {D : Nat} {d : Td} {n : Nat} {k : List It} {st : St} {r : StopS} {ob : List Prop} (h : runS P T fn D d n k st = some (r, ob)) (hob : AllP ob)
    (hr : match r with
      | .at k' st' => ∀ (ρ : Env) a w, Rel w0 (Gh.row row) ρ st'.tmps st'.heap a w → cont P (bodyPost P fn (EndS w0 row out)) k' .normal a w
      | .out o => OutIs out o) :
    ∀ (ρ : Env) (a : Act) (w : World), Rel w0 (Gh.row row) ρ st.tmps st.heap a w → cont P (bodyPost P fn (EndS w0 row out)) k .normal a w := by
  refine (exec_sound (w0 := w0) (fb := Gh.row row) hT hm (Q := bodyPost P fn (EndS w0 row out)) ?_ n k st [] h).2
  intro o ob' hl
  have fin : ∀ st, (match resPs P st fn.results.toList with
    | some ps => outS st ob' ps
    | none => none) = some (r, ob) → AllP ob' ∧ ∀ ρ a w', Rel w0 (Gh.row row) ρ st.tmps st.heap a w' → a.defers = [] ∧ ∃ u, (results fn a.tmps).run P w' = .ok u w' ∧ EndS w0 row out (Ending.returned u) w' := by
    intro st hst
    cases h2 : resPs P st fn.results.toList with
    | none => simp [h2] at hst
    | some qs =>
      simp only [h2] at hst
      have plain : ∀ s, some (StopS.out (.val s), ob') = some (r, ob) → tupOf qs = s → AllP ob' ∧ ∀ ρ a w', Rel w0 (Gh.row row) ρ st.tmps st.heap a w' → a.defers = [] ∧ ∃ u, (results fn a.tmps).run P w' = .ok u w' ∧ EndS w0 row out (Ending.returned u) w' := by
        intro s hs hq
        cases hs
        refine ⟨hob, fun ρ a w' hr' => ⟨hr'.defers, ?_⟩⟩
        obtain ⟨u, u1, u2⟩ := run_results hr' h2
        refine ⟨u, u2, u, rfl, ?_, ?_⟩
        · have k := hr'.keep
          exact ⟨k.os, k.tape, k.output, k.size, fun j hj hn => k.block j hj (fun e => hn e.symm)⟩
        · intro ρ2
          unfold OutIs at hr
          cases out with
          | val s0 =>
            obtain ⟨v, v1, v2⟩ := hr
            rw [hq] at u1
            have := SV.val?_spec v2 u1
            subst this
            exact SV.val?_rel v1
          | row e cs => exact hr.elim
      unfold outS at hst
      split at hst
      · rename_i p
        split at hst
        · rename_i d' i t cs n' pre h3
          cases hst
          obtain ⟨hp1, hp2⟩ := AllP_append hob
          refine ⟨hp2, fun ρ a w' hr' => ⟨hr'.defers, ?_⟩⟩
          obtain ⟨u, u1, u2⟩ := run_results hr' h2
          have u1' : relS ρ (.pv p) u := u1
          refine ⟨u, u2, u, rfl, ?_, ?_⟩
          · have k := hr'.keep
            exact ⟨k.os, k.tape, k.output, k.size, fun j hj hn => k.block j hj (fun e => hn e.symm)⟩
          · intro ρ2
            unfold OutIs at hr
            cases out with
            | val s0 => exact hr.elim
            | row e cs0 =>
              obtain ⟨rfl, l, l1, l2⟩ := hr
              obtain ⟨m, m1, m2, m3⟩ := ownV_spec hr' h3 hp1 u1'
              rw [cellVals_spec l2] at m1
              cases m1
              rcases m3 with ⟨q, _⟩ | ⟨d2, i2, t2, b, blk, q, q1, q2, q3, q4⟩
              · cases q
              · cases q
                exact ⟨l, b, cellVals_spec l1, q4, low_own hr' q1 q2 q3⟩
        · exact plain _ hst rfl
      · rename_i hne
        refine plain _ hst ?_
        unfold tupOf
        split
        · exact absurd rfl (hne _)
        · rfl
  cases o with
  | fall st => exact ⟨(fin st hl).1, fun ρ a w' hr => (fin st hl).2 ρ a w' hr⟩
  | ret st => exact ⟨(fin st hl).1, fun ρ a w' hr => (fin st hl).2 ρ a w' hr⟩
  | ex id st => simp [leafS] at hl
  | stop k' st' =>
    simp only [leafS] at hl
    cases h2 : tidy d st' with
    | none => simp [h2] at hl
    | some st2 =>
      simp only [h2] at hl
      cases hl
      refine ⟨hob, fun ρ a w' hr' => ?_⟩
      obtain ⟨ρ', r'⟩ := tidy_rel (fun _ => rfl) h2 hr'
      exact hr ρ' a w' r'

theorem Goes.sound {k : List It} {st : St} (h : Goes P T fn (OutIs out) k st) : ∀ (ρ : Env) (a : Act) (w : World), Rel w0 (Gh.row row) ρ st.tmps st.heap a w → cont P (bodyPost P fn (EndS w0 row out)) k .normal a w := by
  induction h with
  | out D d n h ho hr => exact runS_sound hT hm h ho hr
  | «at» D d n h ho _ ih => exact runS_sound hT hm h ho ih
  | loop _ ih => exact fun ρ a w hr => wp_of_loopW (loopW_round (ih ρ a w hr))
  | lp _ ih => exact fun ρ a w hr => loopW_round (ih ρ a w hr)
  | conv hc _ ih =>
    intro ρ a w hr
    obtain ⟨ρ', hr'⟩ := hc _ _ (fun _ => rfl) ρ a w hr
    exact ih ρ' a w hr'
end

/-- less is kept -/
theorem Goes.tidy {P : Program} {T : Table} {fn : Func} {R : SRes → Prop} {k : List It} {st st' : St} (d : Td) (h : Eng.tidy d st = some st') (g : Goes P T fn R k st') : Goes P T fn R k st :=
  .conv (fun _ _ ha _ _ _ r => tidy_rel ha h r) g

/-- the cells of a place's first block -/
def setH (h : Heap) (d : Nat) (cs : List Cell) : Heap := match getL h d with
  | some (b :: l) => setL h d (⟨cs, b.ty, b.kd⟩ :: l)
  | _ => h
def cellsAt (h : Heap) (d : Nat) : List Cell := match getL h d with
  | some (b :: _) => b.cells
  | _ => []

/-- cells told otherwise -/
theorem Goes.cells {P : Program} {T : Table} {fn : Func} {R : SRes → Prop} {k : List It} {st : St} (d : Nat) (cs : List Cell) (h : ∀ ρ, denCs ρ (cellsAt st.heap d) = denCs ρ cs) (g : Goes P T fn R k ⟨st.tmps, setH st.heap d cs⟩) : Goes P T fn R k st := by
  refine .conv ?_ g
  intro w0 fb ha ρ a w r
  refine ⟨ρ, ?_⟩
  unfold cellsAt at h
  unfold setH
  cases hl : getL st.heap d with
  | none => simp only []; exact r
  | some l =>
    cases l with
    | nil => simp only []; exact r
    | cons b l =>
      simp only [hl] at h ⊢
      have hg : getB st.heap d 0 = some b := by unfold getB; rw [hl]; rfl
      have hset : setL st.heap d (⟨cs, b.ty, b.kd⟩ :: l) = setB st.heap d 0 ⟨cs, b.ty, b.kd⟩ := by unfold setB; rw [hl]; rfl
      rw [hset]
      refine { r.toHRel.ren (ρ' := ρ) (h' := setB st.heap d 0 ⟨cs, b.ty, b.kd⟩) (fun x i => some (x, i)) ?_ (fun x i d' j e => by cases e; exact ⟨rfl, rfl, rfl⟩) (fun x i e => nomatch e) ?_ (fun x i y k p e1 e2 => by cases e1; cases e2; exact ⟨rfl, rfl⟩) r.anc with tmps := r.tmps, len := r.len, defers := r.defers }
      · intro x i blk' hx
        rw [getB_setB hg] at hx
        by_cases hd : d = x ∧ 0 = i
        · rw [if_pos hd] at hx
          obtain ⟨rfl, rfl⟩ := hd
          cases hx
          exact ⟨d, 0, b, rfl, hg, rfl, rfl, fun l hl => by rw [← h]; exact hl⟩
        · rw [if_neg hd] at hx
          exact ⟨x, i, blk', rfl, hx, rfl, rfl, fun l hl => hl⟩
      · intro x i d' j blk' e hx
        cases e
        rw [getB_setB hg]
        by_cases hd : d = x ∧ 0 = i
        · exact ⟨_, if_pos hd⟩
        · exact ⟨blk', by rw [if_neg hd]; exact hx⟩

/-- a slot that tells of its own place's block -/
def ptv (d : Nat) : SV := .pv (.one (.ptr d 0 0))
/-- the loop in the first one -/
def hd2 (fn : Func) : Code × List It := match nav 100 (hd fn).1 (.lp (hd fn).1 :: (hd fn).2) with
  | some r => r
  | none => (.skip, [])
/-- the loop behind the first one -/
def hdB (fn : Func) : Code × List It := match (hd fn).2 with
  | .blk _ :: .code c :: k => match nav 100 c k with
    | some r => r
    | none => (.skip, [])
  | .code c :: k => match nav 100 c k with
    | some r => r
    | none => (.skip, [])
  | _ => (.skip, [])
/-- the next loop behind a place -/
def nextL : Nat → List It → Code × List It
  | 0, _ => (.skip, [])
  | _, [] => (.skip, [])
  | n + 1, .blk _ :: k => nextL n k
  | n + 1, .lp _ :: k => nextL n k
  | n + 1, .code c :: k => match nav 100 c k with
    | some r => r
    | none => nextL n k

end Eng

/- A program's operations carried out on values written out: what is known of functions that take or give slices. -/
namespace Eng
open Go Go.RowKit

/-- where a function begins whose one argument is a slice of whole numbers -/
def startA (ntmps : Nat) (k : IntKind) (l : List Int) (e : TypeId) (kd : Kd) : St :=
  ⟨.pv (.one (.sli 0 0 0 l.length none true)) :: List.replicate (ntmps - 1) (.tup []), [⟨[.arr k l], e, kd⟩] :: List.replicate (ntmps - 1) []⟩

theorem getB_startA {ntmps : Nat} {k : IntKind} {l : List Int} {e : TypeId} {kd : Kd} {d i : Nat} {blk : Blk} (h : getB (startA ntmps k l e kd).heap d i = some blk) : d = 0 ∧ i = 0 ∧ blk = ⟨[.arr k l], e, kd⟩ := by
  unfold getB startA at h
  cases d with
  | zero =>
    simp only [getL] at h
    cases i with
    | zero => simp only [getL] at h; cases h; exact ⟨rfl, rfl, rfl⟩
    | succ i => simp [getL] at h
  | succ d =>
    exfalso
    simp only [getL, getL_eq, List.getElem?_replicate] at h
    split at h
    · rename_i l' hl'
      split at hl'
      · cases hl'; simp at h
      · cases hl'
    · cases h

theorem startA_rel {ntmps : Nat} (_hn : 0 < ntmps) {k : IntKind} {l : List Int} {e : TypeId} {kd : Kd} {w : World} {v : Value} {b cap : Nat} {arr : Array Value} {row : Option Nat}
    (hv : v = .slice (some ⟨b, 0, none⟩) l.length cap) (hw : w.heap[b]? = some (.cells arr e (0, 0))) (ht : arr.toList.take l.length = l.map (.int k)) (hc : l.length ≤ cap)
    (hs : kd = .sl → arr.size = cap ∧ cap ≤ maxLen) (hng : kd ≠ .gs) (hlow : kd = .ro ∨ row = some b) :
    Rel w (Gh.row row) ⟨fun d i => if d = 0 ∧ i = 0 then some b else none, fun _ _ => cap, fun _ _ => none⟩ (startA ntmps k l e kd).tmps (startA ntmps k l e kd).heap { tmps := #[v] ++ Array.replicate (ntmps - 1) undef, defers := [] } w := by
  have pos : ∀ {d i b'}, (if d = 0 ∧ i = 0 then some b else none) = some b' → d = 0 ∧ i = 0 ∧ b' = b := by
    intro d i b' h
    by_cases hdi : d = 0 ∧ i = 0
    · rw [if_pos hdi] at h; cases h; exact ⟨hdi.1, hdi.2, rfl⟩
    · rw [if_neg hdi] at h; cases h
  have hg0 : getB (startA ntmps k l e kd).heap 0 0 = some ⟨[.arr k l], e, kd⟩ := rfl
  have h0 : HRel w (Gh.row row) ⟨fun d i => if d = 0 ∧ i = 0 then some b else none, fun _ _ => cap, fun _ _ => none⟩ (startA ntmps k l e kd).heap w := by
    refine ⟨?_, ?_, (fun d i v e => nomatch e), ?_, ?_, ?_, (fun _ _ e => nomatch e), ⟨rfl, rfl, rfl, Nat.le_refl _, fun _ _ _ => rfl⟩⟩
    · intro d i blk hg
      obtain ⟨rfl, rfl, rfl⟩ := getB_startA hg
      refine .inr ⟨b, by simp, block_lt hw, hng, .inr ⟨l.map (.int k), arr.toList.drop l.length, by simp [denCs, denC], ?_, ?_⟩⟩
      · have : arr = (l.map (Value.int k) ++ arr.toList.drop l.length).toArray := by
          apply Array.ext'
          have h := List.take_append_drop l.length arr.toList
          rw [ht] at h
          exact h.symm
        rw [← this]
        exact hw
      · intro hk
        obtain ⟨h1, h2⟩ := hs hk
        refine ⟨?_, h2⟩
        have h3 := congrArg List.length ht
        simp only [List.length_take, Array.length_toList, List.length_map] at h3
        simp only [List.length_append, List.length_map, List.length_drop, Array.length_toList]
        show _ = cap
        omega
    · intro d i b' hb
      obtain ⟨rfl, rfl, _⟩ := pos hb
      exact ⟨_, hg0⟩
    · intro d i d' i' b' h1 h2
      obtain ⟨rfl, rfl, _⟩ := pos h1
      obtain ⟨rfl, rfl, _⟩ := pos h2
      exact .inl ⟨rfl, rfl⟩
    · intro d i b' blk hb hg
      obtain ⟨rfl, rfl, rfl⟩ := pos hb
      obtain ⟨_, _, rfl⟩ := getB_startA hg
      rcases hlow with h | h
      · left; rw [h]; rfl
      · exact .inr (.inr h)
    · intro d i b' hb
      obtain ⟨rfl, rfl, rfl⟩ := pos hb
      exact block_lt hw
  refine { h0 with tmps := ?_, len := ?_, defers := rfl }
  · intro t s hsl
    cases t with
    | zero =>
      simp only [startA, getL, Option.some.injEq] at hsl
      subst hsl
      have h1 := relS_sli' (ρ := ⟨fun d i => if d = 0 ∧ i = 0 then some b else none, fun _ _ => cap, fun _ _ => none⟩) (d := 0) (i := 0) (off := 0) (n := l.length) (b := b) (c := none) (sym := true) (by simp) (by simpa using hc)
      have h2 : (none : Option Nat).getD (cap - 0) = cap := rfl
      simp only [h2] at h1
      rw [← hv] at h1
      have h3 : (#[v] ++ Array.replicate (ntmps - 1) undef)[0]? = some v := by
        rw [Array.getElem?_append_left (by simp)]; rfl
      simp only [Array.getD_eq_getD_getElem?, h3, Option.getD_some]
      exact h1
    | succ t =>
      have hsl : getL (List.replicate (ntmps - 1) (SV.tup [])) t = some s := hsl
      rw [getL_eq, List.getElem?_replicate] at hsl
      split at hsl
      · rename_i h2
        cases hsl
        have : (#[v] ++ Array.replicate (ntmps - 1) undef)[t + 1]? = some undef := by
          rw [Array.getElem?_append_right (by simp)]
          simp [h2]
        simp only [Array.getD_eq_getD_getElem?, this, Option.getD_some]
        exact ⟨[], rfl, rfl⟩
      · cases hsl
  · simp [startA]; omega

/-- of a slice of whole numbers -/
def spA (k : IntKind) (mode : SMode) (out : List Int → SRes) (pre : List Int → List Prop) : SlSpec where
  mode := mode
  res := fun p => match p with
    | .agg cs => match decInts k cs with
      | some l => some (out l, pre l)
      | none => none
    | .one _ => none
/-- of a plain value -/
def spD {α : Type} (A : Dec α) (out : α → SRes) (pre : α → List Prop) : SlSpec where
  mode := .plain
  res := fun p => match A.dec p with
    | some (x, pr) => some (out x, pre x ++ pr)
    | none => none

section
variable {P : Program} {T : Table} (hT : TableOK P T) (hm : P.follows .mixedOrders = true) {f : FuncId} {fn : Func} (hf : P.funcs[f]? = some fn) (hname : (fn.name == "runtime.NumGoroutine") = false) (hbody : fn.body.isSome = true) (hn : Nat.ble 1 fn.ntmps = true)
include hf hname hbody

theorem enters (v : Value) (w : World) : (callFunc f #[v]).run P w = .ok (.enter f #[v]) w := by
  have hb : fn.body.isNone = false := by cases hx : fn.body <;> simp_all
  simp only [callFunc, Sem.run_bind, run_program, Result.andThen_ok, hf, hname, Bool.false_eq_true, if_false, hb, Sem.run_pure]

omit hf hname in
theorem body_is : fn.body = some (bodyOf fn) := by
  unfold bodyOf
  cases h : fn.body with
  | none => rw [h] at hbody; cases hbody
  | some c => rfl

include hT hm hn

theorem spA_read {k : IntKind} {out : List Int → SRes} {pre : List Int → List Prop} (h : ∀ l e, AllP (pre l) → Goes P T fn (OutIs (out l)) [.code (bodyOf fn)] (startA fn.ntmps k l e .ro)) : SlOK P f (spA k .read out pre) := by
  intro p o pr hres hp ρ v w harg
  refine ⟨enters hf hname hbody v w, ?_⟩
  obtain ⟨cs, l, rfl, hc, b, cap, arr, ty, rfl, hw, ht, hcap⟩ := harg
  simp only [spA] at hres
  cases hd : decInts k cs with
  | none => simp [hd] at hres
  | some m =>
    simp only [hd] at hres
    cases hres
    rw [decInts_spec hd] at hc
    cases hc
    have hrel := startA_rel (Nat.le_of_ble_eq_true hn) (k := k) (l := m) (e := ty) (kd := .ro) (w := w) (row := none) (b := b) (cap := cap) rfl hw (by simpa using ht) (by simpa using hcap) (fun h => by cases h) Kd.noConfusion (.inl rfl)
    have hg : Calls P f #[.slice (some ⟨b, 0, none⟩) (m.map (Value.int k)).length cap] w (EndS w none (out m)) := by
      refine calls_of_wp hf (body_is hbody) ?_
      simp only [List.length_map]
      exact Goes.sound hT hm (w0 := w) (row := none) (h m ty hp) _ _ w hrel
    exact hg.mono fun e w' ⟨u, u1, u2, u3⟩ => ⟨u, u1, u2, u3 ρ⟩

theorem spA_own {k : IntKind} {e : TypeId} {out : List Int → SRes} {pre : List Int → List Prop} (h : ∀ l, AllP (pre l) → Goes P T fn (OutIs (out l)) [.code (bodyOf fn)] (startA fn.ntmps k l e .sl)) : SlOK P f (spA k (.own e) out pre) := by
  intro p o pr hres hp ρ v w harg
  refine ⟨enters hf hname hbody v w, ?_⟩
  obtain ⟨cs, l, b, rfl, hc, cap, arr, rfl, hw, ht, hcap, hm2, hsz⟩ := harg
  simp only [spA] at hres
  cases hd : decInts k cs with
  | none => simp [hd] at hres
  | some m =>
    simp only [hd] at hres
    cases hres
    rw [decInts_spec hd] at hc
    cases hc
    have hrel := startA_rel (Nat.le_of_ble_eq_true hn) (k := k) (l := m) (e := e) (kd := .sl) (w := w) (row := some b) (b := b) (cap := cap) rfl hw (by simpa using ht) (by simpa using hcap) (fun _ => ⟨hsz, hm2⟩) Kd.noConfusion (.inr rfl)
    have hg : Calls P f #[.slice (some ⟨b, 0, none⟩) (m.map (Value.int k)).length cap] w (EndS w (some b) (out m)) := by
      refine calls_of_wp hf (body_is hbody) ?_
      simp only [List.length_map]
      exact Goes.sound hT hm (w0 := w) (row := some b) (h m hp) _ _ w hrel
    exact hg.mono fun e w' ⟨u, u1, u2, u3⟩ => ⟨u, u1, u2, u3 ρ⟩

theorem spD_ok {α : Type} {A : Dec α} {out : α → SRes} {pre : α → List Prop} (h : ∀ x, AllP (pre x) → Goes P T fn (OutIs (out x)) [.code (bodyOf fn)] (start fn.ntmps [A.can x])) : SlOK P f (spD A out pre) := by
  intro p o pr hres hp ρ v w harg
  refine ⟨enters hf hname hbody v w, ?_⟩
  have harg : denP ρ p = some v := harg
  simp only [spD] at hres
  cases hd : A.dec p with
  | none => simp [hd] at hres
  | some xp =>
    obtain ⟨x, p'⟩ := xp
    simp only [hd] at hres
    cases hres
    obtain ⟨hp1, hp2⟩ := AllP_append hp
    have hv := A.law hd hp2 harg
    have hrel := start_rel (ρ0 := Env.no) rfl (ps := [A.can x]) (vals := [v]) (by simp only [pvVals, hv]) (Nat.le_of_ble_eq_true hn) (Gh.row none) (fun _ => rfl) w
    have hg : Calls P f #[v] w (EndS w none (out x)) := by
      refine calls_of_wp hf (body_is hbody) ?_
      exact Goes.sound hT hm (w0 := w) (row := none) (h x hp1) _ _ w hrel
    exact hg.mono fun e w' ⟨u, u1, u2, u3⟩ => ⟨u, u1, u2, u3 ρ⟩
end

end Eng

/- A program's operations carried out on values written out: functions with loops gone through from place to place, of plain arguments and results. -/
namespace Eng
open Go Go.RowKit

section
variable {P : Program} {T : Table} (hT : TableOK P T) (hm : P.follows .mixedOrders = true) {f : FuncId} {fn : Func} (hf : P.funcs[f]? = some fn) (hname : (fn.name == "runtime.NumGoroutine") = false) (hbody : fn.body.isSome = true)
include hf hbody hT hm

theorem goes_calls {ps : List PV} {vals : List Value} {sv : SV} {v : Value} (hps : pvVals ps = some vals) (hn : Nat.ble ps.length fn.ntmps = true) (hv : sv.val? = some v)
    (g : Goes P T fn (OutIs (.val sv)) [.code (bodyOf fn)] (start fn.ntmps ps)) (w : World) : Calls P f vals.toArray w fun e w' => e = .returned v ∧ Below w.heap.size w w' := by
  have hrel := start_rel (ρ0 := Env.no) rfl hps (Nat.le_of_ble_eq_true hn) (Gh.row none) (fun _ => rfl) w
  have hg : Calls P f vals.toArray w (EndS w none (.val sv)) := by
    refine calls_of_wp hf (body_is hbody) ?_
    exact Goes.sound hT hm (w0 := w) (row := none) g _ _ w hrel
  refine hg.mono ?_
  rintro e w' ⟨u, rfl, hg, hr⟩
  have hu := SV.val?_spec hv (hr Env.no)
  subst hu
  exact ⟨rfl, hg.os, hg.tape, hg.output, hg.size, fun k hk => hg.block k hk (by simp)⟩

include hname
theorem goes1_ok {α : Type} {A : Dec α} {res : α → SV × List Prop} (hn : Nat.ble 1 fn.ntmps = true) (hv : ∀ x, ∃ v, (res x).1.val? = some v)
    (g : ∀ x, AllP (res x).2 → Goes P T fn (OutIs (.val (res x).1)) [.code (bodyOf fn)] (start fn.ntmps [A.can x])) : SpecOK P f (spec1 A res) := by
  refine spec1_calls hf hname hbody fun x hx va ha => ?_
  obtain ⟨v, hv⟩ := hv x
  exact ⟨v, hv, fun w => goes_calls hT hm hf hbody (ps := [A.can x]) (vals := [va]) (by simp only [pvVals, ha]) hn hv (g x hx) w⟩
theorem goes2_ok {α β : Type} {A : Dec α} {B : Dec β} {res : α → β → SV × List Prop} (hn : Nat.ble 2 fn.ntmps = true) (hv : ∀ x y, ∃ v, (res x y).1.val? = some v)
    (g : ∀ x y, AllP (res x y).2 → Goes P T fn (OutIs (.val (res x y).1)) [.code (bodyOf fn)] (start fn.ntmps [A.can x, B.can y])) : SpecOK P f (spec2 A B res) := by
  refine spec2_calls hf hname hbody fun x y hx va vb ha hb => ?_
  obtain ⟨v, hv⟩ := hv x y
  exact ⟨v, hv, fun w => goes_calls hT hm hf hbody (ps := [A.can x, B.can y]) (vals := [va, vb]) (by simp only [pvVals, ha, hb]) hn hv (g x y hx) w⟩
theorem goes3_ok {α β γ : Type} {A : Dec α} {B : Dec β} {C : Dec γ} {res : α → β → γ → SV × List Prop} (hn : Nat.ble 3 fn.ntmps = true) (hv : ∀ x y z, ∃ v, (res x y z).1.val? = some v)
    (g : ∀ x y z, AllP (res x y z).2 → Goes P T fn (OutIs (.val (res x y z).1)) [.code (bodyOf fn)] (start fn.ntmps [A.can x, B.can y, C.can z])) : SpecOK P f (spec3 A B C res) := by
  refine spec3_calls hf hname hbody fun x y z hx va vb vc ha hb hc => ?_
  obtain ⟨v, hv⟩ := hv x y z
  exact ⟨v, hv, fun w => goes_calls hT hm hf hbody (ps := [A.can x, B.can y, C.can z]) (vals := [va, vb, vc]) (by simp only [pvVals, ha, hb, hc]) hn hv (g x y z hx) w⟩
end

end Eng

/- A program's operations carried out on values written out: functions whose arguments tell of blocks, as they are carried out. -/
namespace Eng
open Go Go.RowKit

/-- where a function begins that is told of blocks -/
def startG (ntmps : Nat) (ps : List PV) (gs : List Blk) : St :=
  ⟨ps.map SV.pv ++ List.replicate (ntmps - ps.length) (.tup []), gs :: List.replicate (ntmps - 1) []⟩

/-- places that cells tell of -/
def refsOf : List Cell → List (Nat × Nat)
  | [] => []
  | .ptr d i _ :: cs => (d, i) :: refsOf cs
  | .sli d i _ _ _ _ :: cs => (d, i) :: refsOf cs
  | _ :: cs => refsOf cs
def refsPs : List PV → List (Nat × Nat)
  | [] => []
  | p :: ps => refsOf p.cells ++ refsPs ps
def memP (p : Nat × Nat) : List (Nat × Nat) → Bool
  | [] => false
  | q :: l => (Nat.beq q.1 p.1 && Nat.beq q.2 p.2) || memP p l
/-- all places that are told of, also by others -/
def closeP (h : Heap) : Nat → List (Nat × Nat) → List (Nat × Nat) → List (Nat × Nat)
  | _, [], os => os
  | 0, _ :: _, os => os
  | f + 1, p :: q, os => cond (memP p os) (closeP h f q os) (match getB h p.1 p.2 with
    | some b => closeP h f (q ++ refsOf b.cells) (os ++ [p])
    | none => os)
def findP (p : Nat × Nat) : List (Nat × Nat) → Nat → Option Nat
  | [], _ => none
  | q :: l, n => cond (Nat.beq q.1 p.1 && Nat.beq q.2 p.2) (some n) (findP p l (n + 1))
/-- told anew: places by their numbers -/
def colC (os : List (Nat × Nat)) : Cell → Option Cell
  | .ptr d i off => match findP (d, i) os 0 with
    | some j => some (.ptr 0 j off)
    | none => none
  | .sli d i off n c sym => match findP (d, i) os 0 with
    | some j => some (.sli 0 j off n c sym)
    | none => none
  | .gs _ _ _ _ _ => none
  | .gp _ _ _ => none
  | c => some c
def colCs (os : List (Nat × Nat)) : List Cell → Option (List Cell)
  | [] => some []
  | c :: cs => match colC os c, colCs os cs with
    | some c', some cs' => some (c' :: cs')
    | _, _ => none
def colP (os : List (Nat × Nat)) : PV → Option PV
  | .one c => match colC os c with
    | some c' => some (.one c')
    | none => none
  | .agg cs => match colCs os cs with
    | some cs' => some (.agg cs')
    | none => none
def colPs (os : List (Nat × Nat)) : List PV → Option (List PV)
  | [] => some []
  | p :: ps => match colP os p, colPs os ps with
    | some p', some ps' => some (p' :: ps')
    | _, _ => none
/-- the blocks of places, told anew: none that is read alone -/
def colBs (h : Heap) (os : List (Nat × Nat)) : List (Nat × Nat) → Option (List Blk)
  | [] => some []
  | p :: l => match getB h p.1 p.2 with
    | some b => cond b.kd.sees none (match colCs os b.cells, colBs h os l with
      | some cs, some bs => some (⟨cs, b.ty, b.kd⟩ :: bs)
      | _, _ => none)
    | none => none
def nodupB : List (Nat × Nat) → Bool
  | [] => true
  | p :: l => !memP p l && nodupB l
def wsAt (js : List Nat) : List (Nat × Nat) := js.map fun j => (0, j)
def collect (h : Heap) (js : List Nat) (ps : List PV) : Option (List PV × List Blk) :=
  let os := closeP h 60 (refsPs ps) (wsAt js)
  cond (nodupB os) (match colPs os ps, colBs h os os with
    | some rs, some gs => some (rs, gs)
    | _, _ => none) none
def leafG (P : Program) (fn : Func) (js : List Nat) (out : Out) (ob : List Prop) : Option ((List PV × List Blk) × List Prop) :=
  match outSt out with
  | some st => match resPs P st fn.results.toList with
    | some ps => match collect st.heap js ps with
      | some r => some (r, ob)
      | none => none
    | none => none
  | none => none
/-- what a function comes to that is told of blocks, those with the numbers js written through -/
def callG (P : Program) (T : Table) (n : Nat) (fn : Func) (js : List Nat) (ps : List PV) (gs : List Blk) : Option ((List PV × List Blk) × List Prop) :=
  match fn.body with
  | some c => exec P T (fun _ => true) (leafG P fn js) n [.code c] (startG fn.ntmps ps gs) []
  | none => none

theorem memP_iff {p : Nat × Nat} : ∀ {l : List (Nat × Nat)}, memP p l = true ↔ p ∈ l
  | [] => by simp [memP]
  | q :: l => by
    simp only [memP, Bool.or_eq_true, Bool.and_eq_true, List.mem_cons, memP_iff (l := l)]
    constructor
    · rintro (⟨h1, h2⟩ | h)
      · exact .inl (Prod.ext (Nat.eq_of_beq_eq_true h1).symm (Nat.eq_of_beq_eq_true h2).symm)
      · exact .inr h
    · rintro (rfl | h)
      · exact .inl ⟨Nat.beq_refl _, Nat.beq_refl _⟩
      · exact .inr h
theorem nodupB_spec : ∀ {l : List (Nat × Nat)}, nodupB l = true → l.Nodup
  | [], _ => List.nodup_nil
  | p :: l, h => by
    simp only [nodupB, Bool.and_eq_true, Bool.not_eq_true'] at h
    refine List.nodup_cons.2 ⟨fun hm => ?_, nodupB_spec h.2⟩
    rw [memP_iff.2 hm] at h
    cases h.1
theorem findP_spec {p : Nat × Nat} : ∀ {l : List (Nat × Nat)} {n j : Nat}, findP p l n = some j → n ≤ j ∧ getL l (j - n) = some p
  | [], n, j, h => nomatch h
  | q :: l, n, j, h => by
    simp only [findP] at h
    cases hb : (Nat.beq q.1 p.1 && Nat.beq q.2 p.2) with
    | true =>
      rw [hb] at h
      cases h
      obtain ⟨h1, h2⟩ := Bool.and_eq_true_iff.1 hb
      refine ⟨Nat.le_refl _, ?_⟩
      rw [Nat.sub_self]
      show some q = some p
      rw [Prod.ext (Nat.eq_of_beq_eq_true h1) (Nat.eq_of_beq_eq_true h2)]
    | false =>
      rw [hb] at h
      obtain ⟨h1, h2⟩ := findP_spec h
      refine ⟨by omega, ?_⟩
      rw [show j - n = j - (n + 1) + 1 by omega]
      exact h2

/-- places by their numbers -/
def Cenv (ρ : Env) (os : List (Nat × Nat)) : Env where
  pos x j := if x = 0 then (getL os j).bind (fun p => ρ p.1 p.2) else none
  cap _ j := match getL os j with
    | some p => ρ.cap p.1 p.2
    | none => 0
  sv x j := if x = 0 then (getL os j).bind (fun p => ρ.sv p.1 p.2) else none
theorem Cenv_at {ρ : Env} {os : List (Nat × Nat)} {j : Nat} {p : Nat × Nat} (h : getL os j = some p) : (Cenv ρ os) 0 j = ρ p.1 p.2 ∧ (Cenv ρ os).cap 0 j = ρ.cap p.1 p.2 ∧ (Cenv ρ os).sv 0 j = ρ.sv p.1 p.2 := by
  refine ⟨?_, ?_, ?_⟩
  · show (if 0 = 0 then (getL os j).bind _ else none) = _
    rw [if_pos rfl, h]; rfl
  · show (match getL os j with | some p => ρ.cap p.1 p.2 | none => 0) = _
    rw [h]
  · show (if 0 = 0 then (getL os j).bind _ else none) = _
    rw [if_pos rfl, h]; rfl

theorem colC_den {ρ : Env} {os : List (Nat × Nat)} {c c' : Cell} {l : List Value} (h : colC os c = some c') (e : denC ρ c = some l) : denC (Cenv ρ os) c' = some l := by
  cases c with
  | ptr d i off =>
    simp only [colC] at h
    cases hf : findP (d, i) os 0 with
    | none => simp [hf] at h
    | some j =>
      simp only [hf] at h
      cases h
      obtain ⟨_, h2⟩ := findP_spec hf
      rw [Nat.sub_zero] at h2
      obtain ⟨e1, _⟩ := Cenv_at (ρ := ρ) h2
      simp only [denC] at e ⊢
      rw [e1]
      exact e
  | sli d i off n cp sym =>
    simp only [colC] at h
    cases hf : findP (d, i) os 0 with
    | none => simp [hf] at h
    | some j =>
      simp only [hf] at h
      cases h
      obtain ⟨_, h2⟩ := findP_spec hf
      rw [Nat.sub_zero] at h2
      obtain ⟨e1, e2, _⟩ := Cenv_at (ρ := ρ) h2
      simp only [denC] at e ⊢
      rw [e1, e2]
      exact e
  | gs d i n cp sym => cases h
  | gp d i k => cases h
  | val v => cases h; exact e
  | dg1 k w x i => cases h; exact e
  | fe x => cases h; exact e
  | nm x => cases h; exact e
  | dig k w x n => cases h; exact e
  | arr k l => cases h; exact e
theorem colCs_den {ρ : Env} {os : List (Nat × Nat)} : ∀ {cs cs' : List Cell} {l : List Value}, colCs os cs = some cs' → denCs ρ cs = some l → denCs (Cenv ρ os) cs' = some l
  | [], cs', l, h, e => by simp only [colCs] at h; cases h; exact e
  | c :: cs, cs', l, h, e => by
    simp only [colCs] at h
    cases h1 : colC os c with
    | none => simp [h1] at h
    | some c' =>
      cases h2 : colCs os cs with
      | none => simp [h1, h2] at h
      | some cs2 =>
        simp only [h1, h2] at h
        cases h
        obtain ⟨v, vs, e1, e2, rfl⟩ := denCs_cons e
        exact denCs_mk (colC_den h1 e1) (colCs_den h2 e2)
theorem colP_den {ρ : Env} {os : List (Nat × Nat)} {p p' : PV} {v : Value} (h : colP os p = some p') (e : denP ρ p = some v) : denP (Cenv ρ os) p' = some v := by
  cases p with
  | one c =>
    simp only [colP] at h
    cases h1 : colC os c with
    | none => simp [h1] at h
    | some c' => simp only [h1] at h; cases h; exact denP_one' (colC_den h1 (denP_one e))
  | agg cs =>
    simp only [colP] at h
    cases h1 : colCs os cs with
    | none => simp [h1] at h
    | some cs' =>
      simp only [h1] at h
      cases h
      simp only [denP] at e ⊢
      cases h2 : denCs ρ cs with
      | none => simp [h2] at e
      | some l => simp only [h2] at e; rw [colCs_den h1 h2]; exact e
theorem colPs_den {ρ : Env} {os : List (Nat × Nat)} : ∀ {ps ps' : List PV} {l : List Value}, colPs os ps = some ps' → denPs ρ ps = some l → denPs (Cenv ρ os) ps' = some l
  | [], ps', l, h, e => by simp only [colPs] at h; cases h; exact e
  | p :: ps, ps', l, h, e => by
    simp only [colPs] at h
    cases h1 : colP os p with
    | none => simp [h1] at h
    | some p' =>
      cases h2 : colPs os ps with
      | none => simp [h1, h2] at h
      | some ps2 =>
        simp only [h1, h2] at h
        cases h
        simp only [denPs] at e ⊢
        cases e1 : denP ρ p with
        | none => simp [e1] at e
        | some v =>
          cases e2 : denPs ρ ps with
          | none => simp [e1, e2] at e
          | some vs => simp only [e1, e2] at e; rw [colP_den h1 e1, colPs_den h2 e2]; exact e
theorem colPs_len {os : List (Nat × Nat)} : ∀ {ps ps' : List PV}, colPs os ps = some ps' → ps'.length = ps.length
  | [], ps', h => by simp only [colPs] at h; cases h; rfl
  | p :: ps, ps', h => by
    simp only [colPs] at h
    cases h1 : colP os p with
    | none => simp [h1] at h
    | some p' =>
      cases h2 : colPs os ps with
      | none => simp [h1, h2] at h
      | some ps2 => simp only [h1, h2] at h; cases h; simp [colPs_len h2]
theorem colPs_tup {ρ : Env} {os : List (Nat × Nat)} {ps ps' : List PV} {u : Value} (h : colPs os ps = some ps') (e : relS ρ (tupOf ps) u) : relS (Cenv ρ os) (tupOf ps') u := by
  have hl := colPs_len h
  have gen : (∃ l, denPs ρ ps = some l ∧ u = .tuple l.toArray) → ∃ l, denPs (Cenv ρ os) ps' = some l ∧ u = .tuple l.toArray := fun ⟨l, h1, h2⟩ => ⟨l, colPs_den h h1, h2⟩
  match ps, ps', hl, h, e with
  | [], [], _, h, e => exact gen e
  | [p], [p'], _, h, e =>
    simp only [colPs] at h
    cases h1 : colP os p with
    | none => simp [h1] at h
    | some p2 =>
      simp only [h1] at h
      cases h
      exact colP_den h1 e
  | p :: q :: ps, p' :: q' :: ps', _, h, e => exact gen e
theorem colBs_at {h : Heap} {os : List (Nat × Nat)} : ∀ {l : List (Nat × Nat)} {bs : List Blk}, colBs h os l = some bs → bs.length = l.length ∧ ∀ j b', getL bs j = some b' → ∃ p b, getL l j = some p ∧ getB h p.1 p.2 = some b ∧ b.kd.sees = false ∧ colCs os b.cells = some b'.cells ∧ b'.ty = b.ty ∧ b'.kd = b.kd
  | [], bs, e => by simp only [colBs] at e; cases e; exact ⟨rfl, fun j b' hj => nomatch hj⟩
  | p :: l, bs, e => by
    simp only [colBs] at e
    cases h1 : getB h p.1 p.2 with
    | none => simp [h1] at e
    | some b =>
      simp only [h1] at e
      cases h2 : b.kd.sees with
      | true => rw [h2] at e; cases e
      | false =>
        rw [h2] at e
        simp only [cond_false] at e
        cases h3 : colCs os b.cells with
        | none => simp [h3] at e
        | some cs =>
          cases h4 : colBs h os l with
          | none => simp [h3, h4] at e
          | some bs2 =>
            simp only [h3, h4] at e
            cases e
            obtain ⟨i1, i2⟩ := colBs_at h4
            refine ⟨by simp [i1], fun j b' hj => ?_⟩
            cases j with
            | zero =>
              simp only [getL, Option.some.injEq] at hj
              subst hj
              exact ⟨p, b, rfl, h1, h2, h3, rfl, rfl⟩
            | succ j => exact i2 j b' hj

theorem closeP_keeps {h : Heap} : ∀ (f : Nat) (q os : List (Nat × Nat)) (k : Nat) (p : Nat × Nat), getL os k = some p → getL (closeP h f q os) k = some p
  | 0, [], os, k, p, e => e
  | 0, _ :: _, os, k, p, e => e
  | f + 1, [], os, k, p, e => e
  | f + 1, x :: q, os, k, p, e => by
    simp only [closeP]
    cases memP x os with
    | true => exact closeP_keeps f q os k p e
    | false =>
      simp only [cond_false]
      cases getB h x.1 x.2 with
      | none => exact e
      | some b => exact closeP_keeps f _ _ k p (by rw [getL_append, if_pos (getL_some_lt e)]; exact e)

/-- what is left, by numbers -/
theorem collect_spec {w0 : World} {fb : Gh} {ρ : Env} {h : Heap} {w : World} (r : HRel w0 fb ρ h w) {js : List Nat} {ps rs : List PV} {gs : List Blk} (e : collect h js ps = some (rs, gs)) {u : Value} (hu : relS ρ (tupOf ps) u) :
    ∃ ρ', relS ρ' (tupOf rs) u ∧ HRel w0 ⟨fb.fb, fun _ => none⟩ ρ' [gs] w ∧ (∀ k j, getL js k = some j → ρ' 0 k = ρ 0 j ∧ ρ'.cap 0 k = ρ.cap 0 j) ∧ ∀ k b, ρ' 0 k = some b → w0.heap.size ≤ b ∨ fb b := by
  unfold collect at e
  simp only [] at e
  cases hn : nodupB (closeP h 60 (refsPs ps) (wsAt js)) with
  | false => rw [hn] at e; cases e
  | true =>
    rw [hn] at e
    simp only [cond_true] at e
    generalize hos : closeP h 60 (refsPs ps) (wsAt js) = os at *
    cases h1 : colPs os ps with
    | none => simp [h1] at e
    | some rs' =>
      cases h2 : colBs h os os with
      | none => simp [h1, h2] at e
      | some gs' =>
        simp only [h1, h2] at e
        cases e
        have nd := nodupB_spec hn
        obtain ⟨b1, b2⟩ := colBs_at h2
        have cpos : ∀ {x j b}, (Cenv ρ os) x j = some b → x = 0 ∧ ∃ p, getL os j = some p ∧ ρ p.1 p.2 = some b := by
          intro x j b hb
          have hb : (if x = 0 then (getL os j).bind (fun p => ρ p.1 p.2) else none) = some b := hb
          by_cases hx : x = 0
          · rw [if_pos hx] at hb
            cases hj : getL os j with
            | none => rw [hj] at hb; cases hb
            | some p => rw [hj] at hb; exact ⟨hx, p, rfl, hb⟩
          · rw [if_neg hx] at hb; cases hb
        have r0 : HRel w0 ⟨fb.fb, fun _ => none⟩ ρ h w := ⟨r.at_, r.dom, r.doms, r.inj, r.low, r.lt, (fun _ _ e => nomatch e), r.keep⟩
        refine ⟨Cenv ρ os, colPs_tup h1 hu, ?_, fun k j hk => ?_, fun k b hb => ?_⟩
        · refine r0.ren (ρ' := Cenv ρ os) (h' := [gs]) (fun x i => if x = 0 then getL os i else none) ?_ ?_ ?_ ?_ ?_ (fun _ _ e => nomatch e)
          · intro x i blk' hg
            have hg' := hg
            unfold getB at hg'
            cases x with
            | succ x => simp [getL] at hg'
            | zero =>
              have hg' : getL gs i = some blk' := hg'
              obtain ⟨p, b, q1, q2, q3, q4, q5, q6⟩ := b2 i blk' hg'
              exact ⟨p.1, p.2, b, by rw [if_pos rfl, q1], q2, q6, q5, fun l hl => colCs_den q4 hl⟩
          · intro x i d j hs
            by_cases hx : x = 0
            · subst hx
              rw [if_pos rfl] at hs
              exact Cenv_at hs
            · rw [if_neg hx] at hs; cases hs
          · intro x i hs
            by_cases hx : x = 0
            · subst hx
              rw [if_pos rfl] at hs
              refine ⟨?_, ?_⟩
              · show (if 0 = 0 then (getL os i).bind _ else none) = none
                rw [hs]; rfl
              · show (if 0 = 0 then (getL os i).bind _ else none) = none
                rw [hs]; rfl
            · exact ⟨if_neg hx, if_neg hx⟩
          · intro x i d j blk hs hg
            by_cases hx : x = 0
            · subst hx
              rw [if_pos rfl] at hs
              have hlt := getL_some_lt hs
              exact ⟨gs[i]'(by omega), by show getL gs i = _; rw [getL_eq]; exact List.getElem?_eq_getElem (by omega)⟩
            · rw [if_neg hx] at hs; cases hs
          · intro x i y k p e1 e2
            by_cases hx : x = 0
            · by_cases hy : y = 0
              · rw [if_pos hx] at e1
                rw [if_pos hy] at e2
                refine ⟨by omega, ?_⟩
                rw [getL_eq] at e1 e2
                obtain ⟨l1, m1⟩ := List.getElem?_eq_some_iff.1 e1
                obtain ⟨l2, m2⟩ := List.getElem?_eq_some_iff.1 e2
                have hpw := List.pairwise_iff_getElem.1 nd
                rcases Nat.lt_trichotomy i k with hlt | hlt | hlt
                · exact absurd (m1.trans m2.symm) (hpw i k l1 l2 hlt)
                · exact hlt
                · exact absurd (m2.trans m1.symm) (hpw k i l2 l1 hlt)
              · rw [if_neg hy] at e2; cases e2
            · rw [if_neg hx] at e1; cases e1
        · have hk' : getL (wsAt js) k = some (0, j) := by
            unfold wsAt
            rw [getL_eq] at hk ⊢
            rw [List.getElem?_map, hk]
            rfl
          have := closeP_keeps 60 (refsPs ps) (wsAt js) k (0, j) hk' (h := h)
          rw [hos] at this
          obtain ⟨e1, e2, _⟩ := Cenv_at (ρ := ρ) this
          exact ⟨e1, e2⟩
        · obtain ⟨_, p, hp, hb'⟩ := cpos hb
          have hlt := getL_some_lt hp
          obtain ⟨p', b', q1, q2, q3, _⟩ := b2 k (gs[k]'(by omega)) (by rw [getL_eq]; exact List.getElem?_eq_getElem (by omega))
          rw [hp] at q1
          cases q1
          rcases r.low _ _ _ _ hb' q2 with e | e
          · rw [q3] at e; cases e
          · exact e

theorem wjs_at : ∀ (gs : List Blk) (n j : Nat), j ∈ wjs gs n → ∃ blk, getL gs (j - n) = some blk ∧ blk.kd.wr = true
  | [], n, j, h => nomatch h
  | b :: gs, n, j, h => by
    have low : ∀ (l : List Blk) (m i : Nat), i ∈ wjs l m → m ≤ i := by
      intro l
      induction l with
      | nil => intro m i h; exact nomatch h
      | cons x l ih =>
        intro m i h
        simp only [wjs] at h
        cases hx : x.kd.wr with
        | true =>
          rw [hx] at h
          rcases List.mem_cons.1 h with rfl | h
          · exact Nat.le_refl _
          · exact Nat.le_of_succ_le (ih _ _ h)
        | false => rw [hx] at h; exact Nat.le_of_succ_le (ih _ _ h)
    simp only [wjs] at h
    have tail : j ∈ wjs gs (n + 1) → ∃ blk, getL (b :: gs) (j - n) = some blk ∧ blk.kd.wr = true := by
      intro h
      have hl := low _ _ _ h
      obtain ⟨blk, h1, h2⟩ := wjs_at gs (n + 1) j h
      exact ⟨blk, by rw [show j - n = j - (n + 1) + 1 by omega]; exact h1, h2⟩
    cases hb : b.kd.wr with
    | true =>
      rw [hb] at h
      rcases List.mem_cons.1 h with rfl | h
      · exact ⟨b, by rw [Nat.sub_self]; rfl, hb⟩
      · exact tail h
    | false => rw [hb] at h; exact tail h

theorem getB_startG {ntmps : Nat} {ps : List PV} {gs : List Blk} {d i : Nat} : getB (startG ntmps ps gs).heap d i = getB [gs] d i := by
  unfold getB startG
  cases d with
  | zero => rfl
  | succ d =>
    simp only [getL, getL_eq, List.getElem?_replicate]
    by_cases h : d < ntmps - 1
    · rw [if_pos h]; rfl
    · rw [if_neg h]
theorem HRel.ext {w0 : World} {fb : Gh} {ρ : Env} {h h' : Heap} {w : World} (r : HRel w0 fb ρ h w) (e : ∀ d i, getB h' d i = getB h d i) : HRel w0 fb ρ h' w := by
  have hd : ∀ {d i}, deadAt h d i → deadAt h' d i := fun ⟨b, q1, q2⟩ => ⟨b, by rw [e]; exact q1, q2⟩
  have hs : ∀ {d i}, seesAt h d i → seesAt h' d i := fun ⟨b, q1, q2⟩ => ⟨b, by rw [e]; exact q1, q2⟩
  refine ⟨fun d i blk hg => r.at_ d i blk (by rw [← e]; exact hg), fun d i b hb => ?_, fun d i v hb => ?_, fun d i d' i' b h1 h2 => ?_, fun d i b blk hb hg => r.low d i b blk hb (by rw [← e]; exact hg), r.lt, r.anc, r.keep⟩
  · obtain ⟨blk, q⟩ := r.dom d i b hb
    exact ⟨blk, by rw [e]; exact q⟩
  · obtain ⟨blk, q⟩ := r.doms d i v hb
    exact ⟨blk, by rw [e]; exact q⟩
  · rcases r.inj d i d' i' b h1 h2 with q | q | q | ⟨q, q'⟩
    · exact .inl q
    · exact .inr (.inl (hd q))
    · exact .inr (.inr (.inl (hd q)))
    · exact .inr (.inr (.inr ⟨hs q, hs q'⟩))

/-- a frame at its start -/
theorem startG_rel {w : World} {fb : Gh} {ρ : Env} {ntmps : Nat} {ps : List PV} {gs : List Blk} {vals : List Value} (hn : ps.length ≤ ntmps) (hd : denPs ρ ps = some vals) (r : HRel w fb ρ [gs] w) :
    Rel w fb ρ (startG ntmps ps gs).tmps (startG ntmps ps gs).heap { tmps := vals.toArray ++ Array.replicate (ntmps - vals.toArray.size) undef, defers := [] } w := by
  have hl : vals.length = ps.length := by
    clear hn r
    induction ps generalizing vals with
    | nil => simp only [denPs] at hd; cases hd; rfl
    | cons p ps ih =>
      simp only [denPs] at hd
      cases h1 : denP ρ p with
      | none => simp [h1] at hd
      | some v =>
        cases h2 : denPs ρ ps with
        | none => simp [h1, h2] at hd
        | some vs =>
          simp only [h1, h2] at hd
          cases hd
          simp [ih h2]
  refine { r.ext (h' := (startG ntmps ps gs).heap) (fun d i => getB_startG) with tmps := ?_, len := ?_, defers := rfl }
  · intro t s hs
    simp only [startG, getL_eq] at hs
    rw [List.getElem?_append] at hs
    split at hs
    · rename_i ht
      simp only [List.length_map] at ht
      simp only [List.getElem?_map, Option.map_eq_some_iff] at hs
      obtain ⟨p, hp, rfl⟩ := hs
      obtain ⟨v, v1, v2⟩ := getL_denPs hd (by rw [getL_eq]; exact hp)
      have : (vals.toArray ++ Array.replicate (ntmps - vals.toArray.size) undef)[t]? = some v := by
        rw [Array.getElem?_append_left (by simp; omega)]
        simpa using v1
      simp only [Array.getD_eq_getD_getElem?, this, Option.getD_some]
      exact v2
    · rename_i ht
      simp only [List.length_map] at ht hs
      rw [List.getElem?_replicate] at hs
      split at hs
      · rename_i h2
        cases hs
        have : (vals.toArray ++ Array.replicate (ntmps - vals.toArray.size) undef)[t]? = some undef := by
          rw [Array.getElem?_append_right (by simp; omega)]
          rw [Array.getElem?_replicate, if_pos (by simp; omega)]
        simp only [Array.getD_eq_getD_getElem?, this, Option.getD_some]
        exact ⟨[], rfl, rfl⟩
      · cases hs
  · simp [startG, hl]

/-- one result as another one: values and blocks -/
structure SameG (rs rs' : List PV) (gs gs' : List Blk) : Prop where
  vals : ∀ ρ u, relS ρ (tupOf rs) u → relS ρ (tupOf rs') u
  len : gs.length = gs'.length
  blks : ∀ j b b', getL gs j = some b → getL gs' j = some b' → b'.kd = b.kd ∧ b'.ty = b.ty ∧ ∀ ρ l, denCs ρ b.cells = some l → denCs ρ b'.cells = some l
theorem SameG.rfl' (rs : List PV) (gs : List Blk) : SameG rs rs gs gs := ⟨fun _ _ h => h, rfl, fun j b b' h1 h2 => by rw [h1] at h2; cases h2; exact ⟨rfl, rfl, fun _ _ h => h⟩⟩

theorem same_rel {w0 w : World} {fb : Gh} {ρ : Env} {rs rs' : List PV} {gs gs' : List Blk} (s : SameG rs rs' gs gs') (r : HRel w0 fb ρ [gs] w) : HRel w0 fb ρ [gs'] w := by
  refine r.ren (ρ' := ρ) (h' := [gs']) (fun x i => some (x, i)) ?_ (fun x i d j e => by cases e; exact ⟨rfl, rfl, rfl⟩) (fun x i e => nomatch e) ?_ (fun x i y k p e1 e2 => by cases e1; cases e2; exact ⟨rfl, rfl⟩) r.anc
  · intro x i b' hb'
    obtain ⟨rfl, h1⟩ := getB_one hb'
    have hlt := getL_some_lt h1
    have h2 : getL gs i = some (gs[i]'(by rw [s.len]; exact hlt)) := by rw [getL_eq]; exact List.getElem?_eq_getElem _
    obtain ⟨k1, k2, k3⟩ := s.blks i _ b' h2 h1
    exact ⟨0, i, _, rfl, h2, k1, k2, fun l hl => k3 ρ l hl⟩
  · intro x i d j blk e hg
    cases e
    obtain ⟨rfl, h1⟩ := getB_one hg
    have hlt := getL_some_lt h1
    exact ⟨gs'[i]'(by rw [← s.len]; exact hlt), by show getL gs' i = _; rw [getL_eq]; exact List.getElem?_eq_getElem _⟩

section
variable {P : Program} {T : Table} (hT : TableOK P T) (hm : P.follows .mixedOrders = true) {f : FuncId} {fn : Func} (hf : P.funcs[f]? = some fn) (hname : (fn.name == "runtime.NumGoroutine") = false) (hbody : fn.body.isSome = true)
include hT hm hf hname hbody

/-- A FUNCTION THAT IS TOLD OF BLOCKS, by the reckoning of its text. -/
theorem callG_sound {n : Nat} {js : List Nat} {ps : List PV} {gs : List Blk} {rs : List PV} {gs' : List Blk} {ob : List Prop} (he : callG P T n fn js ps gs = some ((rs, gs'), ob)) (hob : AllP ob) (hn : Nat.ble ps.length fn.ntmps = true) (hjs : js = wjs gs 0)
    {ρ : Env} {vals : List Value} {w : World} {fb : Nat → Prop} (hd : denPs ρ ps = some vals) (r : HRel w ⟨fb, fun _ => none⟩ ρ [gs] w) :
    (callFunc f vals.toArray).run P w = .ok (.enter f vals.toArray) w ∧ Calls P f vals.toArray w fun e w' => ∃ u ρ', e = .returned u ∧ relS ρ' (tupOf rs) u ∧ HRel w ⟨fb, fun _ => none⟩ ρ' [gs'] w' ∧
      (∀ k j, getL (wjs gs 0) k = some j → ρ' 0 k = ρ 0 j ∧ ρ'.cap 0 k = ρ.cap 0 j) ∧ ∀ k b, (wjs gs 0).length ≤ k → ρ' 0 k = some b → w.heap.size ≤ b ∨ fb b := by
  refine ⟨?_, ?_⟩
  · have hb : fn.body.isNone = false := by cases hx : fn.body <;> simp_all
    simp only [callFunc, Sem.run_bind, run_program, Result.andThen_ok, hf, hname, Bool.false_eq_true, if_false, hb, Sem.run_pure]
  · unfold callG at he
    cases hb : fn.body with
    | none => simp [hb] at he
    | some c =>
      simp only [hb] at he
      -- the blocks' places are held fast
      let anc : Nat → Option (Nat × Nat) := fun j => (ρ 0 j).map fun b => (b, ρ.cap 0 j)
      have ranc : HRel w ⟨fb, anc⟩ ρ [gs] w := ⟨r.at_, r.dom, r.doms, r.inj, r.low, r.lt, (fun j p e => by
        have e : (ρ 0 j).map (fun b => (b, ρ.cap 0 j)) = some p := e
        cases hb : ρ 0 j with
        | none => rw [hb] at e; cases e
        | some b => rw [hb] at e; cases e; exact ⟨rfl, rfl⟩), r.keep⟩
      have hstart := startG_rel (fb := ⟨fb, anc⟩) (Nat.le_of_ble_eq_true hn) hd ranc
      refine calls_of_wp hf hb ?_
      have key := (exec_sound (w0 := w) (fb := ⟨fb, anc⟩) hT hm (Q := bodyPost P fn fun e w' => ∃ u ρ', e = .returned u ∧ relS ρ' (tupOf rs) u ∧ HRel w ⟨fb, fun _ => none⟩ ρ' [gs'] w' ∧
        (∀ k j, getL (wjs gs 0) k = some j → ρ' 0 k = ρ 0 j ∧ ρ'.cap 0 k = ρ.cap 0 j) ∧ ∀ k b, (wjs gs 0).length ≤ k → ρ' 0 k = some b → w.heap.size ≤ b ∨ fb b) ?_ n [.code c] _ [] he).2 ρ _ w hstart
      · exact wp_mono key fun e a w' hq => by cases e <;> exact hq
      · intro out ob' hl
        unfold leafG at hl
        cases ho : outSt out with
        | none => simp [ho] at hl
        | some st =>
          simp only [ho] at hl
          cases h2 : resPs P st fn.results.toList with
          | none => simp [h2] at hl
          | some qs =>
            simp only [h2] at hl
            cases h3 : collect st.heap js qs with
            | none => simp [h3] at hl
            | some rg =>
              simp only [h3] at hl
              cases hl
              refine ⟨hob, ?_⟩
              have fin : ∀ ρE a w', Rel w ⟨fb, anc⟩ ρE st.tmps st.heap a w' → a.defers = [] ∧ ∃ u, (results fn a.tmps).run P w' = .ok u w' ∧ ∃ u' ρ', Ending.returned u = .returned u' ∧ relS ρ' (tupOf rs) u' ∧ HRel w ⟨fb, fun _ => none⟩ ρ' [gs'] w' ∧
                  (∀ k j, getL (wjs gs 0) k = some j → ρ' 0 k = ρ 0 j ∧ ρ'.cap 0 k = ρ.cap 0 j) ∧ ∀ k b, (wjs gs 0).length ≤ k → ρ' 0 k = some b → w.heap.size ≤ b ∨ fb b := by
                intro ρE a w' hr
                refine ⟨hr.defers, ?_⟩
                obtain ⟨u, u1, u2⟩ := run_results hr h2
                obtain ⟨ρ', p1, p2, p3, p4⟩ := collect_spec hr.toHRel h3 u1
                refine ⟨u, u2, u, ρ', rfl, p1, p2, fun k j hk => ?_, fun k b _ hb => p4 k b hb⟩
                rw [← hjs] at hk
                obtain ⟨q1, q2⟩ := p3 k j hk
                have hjm : j ∈ wjs gs 0 := by rw [← hjs]; rw [getL_eq] at hk; exact List.mem_of_getElem? hk
                obtain ⟨blk, hbl, hwr⟩ := wjs_at gs 0 j hjm
                obtain ⟨b, hb, _⟩ := r.heap 0 j blk (by show getL gs j = _; rw [← hbl]; rfl) (wr_gs hwr)
                obtain ⟨e1, e2⟩ := hr.anc j (b, ρ.cap 0 j) (by show (ρ 0 j).map _ = _; rw [hb]; rfl)
                exact ⟨by rw [q1, e1, hb], by rw [q2, e2]⟩
              cases out with
              | fall st' => cases ho; exact fun ρE a w' hr => fin ρE a w' hr
              | ret st' => cases ho; exact fun ρE a w' hr => fin ρE a w' hr
              | ex id st' => simp [outSt] at ho
              | stop k st' => simp [outSt] at ho
end
end Eng

/- A program's operations carried out on values written out: what is known of functions that write through one address; tables. -/
namespace Eng
open Go Go.RowKit

def Kd.isVar : Kd → Bool
  | .var => true
  | _ => false
/-- of one that writes through its first argument, and takes plain values -/
def gsMut {α β : Type} (A : Dec α) (B : Dec β) (upd : α → β → α) (pre : α → β → List Prop) : GSpec where
  wr := true
  fn := fun ps gs => match ps, gs with
    | [.one (.ptr 0 0 0), q], [blk] => match A.dec (.agg blk.cells), B.dec q with
      | some (x, p1), some (y, p2) => cond blk.kd.isVar (some ⟨[], [⟨(A.can (upd x y)).cells, blk.ty, .var⟩], pre x y ++ (p1 ++ p2)⟩) none
      | _, _ => none
    | _, _ => none

def lookGs : List (FuncId × GSpec) → FuncId → Option GSpec
  | [], _ => none
  | (g, s) :: L, f => cond (Nat.beq g f) (some s) (lookGs L f)
/-- with functions that are told of blocks -/
def lookU (G : List (FuncId × GSpec)) (S : List (FuncId × SlSpec)) (L : List (FuncId × FnSpec)) : Table := ⟨lookP L, lookG S, lookGs G⟩
theorem tableU_nil {P : Program} {S : List (FuncId × SlSpec)} {L : List (FuncId × FnSpec)} (h : TableOK P (lookS S L)) : TableOK P (lookU [] S L) := ⟨h.fn, h.sl, fun _ _ h => nomatch h⟩
theorem tableU_plain {P : Program} {L : List (FuncId × FnSpec)} (h : TableOK P (lookT L)) : TableOK P (lookU [] [] L) := tableU_nil (tableS_nil h)
theorem tableU_cons {P : Program} {f : FuncId} {s : GSpec} {G : List (FuncId × GSpec)} {S : List (FuncId × SlSpec)} {L : List (FuncId × FnSpec)} (h : GOK P f s) (hL : TableOK P (lookU G S L)) : TableOK P (lookU ((f, s) :: G) S L) := by
  refine ⟨hL.fn, hL.sl, fun f' g e => ?_⟩
  simp only [lookU, lookGs] at e
  by_cases hb : Nat.beq f f' = true
  · rw [hb] at e
    have := Nat.eq_of_beq_eq_true hb
    subst this
    cases e
    exact h
  · rw [Bool.eq_false_iff.2 hb] at e
    exact hL.g f' g e

theorem can_agg {α : Type} {A : Dec α} {x : α} {l : List Value} (h : (A.can x).val? = some (.agg l.toArray)) (hag : ∃ cs, A.can x = .agg cs) (ρ : Env) : denCs ρ (A.can x).cells = some l := by
  obtain ⟨cs, hc⟩ := hag
  rw [hc] at h ⊢
  have := PV.val?_den (ρ := ρ) h
  simp only [denP] at this
  simp only [PV.cells]
  cases h1 : denCs ρ cs with
  | none => simp [h1] at this
  | some m =>
    simp only [h1, Option.some.injEq, Value.agg.injEq] at this
    have := congrArg Array.toList this
    simp only [] at this
    rw [← this]

section
variable {P : Program} {T : Table} (hT : TableOK P T) (hm : P.follows .mixedOrders = true) {f : FuncId} {fn : Func} (hf : P.funcs[f]? = some fn) (hname : (fn.name == "runtime.NumGoroutine") = false) (hbody : fn.body.isSome = true)
include hT hm hf hname hbody

/-- what is asked of the reckoning of a function that is told of blocks -/
def MeetsG (x : Option ((List PV × List Blk) × List Prop)) (rs : List PV) (gs : List Blk) : Prop := ∃ rs' gs' ob, x = some ((rs', gs'), ob) ∧ AllP ob ∧ SameG rs' rs gs' gs
omit hT hm hf hname hbody in
theorem MeetsG.of {x : Option ((List PV × List Blk) × List Prop)} {rs : List PV} {gs : List Blk} {ob : List Prop} (h : x = some ((rs, gs), ob)) (ho : AllP ob) : MeetsG x rs gs := ⟨rs, gs, ob, h, ho, SameG.rfl' rs gs⟩

theorem gMut_ok {α β : Type} {A : Dec α} {B : Dec β} {upd : α → β → α} {pre : α → β → List Prop} {n : Nat} (hag : ∀ x, ∃ cs, A.can x = .agg cs) (hn : Nat.ble 2 fn.ntmps = true)
    (h : ∀ x y ty, AllP (pre x y) → MeetsG (callG P T n fn [0] [.one (.ptr 0 0 0), B.can y] [⟨(A.can x).cells, ty, .var⟩]) [] [⟨(A.can (upd x y)).cells, ty, .var⟩]) : GOK P f (gsMut A B upd pre) := by
  intro ps gs out hs hp ρ vals w fb hd r
  simp only [gsMut] at hs
  split at hs
  · rename_i q blk
    cases h1 : A.dec (.agg blk.cells) with
    | none => simp [h1] at hs
    | some xp =>
      obtain ⟨x, p1⟩ := xp
      cases h2 : B.dec q with
      | none => simp [h1, h2] at hs
      | some yp =>
        obtain ⟨y, p2⟩ := yp
        simp only [h1, h2] at hs
        cases hk : blk.kd.isVar with
        | false => rw [hk] at hs; cases hs
        | true =>
          rw [hk] at hs
          cases hs
          have hkv : blk.kd = .var := by cases hkk : blk.kd <;> rw [hkk] at hk <;> first | rfl | cases hk
          obtain ⟨hp1, hp'⟩ := AllP_append hp
          obtain ⟨hp2, hp3⟩ := AllP_append hp'
          obtain ⟨v1, l1, d1, d1', rfl⟩ := denPs_cons hd
          obtain ⟨v2, l2, d2, d2', rfl⟩ := denPs_cons d1'
          have := denPs_nil d2'
          subst this
          have hcan := B.law h2 hp3 d2
          have hd' : denPs ρ [.one (.ptr 0 0 0), B.can y] = some [v1, v2] := by
            simp only [denPs, d1, PV.val?_den hcan]
          have r' : HRel w ⟨fb, fun _ => none⟩ ρ [[⟨(A.can x).cells, blk.ty, .var⟩]] w := by
            refine same_rel (rs := []) (rs' := []) (gs := [blk]) (gs' := [⟨(A.can x).cells, blk.ty, .var⟩]) ⟨fun _ _ h => h, rfl, fun j b b' g1 g2 => ?_⟩ r
            cases j with
            | zero =>
              simp only [getL, Option.some.injEq] at g1 g2
              subst g1
              subst g2
              refine ⟨hkv.symm, rfl, fun ρ' l hl => ?_⟩
              have hv := A.law (ρ := ρ') h1 hp2 (v := .agg l.toArray) (by simp only [denP, hl])
              exact can_agg hv (hag x) ρ'
            | succ j => simp [getL] at g1
          obtain ⟨rs', gs', ob, e1, e2, e3⟩ := h x y blk.ty hp1
          obtain ⟨c1, c2⟩ := callG_sound hT hm hf hname hbody e1 e2 (by exact hn) rfl hd' r'
          refine ⟨c1, c2.mono ?_⟩
          rintro e w' ⟨u, ρ', q1, q2, q3, q4, q5⟩
          have hw1 : wjs [blk] 0 = [0] := by simp only [wjs, hkv]; rfl
          have hw2 : wjs [(⟨(A.can x).cells, blk.ty, .var⟩ : Blk)] 0 = [0] := rfl
          rw [hw2] at q4 q5
          rw [hw1]
          exact ⟨u, ρ', q1, e3.vals _ _ q2, same_rel e3 q3, q4, q5⟩
  · cases hs
end
end Eng
