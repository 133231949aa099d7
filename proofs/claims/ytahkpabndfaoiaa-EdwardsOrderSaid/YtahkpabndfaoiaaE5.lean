/-
A program's operations carried out on values written out: one operation that leaves memory alone.
-/
import Derived.Test.YtahkpabndfaoiaaE4
namespace Eng
open Go Go.RowKit

def unV (op : UnOp) (s : SV) : Option SV :=
  match s.int? with
  | some (k, n) => match op with
    | .neg => some (one (.int k (k.wrap (0 - n))))
    | .xor => some (one (.int k (k.wrap ((BitVec.ofInt k.bits (if k.signed then -1 else k.max) ^^^ BitVec.ofInt k.bits n).toNat))))
    | _ => none
  | none => match s.bool?, op with
    | some b, .not => some (one (.bool (!b)))
    | _, _ => none

def convV (P : Program) (src dst : TypeId) (s : SV) : Option SV :=
  match P.underlying src, P.underlying dst, s.int? with
  | some _, some (.int k), some (_, n) => some (one (.int k (k.wrap n)))
  | _, _, _ => none

def fieldAddrV (P : Program) (t : TypeId) (s : SV) (f : Nat) : Option SV :=
  match P.underlying t, s with
  | some (.struct fields), .pv (.one (.ptr d i off)) =>
    match getL fields.toList f with
    | some fl => match P.info? fl.type with
      | some inf => cond (Nat.beq inf.size 0) none (some (.pv (.one (.ptr d i (off + fl.offset)))))
      | none => none
    | none => none
  | _, _ => none

/-- what must hold: found out at once, or left to be shown -/
def guardP (sym b : Bool) : Option (List Prop) := cond sym (some [b = true]) (cond b (some []) none)
theorem guardP_spec {sym b : Bool} {pre : List Prop} (h : guardP sym b = some pre) (hp : AllP pre) : b = true := by
  unfold guardP at h
  cases sym with
  | true => cases h; exact hp.1
  | false =>
    cases b with
    | true => rfl
    | false => cases h

/-- one cell, at a place -/
def cellAt (cs : List Cell) (i : Nat) : Option Cell :=
  match cut cs i with
  | some (_, c :: _) => match expand c with
    | e :: _ => some e
    | [] => none
  | _ => none

def partS (P : Program) (t : TypeId) (cs : List Cell) (off : Nat) : Option SV :=
  match isAggT P t, P.info? t with
  | some true, some inf => match takeAt cs off inf.size with
    | some ds => some (.pv (.agg ds))
    | none => none
  | some false, some _ => match cellAt cs off with
    | some c => some (.pv (.one c))
    | none => none
  | _, _ => none

def fieldV (P : Program) (t : TypeId) (s : SV) (f : Nat) : Option SV :=
  match P.underlying t, s with
  | some (.struct fields), .pv (.agg cs) =>
    match getL fields.toList f with
    | some fl => partS P fl.type cs fl.offset
    | none => none
  | _, _ => none

def indexAddrV (P : Program) (t : TypeId) (s ix : SV) : Option (SV × List Prop) :=
  match P.underlying t, s, ix.int? with
  | some (.array n e), .pv (.one (.ptr d i off)), some (_, j) =>
    match P.info? e with
    | some inf => cond (idxOk j n) (some (.pv (.one (.ptr d i (off + j.toNat * inf.size))), [])) none
    | none => none
  | some (.slice e), .pv (.one (.sli d i off n _ sym)), some (_, j) =>
    match P.info? e, guardP sym (idxOk j n) with
    | some inf, some pre => some (.pv (.one (.ptr d i (off + j.toNat * inf.size))), pre)
    | _, _ => none
  | _, _, _ => none

def sliceV (P : Program) (t : TypeId) (s : SV) (lo hi : Option SV) : Option (SV × List Prop) :=
  match P.underlying t, s, lo, hi with
  | some (.array n e), .pv (.one (.ptr d i off)), none, none => match P.info? e with
    | some inf => cond (Nat.beq inf.size 1 && Nat.blt 0 n) (some (.pv (.one (.sli d i off n (some n) false)), [])) none
    | none => none
  | some (.slice e), .pv (.one (.sli d i off n c sym)), none, some h => match h.int?, P.info? e with
    | some (_, j), some _ => match guardP sym (decide (0 ≤ j) && Nat.ble j.toNat n) with
      | some pre => some (.pv (.one (.sli d i off j.toNat c false)), pre)
      | none => none
    | _, _ => none
  | _, _, _, _ => none

def indexV (P : Program) (t : TypeId) (s ix : SV) : Option SV :=
  match P.underlying t, s, ix.int? with
  | some (.array n e), .pv (.agg cs), some (_, j) =>
    match P.info? e with
    | some inf => cond (idxOk j n) (partS P e cs (j.toNat * inf.size)) none
    | none => none
  | some .string, .pv (.one (.val (.string b))), some (_, j) => cond (decide (0 ≤ j)) (match getL b.data.toList j.toNat with
    | some x => some (one (.int .u8 x.toNat))
    | none => none) none
  | _, _, _ => none

def extractV (s : SV) (i : Nat) : Option SV :=
  match s with
  | .tup ps => match getL ps i with
    | some p => some (.pv p)
    | none => none
  | _ => none

def partsOf (ev : Ev) : List (Nat × Operand) → Option (List (Nat × PV))
  | [] => some []
  | (i, x) :: rest => match ev x, partsOf ev rest with
    | some (.pv p), some l => some ((i, p) :: l)
    | _, _ => none

def argsOf (ev : Ev) : List Operand → Option (List PV)
  | [] => some []
  | x :: rest => match ev x, argsOf ev rest with
    | some (.pv p), some l => some (p :: l)
    | _, _ => none

def lenV (P : Program) (ts : List TypeId) (vs : List (Option SV)) : Option SV :=
  match ts, vs with
  | [t], [v] => match P.underlying t, v with
    | some (.array n _), _ => some (one (.int .i64 n))
    | some (.slice _), some (.pv (.one (.sli _ _ _ n _ _))) => some (one (.int .i64 n))
    | some (.slice _), some (.pv (.one (.val (.slice none 0 0)))) => some (one (.int .i64 0))
    | some .string, some (.pv (.one (.val (.string b)))) => some (one (.int .i64 b.data.toList.length))
    | _, _ => none
  | _, _ => none

/-- an operation that leaves memory alone: its value, and what must hold for that -/
def pureOp (P : Program) (T : Table) (ev : Ev) : Op → Option (SV × List Prop)
  | .move x => (ev x).map (·, [])
  | .assign x => (ev x).map (·, [])
  | .pick c a b => match ev c with
    | some s => match s.bool? with
      | some g => (cond g (ev a) (ev b)).map (·, [])
      | none => none
    | none => none
  | .binOp op t x y _ => match ev x, ev y with
    | some sx, some sy => (binAny P op t sx sy).map (·, [])
    | _, _ => none
  | .unOp op _ x => match ev x with
    | some s => (unV op s).map (·, [])
    | none => none
  | .convert src dst x => match ev x with
    | some s => (convV P src dst s).map (·, [])
    | none => none
  | .nilCheck x => match ev x with
    | some (.pv (.one (.ptr d i off))) => some (.pv (.one (.ptr d i off)), [])
    | _ => none
  | .fieldAddr t x f => match ev x with
    | some s => (fieldAddrV P t s f).map (·, [])
    | none => none
  | .field t x f => match ev x with
    | some s => (fieldV P t s f).map (·, [])
    | none => none
  | .indexAddr t x ix => match ev x, ev ix with
    | some s, some si => indexAddrV P t s si
    | _, _ => none
  | .slice t x lo hi mx => match mx with
    | some _ => none
    | none => match ev x with
      | some s => match lo, hi with
        | none, none => sliceV P t s none none
        | none, some h => match ev h with
          | some sh => sliceV P t s none (some sh)
          | none => none
        | _, _ => none
      | none => none
  | .index t x ix => match ev x, ev ix with
    | some s, some si => (indexV P t s si).map (·, [])
    | _, _ => none
  | .extract x i => match ev x with
    | some s => (extractV s i).map (·, [])
    | none => none
  | .build t parts => match partsOf ev parts.toList with
    | some ps => match buildS P t ps with
      | some cs => some (.pv (.agg cs), [])
      | none => none
    | none => none
  | .call c => match c.callee with
    | .value (.func f) => match T f with
      | some g => match argsOf ev c.args.toList with
        | some ps => g ps
        | none => none
      | none => none
    | .builtin .len => (lenV P c.argTypes.toList (c.args.toList.map ev)).map (·, [])
    | _ => none
  | _ => none

/-- carried out, the operation leaves v, and below its own blocks nothing has turned -/
def Yields (P : Program) (o : Oper) (a : Act) (w : World) (v : Value) : Prop :=
  (execOp a.eval o).run P w = .ok (.value v) w ∨
    ∃ f args, (execOp a.eval o).run P w = .ok (.enter f args) w ∧ Calls P f args w fun e w' => e = .returned v ∧ Below w.heap.size w w'

theorem argsOf_spec {ρ : Env} {ev : Ev} {a : Act} (hev : evR ρ ev a) : ∀ {xs : List Operand} {ps : List PV}, argsOf ev xs = some ps → denPs ρ ps = some (xs.map a.eval)
  | [], ps, h => by simp only [argsOf] at h; cases h; rfl
  | x :: xs, ps, h => by
    simp only [argsOf] at h
    cases h1 : ev x with
    | none => simp [h1] at h
    | some s =>
      cases s with
      | any => simp [h1] at h
      | tup _ => simp [h1] at h
      | pv p =>
        cases h2 : argsOf ev xs with
        | none => simp [h1, h2] at h
        | some l =>
          simp only [h1, h2] at h
          cases h
          have e1 : denP ρ p = some (a.eval x) := hev x _ h1
          simp [denPs, e1, argsOf_spec hev h2]

theorem partsOf_spec {ρ : Env} {ev : Ev} {a : Act} (hev : evR ρ ev a) : ∀ {xs : List (Nat × Operand)} {ps : List (Nat × PV)}, partsOf ev xs = some ps → denParts ρ ps = some (xs.map fun p => (p.1, a.eval p.2))
  | [], ps, h => by simp only [partsOf] at h; cases h; rfl
  | (i, x) :: xs, ps, h => by
    simp only [partsOf] at h
    cases h1 : ev x with
    | none => simp [h1] at h
    | some s =>
      cases s with
      | any => simp [h1] at h
      | tup _ => simp [h1] at h
      | pv p =>
        cases h2 : partsOf ev xs with
        | none => simp [h1, h2] at h
        | some l =>
          simp only [h1, h2] at h
          cases h
          have e1 : denP ρ p = some (a.eval x) := hev x _ h1
          simp [denParts, e1, partsOf_spec hev h2]

theorem getL_denPs {ρ : Env} : ∀ {ps : List PV} {l : List Value} {i : Nat} {p : PV}, denPs ρ ps = some l → getL ps i = some p → ∃ v, l[i]? = some v ∧ denP ρ p = some v
  | [], l, i, p, _, h => by simp [getL] at h
  | q :: ps, l, i, p, e, h => by
    simp only [denPs] at e
    cases h1 : denP ρ q with
    | none => simp [h1] at e
    | some v =>
      cases h2 : denPs ρ ps with
      | none => simp [h1, h2] at e
      | some vs =>
        simp only [h1, h2] at e
        cases e
        cases i with
        | zero => simp only [getL] at h; cases h; exact ⟨v, by simp, h1⟩
        | succ i =>
          simp only [getL] at h
          obtain ⟨u, hu1, hu2⟩ := getL_denPs h2 h
          exact ⟨u, by simpa using hu1, hu2⟩

theorem cellAt_spec {ρ : Env} {cs : List Cell} {l : List Value} {i : Nat} {c : Cell} (e : denCs ρ cs = some l) (h : cellAt cs i = some c) : ∃ v, l[i]? = some v ∧ denP ρ (.one c) = some v := by
  unfold cellAt at h
  cases h1 : cut cs i with
  | none => simp [h1] at h
  | some ab =>
    obtain ⟨a, b⟩ := ab
    cases b with
    | nil => simp [h1] at h
    | cons d b =>
      simp only [h1] at h
      cases h2 : expand d with
      | nil => simp [h2] at h
      | cons x xs =>
        simp only [h2] at h
        cases h
        obtain ⟨p1, p2, p3⟩ := cut_spec cs i h1 e
        obtain ⟨v, vs, q1, q2, q3⟩ := denCs_cons p2
        have q4 := denCs_expand q1
        rw [h2] at q4
        obtain ⟨u, us, r1, r2, r3⟩ := denCs_cons q4
        have hl := denC_length r1
        rw [expand_flat d c (by rw [h2]; simp)] at hl
        match u, hl with
        | [z], _ =>
          refine ⟨z, ?_, denP_one' r1⟩
          have : (l.drop i)[0]? = some z := by rw [q3, r3]; simp
          simpa using this

theorem partS_spec {P : Program} {ρ : Env} {t : TypeId} {cs : List Cell} {off : Nat} {s : SV} {l : List Value} (h : partS P t cs off = some s) (e : denCs ρ cs = some l) :
    ∃ v, relS ρ s v ∧ partV P t l off = some v := by
  unfold partS at h
  unfold partV
  cases h1 : isAggT P t with
  | none => simp [h1] at h
  | some b =>
    cases h2 : P.info? t with
    | none => cases b <;> simp [h1, h2] at h
    | some inf =>
      cases b with
      | true =>
        simp only [h1, h2] at h ⊢
        cases h3 : takeAt cs off inf.size with
        | none => simp [h3] at h
        | some ds =>
          simp only [h3] at h
          cases h
          obtain ⟨m, a1, a2, a3, a4⟩ := takeAt_spec cs off inf.size h3 e
          refine ⟨_, ?_, rfl⟩
          have : l.toArray.extract off (off + inf.size) = m.toArray := by
            apply Array.ext'
            simp only [List.extract_toArray]
            apply List.ext_getElem?
            intro j
            simp only [List.extract_eq_take_drop, List.getElem?_take, List.getElem?_drop]
            by_cases hj : j < inf.size
            · rw [if_pos (by omega), a4 j hj]
            · rw [if_neg (by omega)]
              rw [List.getElem?_eq_none (by omega)]
          rw [this]
          simp [relS, denP, a1]
      | false =>
        simp only [h1, h2] at h ⊢
        cases h3 : cellAt cs off with
        | none => simp [h3] at h
        | some c =>
          simp only [h3] at h
          cases h
          obtain ⟨v, b1, b2⟩ := cellAt_spec e h3
          exact ⟨v, b2, b1⟩

theorem relS_agg {ρ : Env} {cs : List Cell} {v : Value} (h : relS ρ (.pv (.agg cs)) v) : ∃ l, denCs ρ cs = some l ∧ v = .agg l.toArray := by
  simp only [relS, denP] at h
  cases h1 : denCs ρ cs with
  | none => simp [h1] at h
  | some l => simp only [h1] at h; exact ⟨l, rfl, (Option.some.inj h).symm⟩

theorem relS_ptr {ρ : Env} {d i off : Nat} {v : Value} (h : relS ρ (.pv (.one (.ptr d i off))) v) : ∃ b, ρ d i = some b ∧ v = .pointer (some ⟨b, off, none⟩) := by
  have h := denP_one (ρ := ρ) h
  simp only [denC] at h
  cases h1 : ρ d i with
  | none => simp [h1] at h
  | some b => simp only [h1] at h; cases h; exact ⟨b, rfl, rfl⟩

theorem relS_sli {ρ : Env} {d i off n : Nat} {c : Option Nat} {sym : Bool} {v : Value} (h : relS ρ (.pv (.one (.sli d i off n c sym))) v) :
    ∃ b, ρ d i = some b ∧ v = .slice (some ⟨b, off, none⟩) n (c.getD (ρ.cap d i - off)) ∧ n ≤ c.getD (ρ.cap d i - off) := by
  have h := denP_one (ρ := ρ) h
  simp only [denC] at h
  cases h1 : ρ d i with
  | none => simp [h1] at h
  | some b =>
    simp only [h1] at h
    cases hc : Nat.ble n (c.getD (ρ.cap d i - off)) with
    | true => rw [hc] at h; cases h; exact ⟨b, rfl, rfl, Nat.le_of_ble_eq_true hc⟩
    | false => rw [hc] at h; cases h
theorem relS_sli' {ρ : Env} {d i off n b : Nat} {c : Option Nat} {sym : Bool} (h : ρ d i = some b) (hn : n ≤ c.getD (ρ.cap d i - off)) :
    relS ρ (.pv (.one (.sli d i off n c sym))) (.slice (some ⟨b, off, none⟩) n (c.getD (ρ.cap d i - off))) := by
  simp [relS, denP, denC, h, Nat.ble_eq_true_of_le hn]

theorem idxOk_spec {i : Int} {n : Nat} (h : idxOk i n = true) : 0 ≤ i ∧ i < n := by
  simpa [idxOk] using h

theorem map_nil {s : Option SV} {sv : SV} {pre : List Prop} (h : s.map (·, ([] : List Prop)) = some (sv, pre)) : s = some sv := by
  cases s with
  | none => cases h
  | some x => cases h; rfl

theorem pureOp_spec {P : Program} {T : Table} (hT : TableOK P T) {ρ : Env} {ev : Ev} {a : Act} (hev : evR ρ ev a) {o : Oper} {sv : SV} {pre : List Prop}
    (h : pureOp P T ev o.op = some (sv, pre)) (hp : AllP pre) (w : World) : ∃ v, relS ρ sv v ∧ Yields P o a w v := by
  obtain ⟨dst, op, type, pos, after, guard⟩ := o
  simp only at h
  unfold Yields execOp
  cases op <;> simp only [pureOp] at h <;> try (cases h; done)
  case move x =>
    exact ⟨_, hev x _ (map_nil h), .inl rfl⟩
  case assign x =>
    exact ⟨_, hev x _ (map_nil h), .inl rfl⟩
  case pick c x y =>
    cases h1 : ev c with
    | none => simp [h1] at h
    | some s =>
      cases h2 : s.bool? with
      | none => simp [h1, h2] at h
      | some g =>
        simp only [h1, h2] at h
        have e := SV.bool?_spec h2 (hev c _ h1)
        replace h := map_nil h
        cases g with
        | true => exact ⟨_, hev x _ h, .inl (by simp [e, asBool])⟩
        | false => exact ⟨_, hev y _ h, .inl (by simp [e, asBool])⟩
  case binOp op t x y yt =>
    cases h1 : ev x with
    | none => simp [h1] at h
    | some sx =>
      cases h2 : ev y with
      | none => simp [h1, h2] at h
      | some sy =>
        simp only [h1, h2] at h
        replace h := map_nil h
        have rx := hev x _ h1
        have ry := hev y _ h2
        unfold binAny at h
        cases hb : binV op sx sy with
        | some s =>
          simp only [hb] at h
          cases h
          obtain ⟨⟨k, p, k', q, e1, e2⟩, v, rfl, hr⟩ := binV_spec (P := P) op t hb rx ry
          refine ⟨v, rfl, .inl ?_⟩
          have hg : (eqGuard op t x y (a.eval x) (a.eval y)).run P w = .ok () w := by
            rw [e1, e2]; unfold eqGuard; split <;> simp
          simp only [Sem.run_bind, hg, Result.andThen_ok, hr w, Sem.run_pure]
        | none =>
          simp only [hb] at h
          split at h
          · rename_i p q
            cases hq : binEq P t p q with
            | none => simp [hq] at h
            | some b =>
              simp only [hq] at h
              cases h
              obtain ⟨g1, _, g3, _⟩ := binEq_spec hq rx ry w x y
              exact ⟨.bool b, rfl, .inl (by simp only [Sem.run_bind, g1, Result.andThen_ok, g3, Sem.run_pure])⟩
          · rename_i p q
            cases hq : binEq P t p q with
            | none => simp [hq] at h
            | some b =>
              simp only [hq] at h
              cases h
              obtain ⟨_, g2, _, g4⟩ := binEq_spec hq rx ry w x y
              exact ⟨.bool (!b), rfl, .inl (by simp only [Sem.run_bind, g2, Result.andThen_ok, g4, Sem.run_pure])⟩
          · cases h
  case unOp op t x =>
    cases h1 : ev x with
    | none => simp [h1] at h
    | some s =>
      simp only [h1] at h
      replace h := map_nil h
      have rx := hev x _ h1
      unfold unV at h
      cases h2 : s.int? with
      | some kn =>
        obtain ⟨k, n⟩ := kn
        simp only [h2] at h
        have e := SV.int?_spec h2 rx
        cases op <;> simp only [] at h <;> first | (cases h; done) | (cases h; exact ⟨_, rfl, .inl (by simp [e, Op.unary, Op.intArith, Op.intBits])⟩)
      | none =>
        simp only [h2] at h
        cases h3 : s.bool? with
        | none => simp [h3] at h
        | some b =>
          have e := SV.bool?_spec h3 rx
          simp only [h3] at h
          cases op <;> simp only [] at h <;> first | (cases h; done) | (cases h; exact ⟨_, rfl, .inl (by simp [e, Op.unary])⟩)
  case convert src dst x =>
    cases h1 : ev x with
    | none => simp [h1] at h
    | some s =>
      simp only [h1] at h
      replace h := map_nil h
      have rx := hev x _ h1
      unfold convV at h
      split at h
      · rename_i d k k' n e1 e2 e3
        cases h
        have e := SV.int?_spec e3 rx
        refine ⟨_, rfl, .inl ?_⟩
        simp only [e, convert, Sem.run_bind, run_underlying e1, run_underlying e2, Result.andThen_ok]
        cases d <;> simp [Conv.intToInt]
      · cases h
  case nilCheck x =>
    split at h
    · rename_i d i off h1
      cases h
      have rx := hev x _ h1
      obtain ⟨b, e1, e2⟩ := relS_ptr rx
      exact ⟨_, rx, .inl (by simp only [e2]; rfl)⟩
    · cases h
  case fieldAddr t x f =>
    cases h1 : ev x with
    | none => simp [h1] at h
    | some s =>
      simp only [h1] at h
      replace h := map_nil h
      have rx := hev x _ h1
      unfold fieldAddrV at h
      split at h
      · rename_i fields d i off hu
        cases h2 : getL fields.toList f with
        | none => simp [h2] at h
        | some fl =>
          simp only [h2] at h
          cases h3 : P.info? fl.type with
          | none => simp [h3] at h
          | some inf =>
            simp only [h3] at h
            by_cases hz : Nat.beq inf.size 0 = true
            · simp [hz] at h
            · have hz' : Nat.beq inf.size 0 = false := Bool.eq_false_iff.2 hz
              rw [hz'] at h
              cases h
              have hne : inf.size ≠ 0 := fun e => hz (by rw [e]; rfl)
              obtain ⟨b, e1, e2⟩ := relS_ptr rx
              have hf : fields[f]? = some fl := by rw [getL_eq] at h2; simpa using h2
              refine ⟨.pointer (some ⟨b, off + fl.offset, none⟩), by simp [relS, denP, denC, e1], .inl ?_⟩
              simp [e2, Instr.fieldAt, run_underlying hu, hf, Instr.sureAddr, fieldPlace, Go.sizeOf, run_typeInfo w h3, hne, add_none]
      · cases h
  case field t x f =>
    cases h1 : ev x with
    | none => simp [h1] at h
    | some s =>
      simp only [h1] at h
      replace h := map_nil h
      have rx := hev x _ h1
      unfold fieldV at h
      split at h
      · rename_i fields cs hu
        cases h2 : getL fields.toList f with
        | none => simp [h2] at h
        | some fl =>
          simp only [h2] at h
          obtain ⟨l, e1, e2⟩ := relS_agg rx
          obtain ⟨v, r1, r2⟩ := partS_spec h e1
          have hf : fields[f]? = some fl := by rw [getL_eq] at h2; simpa using h2
          refine ⟨v, r1, .inl ?_⟩
          simp [e2, Instr.field, run_underlying hu, hf, asAgg, run_part r2]
      · cases h
  case indexAddr t x ix =>
    cases h1 : ev x with
    | none => simp [h1] at h
    | some s =>
      cases h2 : ev ix with
      | none => simp [h1, h2] at h
      | some si =>
        simp only [h1, h2] at h
        have rx := hev x _ h1
        have ri := hev ix _ h2
        unfold indexAddrV at h
        split at h
        · rename_i n e d i off k j hu h3
          cases h4 : P.info? e with
          | none => simp [h4] at h
          | some inf =>
            simp only [h4] at h
            by_cases hk : idxOk j n = true
            · rw [hk] at h
              cases h
              obtain ⟨b, e1, e2⟩ := relS_ptr rx
              have e3 := SV.int?_spec h3 ri
              obtain ⟨k1, k2⟩ := idxOk_spec hk
              refine ⟨.pointer (some ⟨b, off + j.toNat * inf.size, none⟩), by simp [relS, denP, denC, e1], .inl ?_⟩
              simp [e2, e3, Instr.indexAt, run_underlying hu, asIntOf, Instr.sureAddr, k1, k2, Go.sizeOf, run_typeInfo w h4, add_none]
            · have hk' : idxOk j n = false := Bool.eq_false_iff.2 hk
              rw [hk'] at h
              cases h
        · rename_i e d i off n c sym k j hu h3
          cases h4 : P.info? e with
          | none => simp [h4] at h
          | some inf =>
            cases h5 : guardP sym (idxOk j n) with
            | none => simp [h4, h5] at h
            | some pre' =>
              simp only [h4, h5] at h
              cases h
              have hk := guardP_spec h5 hp
              obtain ⟨b, e1, e2, _⟩ := relS_sli rx
              have e3 := SV.int?_spec h3 ri
              obtain ⟨k1, k2⟩ := idxOk_spec hk
              refine ⟨.pointer (some ⟨b, off + j.toNat * inf.size, none⟩), by simp [relS, denP, denC, e1], .inl ?_⟩
              simp [e2, e3, Instr.indexAt, run_underlying hu, asIntOf, k1, k2, Go.sizeOf, run_typeInfo w h4, add_none]
        · cases h
  case slice t x lo hi mx =>
    cases mx with
    | some m => cases h
    | none =>
      simp only [] at h
      cases h1 : ev x with
      | none => simp [h1] at h
      | some s =>
        simp only [h1] at h
        have rx := hev x _ h1
        cases lo with
        | some l => cases hi <;> cases h
        | none =>
          cases hi with
          | none =>
            simp only [] at h
            unfold sliceV at h
            split at h
            · rename_i n e d i off hu _ _
              cases h4 : P.info? e with
              | none => simp [h4] at h
              | some inf =>
                simp only [h4] at h
                by_cases hk : (Nat.beq inf.size 1 && Nat.blt 0 n) = true
                · rw [hk] at h
                  cases h
                  obtain ⟨k1, k2⟩ := Bool.and_eq_true_iff.1 hk
                  have k1 := Nat.eq_of_beq_eq_true k1
                  have k2 : 0 < n := by simpa [Nat.blt_eq] using k2
                  obtain ⟨b, e1, e2⟩ := relS_ptr rx
                  refine ⟨.slice (some ⟨b, off, none⟩) n n, relS_sli' (c := some n) e1 (Nat.le_refl _), .inl ?_⟩
                  simp [e2, Instr.sliceAt, run_underlying hu, Instr.sureAddr, Instr.sliceBounds, Go.sizeOf, run_typeInfo w h4, add_none]
                · rw [Bool.eq_false_iff.2 hk] at h
                  cases h
            · rename_i hh; cases hh
            · cases h
          | some hi =>
            simp only [] at h
            cases h2 : ev hi with
            | none => simp [h2] at h
            | some sh =>
              simp only [h2] at h
              have rh := hev hi _ h2
              unfold sliceV at h
              split at h
              · rename_i hh; cases hh
              · rename_i e d i off n c sym _ hu _ hsh
                cases hsh
                cases h3 : sh.int? with
                | none => simp [h3] at h
                | some kj =>
                  obtain ⟨k, j⟩ := kj
                  cases h4 : P.info? e with
                  | none => simp [h3, h4] at h
                  | some inf =>
                    simp only [h3, h4] at h
                    cases h5 : guardP sym (decide (0 ≤ j) && Nat.ble j.toNat n) with
                    | none => simp [h5] at h
                    | some pre' =>
                      simp only [h5] at h
                      cases h
                      have hk := guardP_spec h5 hp
                      simp only [Bool.and_eq_true, decide_eq_true_eq] at hk
                      obtain ⟨k1, k2⟩ := hk
                      have k2 := Nat.le_of_ble_eq_true k2
                      obtain ⟨b, e1, e2, e4⟩ := relS_sli rx
                      have e3 := SV.int?_spec h3 rh
                      have hle : j.toNat ≤ c.getD (ρ.cap d i - off) := Nat.le_trans k2 e4
                      refine ⟨_, relS_sli' e1 hle, .inl ?_⟩
                      have k3 : j ≤ ((c.getD (ρ.cap d i - off) : Nat) : Int) := by omega
                      generalize c.getD (ρ.cap d i - off) = cp at *
                      by_cases hc0 : cp = 0
                      · subst hc0
                        have hj0 : j = 0 := by omega
                        subst hj0
                        simp [e2, e3, Instr.sliceAt, Instr.slice, run_underlying hu, Instr.sliceBounds, Instr.sliceBound, asIntOf, Go.sizeOf, run_typeInfo w h4]
                      · simp [e2, e3, Instr.sliceAt, Instr.slice, run_underlying hu, Instr.sliceBounds, Instr.sliceBound, asIntOf, k1, k3, Go.sizeOf, run_typeInfo w h4, hc0, add_none]
              · cases h
  case index t x ix =>
    cases h1 : ev x with
    | none => simp [h1] at h
    | some s =>
      cases h2 : ev ix with
      | none => simp [h1, h2] at h
      | some si =>
        simp only [h1, h2] at h
        replace h := map_nil h
        have rx := hev x _ h1
        have ri := hev ix _ h2
        unfold indexV at h
        split at h
        · rename_i n e cs k j hu h3
          cases h4 : P.info? e with
          | none => simp [h4] at h
          | some inf =>
            simp only [h4] at h
            by_cases hk : idxOk j n = true
            · rw [hk] at h
              simp only [cond_true] at h
              obtain ⟨l, e1, e2⟩ := relS_agg rx
              obtain ⟨v, r1, r2⟩ := partS_spec h e1
              have e3 := SV.int?_spec h3 ri
              obtain ⟨k1, k2⟩ := idxOk_spec hk
              refine ⟨v, r1, .inl ?_⟩
              simp [e2, e3, Instr.index, run_underlying hu, asIntOf, k1, k2, Go.sizeOf, run_typeInfo w h4, run_part r2]
            · have hk' : idxOk j n = false := Bool.eq_false_iff.2 hk
              rw [hk'] at h
              cases h
        · rename_i b k j hu h3
          by_cases hj : 0 ≤ j
          · simp only [hj, decide_true, cond_true] at h
            cases h4 : getL b.data.toList j.toNat with
            | none => simp [h4] at h
            | some x =>
              simp only [h4] at h
              cases h
              have e3 := SV.int?_spec h3 ri
              have e2 : a.eval _ = .string b := PV.val?_spec (p := .one (.val (.string b))) rfl rx
              have hb : b[j.toNat]? = some x := by
                rw [getL_eq] at h4
                have hlt : j.toNat < b.data.toList.length := (List.getElem?_eq_some_iff.1 h4).1
                have hlt' : j.toNat < b.size := by
                  have hs : b.data.toList.length = b.size := by rw [Array.length_toList]; rfl
                  omega
                rw [getElem?_pos b j.toNat hlt']
                have := (List.getElem?_eq_some_iff.1 h4).2
                rw [← this]
                rfl
              refine ⟨.int .u8 x.toNat, rfl, .inl ?_⟩
              simp only [e2, e3, Instr.index, asIntOf, Sem.run_bind, Sem.run_pure, Result.andThen_ok, run_underlying hu, hj, if_true, hb]
          · simp [hj] at h
        · cases h
  case extract x i =>
    cases h1 : ev x with
    | none => simp [h1] at h
    | some s =>
      simp only [h1] at h
      replace h := map_nil h
      have rx := hev x _ h1
      unfold extractV at h
      cases s with
      | any => cases h
      | pv p => cases h
      | tup ps =>
        simp only [] at h
        cases h2 : getL ps i with
        | none => simp [h2] at h
        | some p =>
          simp only [h2] at h
          cases h
          obtain ⟨l, e1, e2⟩ := rx
          obtain ⟨v, g1, g2⟩ := getL_denPs e1 h2
          refine ⟨v, g2, .inl ?_⟩
          simp [e2, Instr.extract, g1]
  case build t parts =>
    cases h1 : partsOf ev parts.toList with
    | none => simp [h1] at h
    | some ps =>
      simp only [h1] at h
      cases h2 : buildS P t ps with
      | none => simp [h2] at h
      | some cs =>
        simp only [h2] at h
        cases h
        obtain ⟨m, m1, m2⟩ := buildS_spec h2 (partsOf_spec hev h1) w
        refine ⟨.agg m.toArray, by simp [relS, denP, m1], .inl ?_⟩
        have : (parts.map fun (x : Nat × Operand) => (x.1, a.eval x.2)) = (List.map (fun p => (p.1, a.eval p.2)) parts.toList).toArray := by
          apply Array.ext'; simp
        simp only [Sem.run_bind]
        rw [this, m2]
        rfl
  case call c =>
    split at h
    · rename_i f hc
      cases h1 : T f with
      | none => simp [h1] at h
      | some g =>
        simp only [h1] at h
        cases h2 : argsOf ev c.args.toList with
        | none => simp [h2] at h
        | some ps =>
          simp only [h2] at h
          obtain ⟨v, r1, r2⟩ := hT.fn f g h1 ps sv pre h hp ρ _ (argsOf_spec hev h2) w
          refine ⟨v, r1, ?_⟩
          have hr : ((do let d ← resolve a.eval c type; invoke d.target d.args) : Sem Next).run P w = (callFunc f (List.map a.eval c.args.toList).toArray).run P w := by
            simp only [resolve, hc, Sem.run_bind]
            have : c.args.map a.eval = (List.map a.eval c.args.toList).toArray := by apply Array.ext'; simp
            simp only [Act.eval, Deferred.ofValue, Sem.run_pure, Result.andThen_ok, invoke, this]
            simp
          rcases r2 with r2 | ⟨r2, r3⟩
          · exact .inl (by rw [hr]; exact r2)
          · exact .inr ⟨f, _, by rw [hr]; exact r2, r3⟩
    · rename_i hc
      replace h := map_nil h
      unfold lenV at h
      split at h
      · rename_i t v e1 e2
        have ha : c.argTypes = #[t] := by apply Array.ext'; simpa using e1
        obtain ⟨x, hb⟩ : ∃ x, c.args = #[x] := by
          have : c.args.toList.length = 1 := by have := congrArg List.length e2; simpa using this
          match hc' : c.args.toList, this with
          | [x], _ => exact ⟨x, by apply Array.ext'; simpa using hc'⟩
        have hv : ev x = v := by rw [hb] at e2; simpa using e2
        split at h
        · rename_i _ n el hu
          cases h
          refine ⟨.int .i64 n, rfl, .inl ?_⟩
          simp [resolve, hc, ha, hb, invoke, builtin, Builtin.len_, run_underlying hu, goInt]
        · rename_i el d i off n cp sym hu
          cases h
          obtain ⟨b, q1, q2, _⟩ := relS_sli (hev x _ hv)
          refine ⟨.int .i64 n, rfl, .inl ?_⟩
          simp [resolve, hc, ha, hb, invoke, builtin, Builtin.len_, run_underlying hu, goInt, q2]
        · rename_i el hu
          cases h
          have q2 : a.eval x = .slice none 0 0 := PV.val?_spec (p := .one (.val (.slice none 0 0))) rfl (hev x _ hv)
          refine ⟨.int .i64 0, rfl, .inl ?_⟩
          simp [resolve, hc, ha, hb, invoke, builtin, Builtin.len_, run_underlying hu, goInt, q2]
        · rename_i b hu
          cases h
          have q2 : a.eval x = .string b := PV.val?_spec (p := .one (.val (.string b))) rfl (hev x _ hv)
          refine ⟨.int .i64 b.data.toList.length, rfl, .inl ?_⟩
          have hs : b.data.toList.length = b.size := by rw [Array.length_toList]; rfl
          rw [hs]
          simp [resolve, hc, ha, hb, invoke, builtin, Builtin.len_, run_underlying hu, goInt, q2]
        · cases h
      · cases h
    · cases h

end Eng
