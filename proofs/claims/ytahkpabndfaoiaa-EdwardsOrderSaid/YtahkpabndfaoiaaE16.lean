/-
A program's operations carried out on values written out: what is known of functions that take or give slices.
-/
import Derived.Test.YtahkpabndfaoiaaE15
import Derived.Test.YtahkpabndfaoiaaE13
namespace Eng
open Go Go.RowKit

/-- where a function begins whose one argument is a slice of whole numbers -/
def startA (ntmps : Nat) (k : IntKind) (l : List Int) (e : TypeId) (kd : Kd) : St :=
  ⟨.pv (.one (.sli 0 0 0 l.length none true)) :: List.replicate (ntmps - 1) (.tup []), [⟨[.arr k l], e, kd⟩] :: List.replicate (ntmps - 1) []⟩

theorem getB_startA {ntmps : Nat} {k : IntKind} {l : List Int} {e : TypeId} {kd : Kd} {d i : Nat} {blk : Blk} (h : getB (startA ntmps k l e kd).heap d i = some blk) : d = 0 ∧ i = 0 ∧ blk = ⟨[.arr k l], e, kd⟩ := by
  unfold getB startA at h
  cases d with
  | zero =>
    simp only [getL] at h
    cases i with
    | zero => simp only [getL] at h; cases h; exact ⟨rfl, rfl, rfl⟩
    | succ i => simp [getL] at h
  | succ d =>
    exfalso
    simp only [getL, getL_eq, List.getElem?_replicate] at h
    split at h
    · rename_i l' hl'
      split at hl'
      · cases hl'; simp at h
      · cases hl'
    · cases h

theorem startA_rel {ntmps : Nat} (_hn : 0 < ntmps) {k : IntKind} {l : List Int} {e : TypeId} {kd : Kd} {w : World} {v : Value} {b cap : Nat} {arr : Array Value} {row : Option Nat}
    (hv : v = .slice (some ⟨b, 0, none⟩) l.length cap) (hw : w.heap[b]? = some (.cells arr e (0, 0))) (ht : arr.toList.take l.length = l.map (.int k)) (hc : l.length ≤ cap)
    (hs : kd = .sl → arr.size = cap ∧ cap ≤ maxLen) (_hd : kd ≠ .dead) (hlow : kd = .ro ∨ row = some b) :
    Rel w (fun b => row = some b) ⟨fun d i => if d = 0 ∧ i = 0 then some b else none, fun _ _ => cap⟩ (startA ntmps k l e kd).tmps (startA ntmps k l e kd).heap { tmps := #[v] ++ Array.replicate (ntmps - 1) undef, defers := [] } w := by
  have pos : ∀ {d i b'}, (if d = 0 ∧ i = 0 then some b else none) = some b' → d = 0 ∧ i = 0 ∧ b' = b := by
    intro d i b' h
    by_cases hdi : d = 0 ∧ i = 0
    · rw [if_pos hdi] at h; cases h; exact ⟨hdi.1, hdi.2, rfl⟩
    · rw [if_neg hdi] at h; cases h
  have hg0 : getB (startA ntmps k l e kd).heap 0 0 = some ⟨[.arr k l], e, kd⟩ := rfl
  refine ⟨?_, ?_, rfl, ?_, ?_, ?_, ?_, ⟨rfl, rfl, rfl, Nat.le_refl _, fun _ _ _ => rfl⟩⟩
  · intro t s hsl
    cases t with
    | zero =>
      simp only [startA, getL, Option.some.injEq] at hsl
      subst hsl
      have h1 := relS_sli' (ρ := ⟨fun d i => if d = 0 ∧ i = 0 then some b else none, fun _ _ => cap⟩) (d := 0) (i := 0) (off := 0) (n := l.length) (b := b) (c := none) (sym := true) (by simp) (by simpa using hc)
      have h2 : (none : Option Nat).getD (cap - 0) = cap := rfl
      simp only [h2] at h1
      rw [← hv] at h1
      have h3 : (#[v] ++ Array.replicate (ntmps - 1) undef)[0]? = some v := by
        rw [Array.getElem?_append_left (by simp)]; rfl
      simp only [Array.getD_eq_getD_getElem?, h3, Option.getD_some]
      exact h1
    | succ t =>
      have hsl : getL (List.replicate (ntmps - 1) (SV.tup [])) t = some s := hsl
      rw [getL_eq, List.getElem?_replicate] at hsl
      split at hsl
      · rename_i h2
        cases hsl
        have : (#[v] ++ Array.replicate (ntmps - 1) undef)[t + 1]? = some undef := by
          rw [Array.getElem?_append_right (by simp)]
          simp [h2]
        simp only [Array.getD_eq_getD_getElem?, this, Option.getD_some]
        exact ⟨[], rfl, rfl⟩
      · cases hsl
  · simp [startA]; omega
  · intro d i blk hg
    obtain ⟨rfl, rfl, rfl⟩ := getB_startA hg
    refine ⟨b, by simp, block_lt hw, .inr ⟨l.map (.int k), arr.toList.drop l.length, by simp [denCs, denC], ?_, ?_⟩⟩
    · have : arr = (l.map (Value.int k) ++ arr.toList.drop l.length).toArray := by
        apply Array.ext'
        have h := List.take_append_drop l.length arr.toList
        rw [ht] at h
        exact h.symm
      rw [← this]
      exact hw
    · intro hk
      obtain ⟨h1, h2⟩ := hs hk
      refine ⟨?_, h2⟩
      have h3 := congrArg List.length ht
      simp only [List.length_take, Array.length_toList, List.length_map] at h3
      simp only [List.length_append, List.length_map, List.length_drop, Array.length_toList]
      show _ = cap
      omega
  · intro d i b' hb
    obtain ⟨rfl, rfl, _⟩ := pos hb
    exact ⟨_, hg0⟩
  · intro d i d' i' b' h1 h2
    obtain ⟨rfl, rfl, _⟩ := pos h1
    obtain ⟨rfl, rfl, _⟩ := pos h2
    exact .inl ⟨rfl, rfl⟩
  · intro d i b' blk hb hg
    obtain ⟨rfl, rfl, rfl⟩ := pos hb
    obtain ⟨_, _, rfl⟩ := getB_startA hg
    rcases hlow with h | h
    · exact .inl h
    · exact .inr (.inr h)

/-- of a slice of whole numbers -/
def spA (k : IntKind) (mode : SMode) (out : List Int → SRes) (pre : List Int → List Prop) : SlSpec where
  mode := mode
  res := fun p => match p with
    | .agg cs => match decInts k cs with
      | some l => some (out l, pre l)
      | none => none
    | .one _ => none
/-- of a plain value -/
def spD {α : Type} (A : Dec α) (out : α → SRes) (pre : α → List Prop) : SlSpec where
  mode := .plain
  res := fun p => match A.dec p with
    | some (x, pr) => some (out x, pre x ++ pr)
    | none => none

section
variable {P : Program} {T : Table} (hT : TableOK P T) (hm : P.follows .mixedOrders = true) {f : FuncId} {fn : Func} (hf : P.funcs[f]? = some fn) (hname : (fn.name == "runtime.NumGoroutine") = false) (hbody : fn.body.isSome = true) (hn : Nat.ble 1 fn.ntmps = true)
include hf hname hbody

theorem enters (v : Value) (w : World) : (callFunc f #[v]).run P w = .ok (.enter f #[v]) w := by
  have hb : fn.body.isNone = false := by cases hx : fn.body <;> simp_all
  simp only [callFunc, Sem.run_bind, run_program, Result.andThen_ok, hf, hname, Bool.false_eq_true, if_false, hb, Sem.run_pure]

omit hf hname in
theorem body_is : fn.body = some (bodyOf fn) := by
  unfold bodyOf
  cases h : fn.body with
  | none => rw [h] at hbody; cases hbody
  | some c => rfl

include hT hm hn

theorem spA_read {k : IntKind} {out : List Int → SRes} {pre : List Int → List Prop} (h : ∀ l e, AllP (pre l) → Goes P T fn (OutIs (out l)) [.code (bodyOf fn)] (startA fn.ntmps k l e .ro)) : SlOK P f (spA k .read out pre) := by
  intro p o pr hres hp ρ v w harg
  refine ⟨enters hf hname hbody v w, ?_⟩
  obtain ⟨cs, l, rfl, hc, b, cap, arr, ty, rfl, hw, ht, hcap⟩ := harg
  simp only [spA] at hres
  cases hd : decInts k cs with
  | none => simp [hd] at hres
  | some m =>
    simp only [hd] at hres
    cases hres
    rw [decInts_spec hd] at hc
    cases hc
    have hrel := startA_rel (Nat.le_of_ble_eq_true hn) (k := k) (l := m) (e := ty) (kd := .ro) (w := w) (row := none) (b := b) (cap := cap) rfl hw (by simpa using ht) (by simpa using hcap) (fun h => by cases h) Kd.noConfusion (.inl rfl)
    have hg : Calls P f #[.slice (some ⟨b, 0, none⟩) (m.map (Value.int k)).length cap] w (EndS w none (out m)) := by
      refine calls_of_wp hf (body_is hbody) ?_
      simp only [List.length_map]
      exact Goes.sound hT hm (w0 := w) (row := none) (h m ty hp) _ _ w hrel
    exact hg.mono fun e w' ⟨u, u1, u2, u3⟩ => ⟨u, u1, u2, u3 ρ⟩

theorem spA_own {k : IntKind} {e : TypeId} {out : List Int → SRes} {pre : List Int → List Prop} (h : ∀ l, AllP (pre l) → Goes P T fn (OutIs (out l)) [.code (bodyOf fn)] (startA fn.ntmps k l e .sl)) : SlOK P f (spA k (.own e) out pre) := by
  intro p o pr hres hp ρ v w harg
  refine ⟨enters hf hname hbody v w, ?_⟩
  obtain ⟨cs, l, b, rfl, hc, cap, arr, rfl, hw, ht, hcap, hm2, hsz⟩ := harg
  simp only [spA] at hres
  cases hd : decInts k cs with
  | none => simp [hd] at hres
  | some m =>
    simp only [hd] at hres
    cases hres
    rw [decInts_spec hd] at hc
    cases hc
    have hrel := startA_rel (Nat.le_of_ble_eq_true hn) (k := k) (l := m) (e := e) (kd := .sl) (w := w) (row := some b) (b := b) (cap := cap) rfl hw (by simpa using ht) (by simpa using hcap) (fun _ => ⟨hsz, hm2⟩) Kd.noConfusion (.inr rfl)
    have hg : Calls P f #[.slice (some ⟨b, 0, none⟩) (m.map (Value.int k)).length cap] w (EndS w (some b) (out m)) := by
      refine calls_of_wp hf (body_is hbody) ?_
      simp only [List.length_map]
      exact Goes.sound hT hm (w0 := w) (row := some b) (h m hp) _ _ w hrel
    exact hg.mono fun e w' ⟨u, u1, u2, u3⟩ => ⟨u, u1, u2, u3 ρ⟩

theorem spD_ok {α : Type} {A : Dec α} {out : α → SRes} {pre : α → List Prop} (h : ∀ x, AllP (pre x) → Goes P T fn (OutIs (out x)) [.code (bodyOf fn)] (start fn.ntmps [A.can x])) : SlOK P f (spD A out pre) := by
  intro p o pr hres hp ρ v w harg
  refine ⟨enters hf hname hbody v w, ?_⟩
  have harg : denP ρ p = some v := harg
  simp only [spD] at hres
  cases hd : A.dec p with
  | none => simp [hd] at hres
  | some xp =>
    obtain ⟨x, p'⟩ := xp
    simp only [hd] at hres
    cases hres
    obtain ⟨hp1, hp2⟩ := AllP_append hp
    have hv := A.law hd hp2 harg
    have hrel := start_rel (ρ0 := ⟨fun _ _ => none, fun _ _ => 0⟩) rfl (ps := [A.can x]) (vals := [v]) (by simp only [pvVals, hv]) (Nat.le_of_ble_eq_true hn) (fun b => (none : Option Nat) = some b) w
    have hg : Calls P f #[v] w (EndS w none (out x)) := by
      refine calls_of_wp hf (body_is hbody) ?_
      exact Goes.sound hT hm (w0 := w) (row := none) (h x hp1) _ _ w hrel
    exact hg.mono fun e w' ⟨u, u1, u2, u3⟩ => ⟨u, u1, u2, u3 ρ⟩
end

end Eng
