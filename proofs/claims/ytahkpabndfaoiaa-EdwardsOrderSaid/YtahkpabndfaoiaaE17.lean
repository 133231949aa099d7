/-
A program's operations carried out on values written out: functions with loops gone through from place to place, of plain arguments and results.
-/
import Derived.Test.YtahkpabndfaoiaaE16
namespace Eng
open Go Go.RowKit

section
variable {P : Program} {T : Table} (hT : TableOK P T) (hm : P.follows .mixedOrders = true) {f : FuncId} {fn : Func} (hf : P.funcs[f]? = some fn) (hname : (fn.name == "runtime.NumGoroutine") = false) (hbody : fn.body.isSome = true)
include hf hbody hT hm

theorem goes_calls {ps : List PV} {vals : List Value} {sv : SV} {v : Value} (hps : pvVals ps = some vals) (hn : Nat.ble ps.length fn.ntmps = true) (hv : sv.val? = some v)
    (g : Goes P T fn (OutIs (.val sv)) [.code (bodyOf fn)] (start fn.ntmps ps)) (w : World) : Calls P f vals.toArray w fun e w' => e = .returned v ∧ Below w.heap.size w w' := by
  have hrel := start_rel (ρ0 := ⟨fun _ _ => none, fun _ _ => 0⟩) rfl hps (Nat.le_of_ble_eq_true hn) (fun b => (none : Option Nat) = some b) w
  have hg : Calls P f vals.toArray w (EndS w none (.val sv)) := by
    refine calls_of_wp hf (body_is hbody) ?_
    exact Goes.sound hT hm (w0 := w) (row := none) g _ _ w hrel
  refine hg.mono ?_
  rintro e w' ⟨u, rfl, hg, hr⟩
  have hu := SV.val?_spec hv (hr ⟨fun _ _ => none, fun _ _ => 0⟩)
  subst hu
  exact ⟨rfl, hg.os, hg.tape, hg.output, hg.size, fun k hk => hg.block k hk (by simp)⟩

include hname
theorem goes1_ok {α : Type} {A : Dec α} {res : α → SV × List Prop} (hn : Nat.ble 1 fn.ntmps = true) (hv : ∀ x, ∃ v, (res x).1.val? = some v)
    (g : ∀ x, AllP (res x).2 → Goes P T fn (OutIs (.val (res x).1)) [.code (bodyOf fn)] (start fn.ntmps [A.can x])) : SpecOK P f (spec1 A res) := by
  refine spec1_calls hf hname hbody fun x hx va ha => ?_
  obtain ⟨v, hv⟩ := hv x
  exact ⟨v, hv, fun w => goes_calls hT hm hf hbody (ps := [A.can x]) (vals := [va]) (by simp only [pvVals, ha]) hn hv (g x hx) w⟩
theorem goes2_ok {α β : Type} {A : Dec α} {B : Dec β} {res : α → β → SV × List Prop} (hn : Nat.ble 2 fn.ntmps = true) (hv : ∀ x y, ∃ v, (res x y).1.val? = some v)
    (g : ∀ x y, AllP (res x y).2 → Goes P T fn (OutIs (.val (res x y).1)) [.code (bodyOf fn)] (start fn.ntmps [A.can x, B.can y])) : SpecOK P f (spec2 A B res) := by
  refine spec2_calls hf hname hbody fun x y hx va vb ha hb => ?_
  obtain ⟨v, hv⟩ := hv x y
  exact ⟨v, hv, fun w => goes_calls hT hm hf hbody (ps := [A.can x, B.can y]) (vals := [va, vb]) (by simp only [pvVals, ha, hb]) hn hv (g x y hx) w⟩
theorem goes3_ok {α β γ : Type} {A : Dec α} {B : Dec β} {C : Dec γ} {res : α → β → γ → SV × List Prop} (hn : Nat.ble 3 fn.ntmps = true) (hv : ∀ x y z, ∃ v, (res x y z).1.val? = some v)
    (g : ∀ x y z, AllP (res x y z).2 → Goes P T fn (OutIs (.val (res x y z).1)) [.code (bodyOf fn)] (start fn.ntmps [A.can x, B.can y, C.can z])) : SpecOK P f (spec3 A B C res) := by
  refine spec3_calls hf hname hbody fun x y z hx va vb vc ha hb hc => ?_
  obtain ⟨v, hv⟩ := hv x y z
  exact ⟨v, hv, fun w => goes_calls hT hm hf hbody (ps := [A.can x, B.can y, C.can z]) (vals := [va, vb, vc]) (by simp only [pvVals, ha, hb, hc]) hn hv (g x y z hx) w⟩
end

end Eng
