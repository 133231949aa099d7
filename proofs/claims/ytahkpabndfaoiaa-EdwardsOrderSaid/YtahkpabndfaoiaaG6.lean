/-
What is known of the functions of points: multiples, the base's.
-/
import Derived.Test.YtahkpabndfaoiaaG5
namespace Go.Proofs.Ytahkpabndfaoiaa
open Eng Go Go.RowKit Go.Proofs Ec

def zeroX4 : X4 := ⟨toF (Fw.val4 0 0 0 0).toNat, toF (Fw.val4 0 0 0 0).toNat, toF (Fw.val4 0 0 0 0).toNat, toF (Fw.val4 0 0 0 0).toNat⟩
def zeroOb : Prop := W4 0 0 0 0 ∧ Fw.val4 0 0 0 0 < Ec.P
theorem zeroOb_ok : zeroOb := by
  unfold zeroOb W4 Fw.W
  rw [Fw.P_lit]
  unfold Fw.val4
  omega
theorem zeroX4_is : zeroX4 = X4.nil := by decide +kernel

def mulKeep : List Nat := [2, 3, 4, 5, 9]
noncomputable def mulS (o : AOps) (p : X4) (e i : Nat) (r : X4) : St :=
  setC (setS (first0 Try.prog (lookT (T7 o)) Try.f15 mulKeep 300 [ptP p, keyP e]) 9 (.pv (iv (i : Int)))) 5 [.fe r.x, .fe r.y, .fe r.z, .fe r.t]
theorem mul_first (o : AOps) (p : X4) (e : Nat) : first Try.prog (lookT (T7 o)) Try.f15 mulKeep 300 [ptP p, keyP e] = some (atHead Try.f15 (mulS o p e 0 (o.whole zeroX4)), [zeroOb, zeroOb, zeroOb, zeroOb]) := by kernel_rfl
theorem mul_rounds (o : AOps) (p r : X4) (e : Nat) : (List.range 256).map (fun i => round Try.prog (lookT (T7 o)) Try.f15 mulKeep 300 (mulS o p e i r)) =
    (List.range 256).map fun i => cond (bitAt e i) (some (again Try.f15 (mulS o p e (i + 1) (o.padd (o.padd r r) p)), [])) (some (again Try.f15 (mulS o p e (i + 1) (o.padd r r)), [])) := by kernel_rfl
theorem mul_last (o : AOps) (p r : X4) (e : Nat) : round Try.prog (lookT (T7 o)) Try.f15 mulKeep 300 (mulS o p e 256 r) = some (.out (.pv (ptP r)), []) := by kernel_rfl

def mulP (p : X4) (e : Nat) : X4 := X4.mulBits p (bits256 e 256) X4.nought
def specMulP : FnSpec := spec2 dP dK fun p e => (.pv (ptP (mulP p e)), [])
theorem apadd (p q : X4) : aops.padd p q = X4.add p q := rfl
theorem awhole (p : X4) : aops.whole p = X4.whole p := rfl
theorem whole_nil : X4.whole X4.nil = X4.nought := by unfold X4.whole; exact if_pos rfl
theorem mulP_ok : SpecOK Try.prog 15 specMulP :=
  spec2_calls Try.func15 (by decide +kernel) (by kernel_rfl) fun p e _ va vb ha hb => by
    refine ⟨_, ptP_val _, fun w => ?_⟩
    refine loopCalls (m := 300) (fn := Try.f15) (T7_ok) mixed Try.func15 (by kernel_rfl) 256 (mulS aops p e) (fun i r => r = X4.mulBits p (bits256 e i) X4.nought) (by simp only [pvVals]; rw [show (ptP p).val? = some va from ha, show (keyP e).val? = some vb from hb]) (by kernel_rfl) ⟨_, _, mul_first aops p e, ⟨zeroOb_ok, zeroOb_ok, zeroOb_ok, zeroOb_ok, trivial⟩, ?_⟩ ?_ ?_ w
    · rw [awhole, zeroX4_is, whole_nil]; rfl
    · intro i r hi hr
      have h := map_range_eq (mul_rounds aops p r e) hi
      rw [h]
      subst hr
      rw [bits_succ]
      unfold X4.mulBits
      rw [often_snoc]
      cases bitAt e i with
      | true => exact ⟨_, _, rfl, trivial, rfl⟩
      | false => exact ⟨_, _, rfl, trivial, rfl⟩
    · intro r hr
      subst hr
      exact ⟨_, _, mul_last aops p _ e, trivial, ptP_val _⟩

theorem xNum_ex : ∃ f : X4 → Nat, ∀ p, f p = (flatOf p).1.val := ⟨_, fun _ => rfl⟩
theorem yNum_ex : ∃ f : X4 → Nat, ∀ p, f p = (flatOf p).2.val := ⟨_, fun _ => rfl⟩
theorem bNum_ex : ∃ f : X4 → Nat, ∀ p, f p = xyNat (flatOf p).1 (flatOf p).2 := ⟨_, fun _ => rfl⟩
/-- hidden from reckoning -/
noncomputable def xNum : X4 → Nat := Classical.choose xNum_ex
noncomputable def yNum : X4 → Nat := Classical.choose yNum_ex
noncomputable def bNum : X4 → Nat := Classical.choose bNum_ex
theorem xNum_eq (p : X4) : xNum p = (flatOf p).1.val := Classical.choose_spec xNum_ex p
theorem yNum_eq (p : X4) : yNum p = (flatOf p).2.val := Classical.choose_spec yNum_ex p
theorem bNum_eq (p : X4) : bNum p = xyNat (flatOf p).1 (flatOf p).2 := Classical.choose_spec bNum_ex p
def specK1 (f : X4 → Nat) : FnSpec := spec1 dP fun p => (.pv (keyP (f p)), [])
theorem x_m (p : X4) : Meets (callX Try.prog (lookT (T7 aops)) 2000 Try.f26 [ptP p]) (.pv (keyP (xNum p))) := by
  have h := x_x aops p
  rw [aflat, anum, ← xNum_eq] at h
  exact ⟨_, _, _, h, trivial, keyP_val _, keyP_val _⟩
theorem y_m (p : X4) : Meets (callX Try.prog (lookT (T7 aops)) 2000 Try.f27 [ptP p]) (.pv (keyP (yNum p))) := by
  have h := y_x aops p
  rw [aflat, anum, ← yNum_eq] at h
  exact ⟨_, _, _, h, trivial, keyP_val _, keyP_val _⟩
theorem b_m (p : X4) : Meets (callX Try.prog (lookT (T7 aops)) 2000 Try.f19 [ptP p]) (.pv (keyP (bNum p))) := by
  have h := ptbytes_m p
  rw [← bNum_eq] at h
  exact h
theorem x_ok : SpecOK Try.prog 26 (specK1 xNum) :=
  spec1_ok Try.func26 (by decide +kernel) (by kernel_rfl) T7_ok mixed (by kernel_rfl) fun p _ => x_m p
theorem y_ok : SpecOK Try.prog 27 (specK1 yNum) :=
  spec1_ok Try.func27 (by decide +kernel) (by kernel_rfl) T7_ok mixed (by kernel_rfl) fun p _ => y_m p
theorem ptbytes_ok : SpecOK Try.prog 19 (specK1 bNum) :=
  spec1_ok Try.func19 (by decide +kernel) (by kernel_rfl) T7_ok mixed (by kernel_rfl) fun p _ => b_m p
/-- the same, and multiples, bytes, reading, with nothing known of them -/
structure POps extends AOps where
  pmul : X4 → Nat → X4
  pbase : X4
  pbytes : X4 → Nat
  px : X4 → Nat
  py : X4 → Nat
  pof : Nat → Option X4
noncomputable def pops : POps where
  toAOps := aops
  pmul := mulP
  pbase := base4
  pbytes := bNum
  px := xNum
  py := yNum
  pof := ofP
def T8 (o : POps) : List (FuncId × FnSpec) :=
  (15, spec2 dP dK fun p e => (.pv (ptP (o.pmul p e)), [])) ::
  (43, spec0 (.pv (ptP o.pbase))) ::
  (19, specK1 o.pbytes) ::
  (26, specK1 o.px) ::
  (27, specK1 o.py) ::
  (23, spec1 dK fun n => (.tup (optP (o.pof n)), [])) :: T7 o.toAOps
theorem T8_ok : TableOK Try.prog (lookT (T8 pops)) :=
  tableOK_cons mulP_ok (tableOK_cons base_ok (tableOK_cons ptbytes_ok (tableOK_cons x_ok (tableOK_cons y_ok (tableOK_cons ptof_ok T7_ok)))))

theorem baseK_x (o : POps) (e : Nat) : callX Try.prog (lookT (T8 o)) 300 Try.f13 [keyP e] = some (.pv (ptP (o.pmul o.pbase e)), []) := by kernel_rfl
def specBase : FnSpec := spec1 dK fun e => (.pv (ptP (mulP base4 e)), [])
theorem baseK_ok : SpecOK Try.prog 13 specBase :=
  spec1_ok Try.func13 (by decide +kernel) (by kernel_rfl) T8_ok mixed (by kernel_rfl) fun e _ => ⟨_, _, _, baseK_x pops e, trivial, ptP_val _, ptP_val _⟩
def T9 (o : POps) : List (FuncId × FnSpec) :=
  (13, spec1 dK fun e => (.pv (ptP (o.pmul o.pbase e)), [])) :: T8 o
theorem T9_ok : TableOK Try.prog (lookT (T9 pops)) := tableOK_cons baseK_ok T8_ok

end Go.Proofs.Ytahkpabndfaoiaa
