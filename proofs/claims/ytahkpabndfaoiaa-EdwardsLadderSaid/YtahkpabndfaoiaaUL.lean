/-
The reference's points: multiples.
-/
import Derived.Test.YtahkpabndfaoiaaUK

/- The reference's points: multiples. -/
namespace Go.Proofs.Ytahkpabndfaoiaa
open Eng Go Go.RowKit Go.Proofs Ec

noncomputable abbrev cmF : Func := Try.f21
def r3C (p : Ec.R3) : List Cell := [.nm p.x, .nm p.y, .nm p.z]
def zero48 : List Cell := intsC .u64 (List.replicate 48 0)
def cmS (c : Cv) (p : Ec.R3) (e : Nat) (z : Ec.R3) (i : Int) : St := ⟨[.any, .any, .any, ptv 3, ptv 4, ptv 5, ptv 6, ptv 7, .pv (iv i)] ++ List.replicate 24 .any,
  [[], [], [], [⟨[.nm c.d, .nm c.b.x, .nm c.b.y, .nm c.b.z], 42, .var⟩], [⟨r3C p, 40, .var⟩], [⟨[.dig .u8 8 e 32], 23, .var⟩], [⟨zero48, 40, .var⟩], [⟨r3C z, 40, .var⟩]] ++ List.replicate 25 []⟩
def cmTd : Td := ⟨[3, 4, 5, 6, 7, 8], [], []⟩
section
variable (q : COps) (r : ROps) (c : Cv) (p z : Ec.R3) (e : Nat)
theorem cm_first : runS Try.prog (lookT (T24 q r)) cmF 1 cmTd 300 [.code (bodyOf cmF)] (Eng.start cmF.ntmps [cvP c, r3P p, keyP e]) =
    some (.at (.code (.loop (hd cmF).1) :: (hd cmF).2) (cmS c p e q.cnil 255), []) := by kernel_rfl
theorem cm_rounds : (List.range 256).map (fun (i : Nat) => runS Try.prog (lookT (T24 q r)) cmF 1 cmTd 300 (.code (hd cmF).1 :: .lp (hd cmF).1 :: (hd cmF).2) (cmS c p e z (255 - (i : Int)))) =
    (List.range 256).map fun (i : Nat) => cond (bitR e i) (some (.at (.lp (hd cmF).1 :: (hd cmF).2) (cmS c p e (q.cadd c.d (q.cadd c.d z z) p) (255 - ((i + 1 : Nat) : Int))), []))
      (some (.at (.lp (hd cmF).1 :: (hd cmF).2) (cmS c p e (q.cadd c.d z z) (255 - ((i + 1 : Nat) : Int))), [])) := by kernel_rfl
theorem cm_last : runS Try.prog (lookT (T24 q r)) cmF 1 cmTd 300 (.code (hd cmF).1 :: .lp (hd cmF).1 :: (hd cmF).2) (cmS c p e z (255 - ((256 : Nat) : Int))) =
    some (.out (.val (.pv (r3P z))), []) := by kernel_rfl
end
def rmulP (d : Fin Ec.P) (p : Ec.R3) (e : Nat) : Ec.R3 := often (raddP d) p (bits256 e 256) R3.nought
theorem cm_loop (c : Cv) (p : Ec.R3) (e : Nat) : ∀ n i (z : Ec.R3), 256 - i = n → i ≤ 256 → z = often (raddP c.d) p (bits256 e i) R3.nought →
    Goes Try.prog (lookT (T24 cops rops)) cmF (OutIs (.val (.pv (r3P (rmulP c.d p e))))) (.code (hd cmF).1 :: .lp (hd cmF).1 :: (hd cmF).2) (cmS c p e z (255 - (i : Int))) := by
  intro n
  induction n with
  | zero =>
    intro i z hn hi hz
    have : i = 256 := by omega
    subst this
    subst hz
    exact .out 1 cmTd 300 (cm_last cops rops c p _ e) trivial ⟨_, r3P_val _, r3P_val _⟩
  | succ n ih =>
    intro i z hn hi hz
    have hi' : i < 256 := by omega
    have hx := map_range_eq (cm_rounds cops rops c p z e) hi'
    have hs := often_snoc (raddP c.d) p (bitAt e i) (bits256 e i) R3.nought
    rw [← bits_succ, ← hz] at hs
    rw [bitR_is e i hi'] at hx
    generalize bitAt e i = b at *
    cases b with
    | true => exact .at 1 cmTd 300 hx trivial (.lp (ih (i + 1) _ (by omega) (by omega) hs.symm))
    | false => exact .at 1 cmTd 300 hx trivial (.lp (ih (i + 1) _ (by omega) (by omega) hs.symm))
theorem cmul_ok : SpecOK Try.prog 21 (spec3 dCv dR3 dK fun c p e => (.pv (r3P (rmulP c.d p e)), [])) :=
  goes3_ok T24_ok mixed Try.func21 (by decide +kernel) (by kernel_rfl) (by kernel_rfl) (fun c p e => ⟨_, r3P_val _⟩) fun c p e _ =>
    .at 1 cmTd 300 (cm_first cops rops c p e) trivial (.loop (cm_loop c p e 256 0 R3.nought rfl (by decide) rfl))
end Go.Proofs.Ytahkpabndfaoiaa
