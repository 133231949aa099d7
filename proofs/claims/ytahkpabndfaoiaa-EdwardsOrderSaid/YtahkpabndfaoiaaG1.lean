/-
Points as values: four numbers in a row.
-/
import Derived.Test.YtahkpabndfaoiaaF9
import Derived.Test.YtahkpabndfaoiaaM5
namespace Eng
open Go Go.RowKit Ec

def takeE : List Cell → Option (Fin Ec.P × List Prop × List Cell)
  | .fe x :: l => some (x, [], l)
  | a :: b :: c :: d :: l => match decInts .u64 [a, b, c, d] with
    | some [p, q, r, s] => some (toF (Fw.val4 p q r s).toNat, [W4 p q r s ∧ Fw.val4 p q r s < Ec.P], l)
    | _ => none
  | _ => none

theorem denCs_app {ρ : Env} : ∀ {cs ds : List Cell} {v : List Value}, denCs ρ (cs ++ ds) = some v → ∃ a b, denCs ρ cs = some a ∧ denCs ρ ds = some b ∧ v = a ++ b
  | [], ds, v, h => ⟨[], v, rfl, h, rfl⟩
  | c :: cs, ds, v, h => by
    simp only [List.cons_append, denCs] at h
    cases h1 : denC ρ c with
    | none => simp [h1] at h
    | some x =>
      cases h2 : denCs ρ (cs ++ ds) with
      | none => simp [h1, h2] at h
      | some y =>
        simp only [h1, h2] at h
        cases h
        obtain ⟨a, b, e1, e2, rfl⟩ := denCs_app h2
        exact ⟨x ++ a, b, by simp [denCs, h1, e1], e2, by simp⟩

theorem takeE_spec {ρ : Env} {cs l : List Cell} {x : Fin Ec.P} {pre : List Prop} {v : List Value} (h : takeE cs = some (x, pre, l)) (hp : AllP pre) (e : denCs ρ cs = some v) :
    ∃ w, denCs ρ l = some w ∧ v = (digI 64 x.val 4).map (Value.int .u64) ++ w := by
  unfold takeE at h
  split at h
  · cases h
    obtain ⟨a, b, e1, e2, rfl⟩ := denCs_app (cs := [.fe x]) e
    refine ⟨b, e2, ?_⟩
    simp only [denCs, denC, digL_I] at e1
    cases e1
    simp
  · rename_i a b c d l' _
    split at h
    · rename_i p q r s hd
      cases h
      obtain ⟨u, w, e1, e2, rfl⟩ := denCs_app (cs := [a, b, c, d]) e
      refine ⟨w, e2, ?_⟩
      rw [decInts_spec hd] at e1
      cases e1
      rw [feL_of hp.1.1 hp.1.2]
    · cases h
  · cases h

/-- points -/
def ptP (p : X4) : PV := .agg [.fe p.x, .fe p.y, .fe p.z, .fe p.t]
def ptV (p : X4) : Value := intsV .u64 (digI 64 p.x.val 4 ++ digI 64 p.y.val 4 ++ digI 64 p.z.val 4 ++ digI 64 p.t.val 4)
theorem ptP_val (p : X4) : (ptP p).val? = some (ptV p) := rfl

def decP (p : PV) : Option (X4 × List Prop) := match p with
  | .one _ => none
  | .agg cs => match takeE cs with
    | some (x, p1, cs) => match takeE cs with
      | some (y, p2, cs) => match takeE cs with
        | some (z, p3, cs) => match takeE cs with
          | some (t, p4, []) => some (⟨x, y, z, t⟩, p1 ++ (p2 ++ (p3 ++ p4)))
          | _ => none
        | none => none
      | none => none
    | none => none

def dP : Dec X4 where
  dec := decP
  can := ptP
  law := by
    intro p x pre ρ v h hp e
    unfold decP at h
    split at h
    · cases h
    · rename_i cs
      split at h
      · rename_i x1 p1 c1 h1
        split at h
        · rename_i x2 p2 c2 h2
          split at h
          · rename_i x3 p3 c3 h3
            split at h
            · rename_i x4 p4 h4
              cases h
              obtain ⟨q1, hp⟩ := AllP_append hp
              obtain ⟨q2, hp⟩ := AllP_append hp
              obtain ⟨q3, q4⟩ := AllP_append hp
              simp only [denP] at e
              cases hd : denCs ρ cs with
              | none => simp [hd] at e
              | some vs =>
                simp only [hd] at e
                cases e
                obtain ⟨w1, e1, rfl⟩ := takeE_spec h1 q1 hd
                obtain ⟨w2, e2, rfl⟩ := takeE_spec h2 q2 e1
                obtain ⟨w3, e3, rfl⟩ := takeE_spec h3 q3 e2
                obtain ⟨w4, e4, rfl⟩ := takeE_spec h4 q4 e3
                simp only [denCs] at e4
                cases e4
                rw [ptP_val]
                unfold ptV intsV
                simp
            · cases h
          · cases h
        · cases h
      · cases h

end Eng
