/-
The rows: keys as arguments, opened and shut; what a call that leaves the arguments alone comes to.
-/
import Derived.Test.YtahkpabndfaoiaaRows
import Derived.Test.YtahkpabndfaoiaaUH
import Derived.ProofKit
import Derived.OpenShut

/- The rows: keys as arguments, opened and shut; what a call that leaves the arguments alone comes to. -/
namespace Go.Proofs.Ytahkpabndfaoiaa
open Go.ChangeShapes Go.WideShapes Go.ChangeAt Go.RowKit Eng

theorem own : ownKnob Try.prog.godebug = none := by kernel_rfl
theorem und_key : Try.prog.underlying 23 = some (.array 32 5) := by kernel_rfl
theorem und_byte : Try.prog.underlying 5 = some (.int .u8) := by kernel_rfl
theorem und_bool : Try.prog.underlying 4 = some .bool := by kernel_rfl
theorem cells_key : Try.prog.cellsOf 23 = 32 := by kernel_rfl
theorem cells_byte : Try.prog.cellsOf 5 = 1 := by kernel_rfl

/-- a key as data -/
def keyD (H : Type) (n : Nat) : DataW H := .agg ((digI 8 n 32).map fun x => .lit (.int .u8 x))

section
variable {H : Type} {enc : TypeId × Value → H} {w : World} {base : Nat} {spare : Nat → Bool} {held : Bool}

theorem mapM_range {α : Type} {f : Nat → Option α} {g : Nat → α} : ∀ (l : List Nat), (∀ i ∈ l, f i = some (g i)) → l.mapM f = some (l.map g)
  | [], _ => rfl
  | i :: l, h => by
    rw [List.mapM_cons, h i (.head _), mapM_range l fun j hj => h j (.tail _ hj)]
    rfl

theorem trod_array_mk {P : Program} {n m : Nat} {t e : TypeId} {cs : List Value} {xs : List (DataW H × List MemPlace)} (ht : P.underlying t = some (.array n e)) (hl : cs.length = P.cellsOf t)
    (hp : (List.range n).mapM (fun i => DataW.trod enc P w base spare held m e ((cs.drop (i * P.cellsOf e)).take (P.cellsOf e))) = some xs) : DataW.trod enc P w base spare held (m + 1) t cs = some (.agg (xs.map (·.1)), xs.flatMap (·.2)) := by
  unfold DataW.trod
  rw [ht]
  split <;> simp_all

theorem byte_wf {x : Int} (h : 0 ≤ x ∧ x < 256) : (Lit.int .u8 x).wf = true := by
  simp [Lit.wf, IntKind.min, IntKind.max, IntKind.signed, IntKind.bits]
  omega

theorem shut_key (n : Nat) : DataW.Trod enc Try.prog w base spare held 23 (keyV n) (keyD H n) [] := by
  refine ⟨2, ?_⟩
  have hel : ∀ i ∈ List.range 32, DataW.trod enc Try.prog w base spare held 1 5 ((((digI 8 n 32).map (Value.int .u8)).drop (i * Try.prog.cellsOf 5)).take (Try.prog.cellsOf 5)) = some ((.lit (.int .u8 (dg 8 n i)), []) : DataW H × List MemPlace) := by
    intro i hi
    have hi := List.mem_range.1 hi
    rw [cells_byte, Nat.mul_one]
    have : (((digI 8 n 32).map (Value.int .u8)).drop i).take 1 = [.int .u8 (dg 8 n i)] := by
      have hlt : i < ((digI 8 n 32).map (Value.int .u8)).length := by rw [List.length_map, digI_length]; exact hi
      rw [List.drop_eq_getElem_cons hlt]
      simp [digI]
    rw [this]
    unfold DataW.trod
    rw [und_byte]
    simp [byte_wf (dg_nn 8 n i)]
  have h := trod_array_mk (enc := enc) (w := w) (base := base) (spare := spare) (held := held) (m := 1) (cs := (digI 8 n 32).map (Value.int .u8)) und_key (by rw [cells_key, List.length_map, digI_length]) (mapM_range (List.range 32) hel)
  have hc : (keyV n).cells.toList = (digI 8 n 32).map (Value.int .u8) := rfl
  rw [hc, h]
  have e1 : ((List.range 32).map fun i => ((.lit (.int .u8 (dg 8 n i)), []) : DataW H × List MemPlace)).flatMap (·.2) = [] := by
    simp
  rw [e1]
  unfold keyD digI
  simp only [List.map_map]
  rfl

def intOf : Option Value → Int
  | some (.int _ x) => x
  | _ => 0
set_option maxRecDepth 100000 in
theorem open_key {b0 : Nat} {v : Value} {d : DataW H} {p : List MemPlace} (hval : Value.okWide Try.prog w .any b0 23 v) (h : DataW.Trod enc Try.prog w base spare held 23 v d p) : ∃ n, v = keyV n ∧ d = keyD H n ∧ p = [] := by
  obtain ⟨cs, rfl, hsz, _⟩ : ∃ cs, v = .agg cs ∧ cs.size = Try.prog.cellsOf 23 ∧ Row.okWide Try.prog w .any b0 23 cs := by
    simpa [Value.okWide, und_key] using hval
  rw [cells_key] at hsz
  obtain ⟨fuel, hf⟩ := h
  obtain ⟨xs, m, _, hx, hl, hxl, hel⟩ := DataW.trod_array und_key hf
  have hcl : cs.toList.length = 32 := by simpa using hsz
  have hi : ∀ i, i < 32 → ∃ x : Int, 0 ≤ x ∧ x < 256 ∧ cs.toList[i]? = some (.int .u8 x) ∧ xs[i]? = some (.lit (.int .u8 x), []) := by
    intro i hi
    have he := hel i hi
    rw [cells_byte, Nat.mul_one] at he
    have hlt : i < cs.toList.length := by omega
    have hc : ((Value.agg cs).cells.toList.drop i).take 1 = [cs.toList[i]] := by
      show (cs.toList.drop i).take 1 = _
      rw [List.drop_eq_getElem_cons hlt]
      rfl
    rw [hc] at he
    have hxi : i < xs.length := by omega
    rw [List.getElem?_eq_getElem hxi] at he
    obtain ⟨x, h1, h2, h3⟩ := DataW.trod_int und_byte he
    have hb := bounds_u8 h3
    refine ⟨x, hb.1, by omega, ?_, ?_⟩
    · rw [List.getElem?_eq_getElem hlt]
      simpa using h1
    · rw [List.getElem?_eq_getElem hxi, h2]
  let l : List Int := (List.range 32).map fun i => intOf cs.toList[i]?
  have hll : l.length = 32 := by simp [l]
  have hli : ∀ i, i < 32 → ∃ x : Int, 0 ≤ x ∧ x < 256 ∧ l[i]? = some x ∧ cs.toList[i]? = some (.int .u8 x) ∧ xs[i]? = some (.lit (.int .u8 x), []) := by
    intro i hi'
    obtain ⟨x, h0, h1, h2, h3⟩ := hi i hi'
    refine ⟨x, h0, h1, ?_, h2, h3⟩
    simp only [l, List.getElem?_map, List.getElem?_range hi', Option.map_some, h2, intOf]
  have hin : InD 8 l := by
    intro a ha
    obtain ⟨i, hi', rfl⟩ := List.getElem_of_mem ha
    obtain ⟨x, h0, h1, h2, _⟩ := hli i (by omega)
    rw [List.getElem?_eq_getElem hi'] at h2
    cases h2
    exact ⟨h0, h1⟩
  have hd : digI 8 (numI 8 l) 32 = l := by rw [← hll]; exact digI_numI hin
  refine ⟨numI 8 l, ?_, ?_, ?_⟩
  · unfold keyV intsV
    rw [hd]
    congr 1
    apply Array.ext'
    apply List.ext_getElem?
    intro i
    by_cases hi' : i < 32
    · obtain ⟨x, _, _, h2, h3, _⟩ := hli i hi'
      rw [h3]
      simp [h2]
    · rw [List.getElem?_eq_none (by omega), List.getElem?_eq_none (by simp; omega)]
  · simp only [Prod.mk.injEq] at hx
    rw [hx.1]
    unfold keyD
    rw [hd]
    congr 1
    apply List.ext_getElem?
    intro i
    by_cases hi' : i < 32
    · obtain ⟨x, _, _, h2, _, h4⟩ := hli i hi'
      simp [h2, h4]
    · rw [List.getElem?_eq_none (by simp; omega), List.getElem?_eq_none (by simp; omega)]
  · simp only [Prod.mk.injEq] at hx
    rw [hx.2]
    rw [List.flatMap_eq_nil_iff]
    intro y hy
    obtain ⟨i, hi', rfl⟩ := List.getElem_of_mem hy
    obtain ⟨x, _, _, _, _, h4⟩ := hli i (by omega)
    rw [List.getElem?_eq_getElem hi'] at h4
    rw [Option.some.inj h4]

theorem post_plain {P : Program} {f : Func} {s : ChangeSpec} {apart fresh handsOn again : Bool} {W W' : World} {args : Array Value} {v : Value} {ds gs : List (DataW H)}
    (hW : DataW.Whole enc P f.params.toList s.vars apart W args.toList ds gs [])
    (hres : ∀ (b : Nat) (sp : Nat → Bool) (hd : Bool), DataW.TrodAll enc P W' b sp hd f.resultTypes.toList (v.resultList f.resultTypes.size) (s.fn H (ds ++ gs)).results [])
    (hargs : ∀ sp : Nat → Bool, DataW.TrodAll enc P W' 0 sp true f.params.toList args.toList (s.fn H (ds ++ gs)).args [])
    (hvars : ∀ sp : Nat → Bool, DataW.TrodVars enc P W' sp s.vars (s.fn H (ds ++ gs)).vars [])
    (hk : W.keptBut W' (· ∈ ([] : List MemPlace)))
    (hok : ∀ (j : Nat) (t : TypeId) (r : Value), f.resultTypes[j]? = some t → (v.resultList f.resultTypes.size)[j]? = some r → Value.okWide P W' .any 0 t r) :
    s.post enc P f apart fresh handsOn again W args v W' := by
  refine ⟨ds, gs, [], [], [], [], hW, hres _ _ _, hargs _, hvars _, World.keptBut_mono (fun p hp => absurd hp List.not_mem_nil) hk, fun _ => ?_⟩
  obtain ⟨_, _, _, _, _, hz, hn⟩ := hW
  refine ⟨hok, _, _, ([] ++ []) ++ [], ⟨[] ++ [], [], trodAll_append (hargs _) (hres _ _ _), hvars _, rfl, ?_, ?_⟩, ?_⟩
  · intro b off hp
    cases hp
  · intro ha
    exact hn ha
  · intro p hp _
    cases hp

end

end Go.Proofs.Ytahkpabndfaoiaa
