/-
The reference's number of bits, modulo the group's order.
-/
import Derived.Test.YtahkpabndfaoiaaH2
import Derived.Test.YtahkpabndfaoiaaH3
namespace Eng
open Go Go.RowKit
def dblD : List Int → Int → List Int
  | [], _ => []
  | a :: l, c =>
    let x := wu (wu (2 * a) + c)
    x.tmod 65536 :: dblD l (wu (x.tdiv 65536))
end Eng
namespace Go.Proofs.Ytahkpabndfaoiaa
open Eng Go Go.RowKit Go.Proofs

/-- comparison, difference, the order, with nothing known of them -/
structure ROps where
  less : Nat → Nat → Bool
  minus : Nat → Nat → Nat
  ord : Nat
  prime : Nat
def T10 (o : ROps) : List (FuncId × FnSpec) := [
  (60, spec2 dN dN fun a b => (.pv (bo (o.less a b)), [])),
  (75, spec2 dN dN fun a b => (.pv (numP (o.minus a b)), [])),
  (11, spec0 (.pv (numP o.ord))),
  (61, spec0 (.pv (numP o.prime))),
  (41, specROf),
  (10, specRBytes),
  (48, specRSmall)]
def rops : ROps where
  less a b := decide (a % 2 ^ 256 < b % 2 ^ 256)
  minus := minusN
  ord := Ec.L
  prime := Ec.P
theorem rops_less (a b : Nat) : rops.less a b = decide (a % 2 ^ 256 < b % 2 ^ 256) := rfl
theorem rops_minus (a b : Nat) : rops.minus a b = a % 2 ^ 256 + 2 ^ 256 - b % 2 ^ 256 := rfl
theorem rops_ord : rops.ord = Ec.L := rfl
theorem rops_prime : rops.prime = Ec.P := rfl
theorem T10_ok : TableOK Try.prog (lookT (T10 rops)) :=
  tableOK_cons rless_ok (tableOK_cons rminus_ok (tableOK_cons order_ok (tableOK_cons rprime_ok (tableOK_cons rof_ok (tableOK_cons rbytes_ok (tableOK_cons rsmall_ok (tableOK_nil _)))))))

def zero16 : List Cell := intsC .u64 (List.replicate 16 0)
def btTm (l : List Int) (i : Int) : List SV := [.pv (.one (.sli 0 0 0 l.length none true)), .any, .pv (.one (.ptr 2 0 0)), .pv (.one (.ptr 3 0 0)), .pv (.one (.ptr 4 0 0)), .pv (iv i)] ++ List.replicate 39 .any
def btHp (l : List Int) (e : TypeId) (c3 : List Cell) (q : Nat) : Heap := [[⟨[.arr .u8 l], e, .ro⟩], [], [⟨zero16, 32, .var⟩], [⟨c3, 32, .var⟩], [⟨[.dig .u64 16 q 16], 32, .var⟩]] ++ List.replicate 40 []
def btS (l : List Int) (e : TypeId) (c3 : List Cell) (q : Nat) (i : Int) : St := ⟨btTm l i, btHp l e c3 q⟩
noncomputable abbrev btF : Func := Try.f71
def btTd : Td := ⟨[0, 2, 3, 4, 5], [], []⟩
theorem bt_first (o : ROps) (l : List Int) (e : TypeId) : runS Try.prog (lookT (T10 o)) btF 1 btTd 300 [.code (bodyOf btF)] (startA btF.ntmps .u8 l e .ro) =
    some (.at (.code (.loop (hd btF).1) :: (hd btF).2) (btS l e zero16 o.ord 0), []) := by kernel_rfl
def btD (l : List Int) (R : Nat) (i : Int) : List Int := dblD (digI 16 R 16) (wu (l.getD (0 + i.toNat * 1) 0))
theorem bt_round (o : ROps) (l : List Int) (e : TypeId) (R : Nat) (i : Int) : runS Try.prog (lookT (T10 o)) btF 1 btTd 3000 (.code (hd btF).1 :: .lp (hd btF).1 :: (hd btF).2) (btS l e [.dig .u64 16 R 16] o.ord i) =
    cond (decide (i < l.length)) (cond (!o.less (numI 16 (btD l R i)) o.ord)
      (some (.at (.lp (hd btF).1 :: (hd btF).2) (btS l e [.dig .u64 16 (o.minus (numI 16 (btD l R i)) o.ord) 16] o.ord (wi (i + 1))), [∀ a ∈ btD l R i, 0 ≤ a ∧ a < 65536, ∀ a ∈ btD l R i, 0 ≤ a ∧ a < 65536, idxOk i l.length = true, Nat.blt (0 + i.toNat * 1) l.length = true]))
      (some (.at (.lp (hd btF).1 :: (hd btF).2) (btS l e (intsC .u64 (btD l R i)) o.ord (wi (i + 1))), [∀ a ∈ btD l R i, 0 ≤ a ∧ a < 65536, idxOk i l.length = true, Nat.blt (0 + i.toNat * 1) l.length = true])))
      (some (.out (.val (.pv (numP R))), [])) := by kernel_rfl

theorem dblD_spec : ∀ {l : List Int} {c : Int}, InD 16 l → (c = 0 ∨ c = 1) →
    InD 16 (dblD l c) ∧ (dblD l c).length = l.length ∧ ∃ c' : Nat, (c' = 0 ∨ c' = 1) ∧ numI 16 (dblD l c) + 2 ^ (16 * l.length) * c' = 2 * numI 16 l + c.toNat
  | [], c, _, hc => ⟨InD.nil 16, rfl, c.toNat, by rcases hc with rfl | rfl <;> simp, by simp [numI, dblD]⟩
  | a :: l, c, hl, hc => by
    have ha := hl.head
    simp only [show ((2 ^ 16 : Nat) : Int) = 65536 from rfl] at ha
    have hx : wu (wu (2 * a) + c) = 2 * a + c := by
      have h1 : wu (2 * a) = 2 * a := wu_id (by omega) (by omega)
      rw [h1]
      exact wu_id (by rcases hc with rfl | rfl <;> omega) (by rcases hc with rfl | rfl <;> omega)
    simp only [dblD, hx]
    generalize hX : 2 * a + c = X
    have hX0 : 0 ≤ X ∧ X < 131072 := by rcases hc with rfl | rfl <;> omega
    have e1 : X.tmod 65536 = X % 65536 := Int.tmod_eq_emod_of_nonneg hX0.1
    have e2 : X.tdiv 65536 = X / 65536 := Int.tdiv_eq_ediv_of_nonneg hX0.1
    have e3 : wu (X / 65536) = X / 65536 := wu_id (by omega) (by omega)
    rw [e1, e2, e3]
    obtain ⟨i1, i2, c', i3, i4⟩ := dblD_spec (l := l) (c := X / 65536) hl.tail (by omega)
    refine ⟨InD.cons (by simp only [show ((2 ^ 16 : Nat) : Int) = 65536 from rfl]; omega) i1, by simp [i2], c', i3, ?_⟩
    simp only [numI, List.length_cons]
    rw [show 16 * (l.length + 1) = 16 + 16 * l.length by omega, Nat.pow_add]
    have hm16 : (2 : Nat) ^ 16 = 65536 := rfl
    rw [hm16, Nat.mul_assoc]
    generalize 2 ^ (16 * l.length) * c' = Q at *
    generalize numI 16 (dblD l (X / 65536)) = R at *
    omega

theorem minus_mod {x n m : Nat} (h : x < m) (hn : n < m) (hx : n ≤ x) : (x % m + m - n % m) % m = (x - n) % m := by
  rw [Nat.mod_eq_of_lt h, Nat.mod_eq_of_lt hn]
  have : x + m - n = x - n + m := by omega
  rw [this, Nat.add_mod_right]

def bitG (n R : Nat) (b : Int) : Nat := cond (decide (2 * R + b.toNat < n)) (2 * R + b.toNat) (2 * R + b.toNat - n)
theorem bitG_lt {n R : Nat} {b : Int} (h : R < n) (hb : 0 ≤ b ∧ b < 2) : bitG n R b < n := by
  unfold bitG
  by_cases hx : 2 * R + b.toNat < n
  · rw [decide_eq_true hx]; exact hx
  · rw [decide_eq_false hx]
    simp only [cond_false]
    omega
theorem bitG_mod {n R : Nat} {b : Int} (h : R < n) (hb : 0 ≤ b ∧ b < 2) : bitG n R b = (2 * R + b.toNat) % n := by
  unfold bitG
  by_cases hx : 2 * R + b.toNat < n
  · rw [decide_eq_true hx, Nat.mod_eq_of_lt hx]; rfl
  · rw [decide_eq_false hx]
    simp only [cond_false]
    have : 2 * R + b.toNat - n < n := by omega
    rw [← Nat.mod_eq_of_lt this, ← Nat.mod_eq_sub_mod (by omega)]
theorem bitG_step {n R m y : Nat} {b : Int} (hx : 2 * R + b.toNat < m) (hn : n < m) : (decide (2 * R + b.toNat < n) = true → bitG n R b = 2 * R + b.toNat) ∧
    (decide (2 * R + b.toNat < n) = false → (2 * R + b.toNat) % m + m - n % m = y → y % m = bitG n R b % m) := by
  unfold bitG
  refine ⟨fun h => by rw [h]; rfl, fun h hy => ?_⟩
  rw [h, cond_false, ← hy]
  exact minus_mod hx hn (by simpa using h)
def bitN (R : Nat) (b : Int) : Nat := bitG Ec.L R b
def bitsN (l : List Int) : Nat := l.foldl bitN 0
theorem L_pos : 0 < Ec.L := by decide
theorem L_lt : Ec.L < 2 ^ 253 := by decide
theorem bitN_lt {R : Nat} {b : Int} (h : R < Ec.L) (hb : 0 ≤ b ∧ b < 2) : bitN R b < Ec.L := bitG_lt h hb
theorem bitN_mod {R : Nat} {b : Int} (h : R < Ec.L) (hb : 0 ≤ b ∧ b < 2) : bitN R b = (2 * R + b.toNat) % Ec.L := bitG_mod h hb
theorem lt_mod {x n m : Nat} (h : x < m) (hn : n < m) : decide (x % m < n % m) = decide (x < n) := decide_eq_decide.2 (by rw [Nat.mod_eq_of_lt h, Nat.mod_eq_of_lt hn])
theorem btD_num {l : List Int} {R : Nat} {i : Nat} (hR : R < Ec.L) (hi : i < l.length) (hl : ∀ a ∈ l, 0 ≤ a ∧ a < 2) :
    InD 16 (btD l R i) ∧ (btD l R i).length = 16 ∧ numI 16 (btD l R i) = 2 * R + l[i].toNat := by
  have ha : 0 ≤ l[i] ∧ l[i] < 2 := hl _ (List.getElem_mem hi)
  have hg : l.getD (0 + (i : Int).toNat * 1) 0 = l[i] := by
    have : 0 + (i : Int).toNat * 1 = i := by omega
    rw [this]
    simp [List.getD, List.getElem?_eq_getElem hi]
  unfold btD
  rw [hg, wu_id ha.1 (by omega)]
  obtain ⟨h1, h2, c', h3, h4⟩ := dblD_spec (l := digI 16 R 16) (c := l[i]) (InD.dig _ _ _) (by omega)
  rw [digI_length] at h2 h4
  refine ⟨h1, h2, ?_⟩
  rw [numI_digI] at h4
  have hRl := L_lt
  have e : (2 : Nat) ^ (16 * 16) = 2 ^ 256 := rfl
  rw [e] at h4
  have hm : R % 2 ^ 256 = R := Nat.mod_eq_of_lt (by omega)
  rw [hm] at h4
  have hlt := numI_lt h1
  rw [h2] at hlt
  rcases h3 with rfl | rfl
  · omega
  · omega

theorem dig_mod_cells (ρ : Env) {a b : Nat} (h : a % 2 ^ 256 = b % 2 ^ 256) : denCs ρ [.dig .u64 16 a 16] = denCs ρ [.dig .u64 16 b 16] := by
  simp only [denCs, denC, digL_I]
  rw [← digI_mod 16 a 16, ← digI_mod 16 b 16]
  have e : (2 : Nat) ^ (16 * 16) = 2 ^ 256 := rfl
  rw [e, h]
theorem ints_cells (ρ : Env) {l : List Int} {N : Nat} (hl : l.length = 16) (hd : InD 16 l) (hN : numI 16 l = N) : denCs ρ (intsC .u64 l) = denCs ρ [.dig .u64 16 N 16] := by
  have : l = digI 16 N 16 := digI_of hl hd (by
    have := numI_lt hd
    rw [hl] at this
    rw [← hN, Nat.mod_eq_of_lt this])
  have h1 := denCs_ints ρ .u64 l
  unfold intsC
  rw [h1]
  simp only [denCs, denC, digL_I, List.append_nil]
  rw [← this]

theorem bits_take (l : List Int) (j : Nat) (hj : j < l.length) : bitsN (l.take (j + 1)) = bitN (bitsN (l.take j)) l[j] := by
  unfold bitsN
  rw [List.take_add_one, List.getElem?_eq_getElem hj, List.foldl_append]
  rfl
theorem bitsN_lt {l : List Int} (hl : ∀ a ∈ l, 0 ≤ a ∧ a < 2) : ∀ j, j ≤ l.length → bitsN (l.take j) < Ec.L
  | 0, _ => by simpa [bitsN] using L_pos
  | j + 1, hj => by
    rw [bits_take l j (by omega)]
    exact bitN_lt (bitsN_lt hl j (by omega)) (hl _ (List.getElem_mem _))

theorem bt_conv {k k' : List It} {st : St} {ob : List Prop} {l : List Int} {e : TypeId} {q y z : Nat} {i : Int} {R : SRes → Prop} (hr : runS Try.prog (lookT (T10 rops)) btF 1 btTd 3000 k st = some (.at (.lp (hd btF).1 :: k') (btS l e [.dig .u64 16 y 16] q i), ob)) (ho : AllP ob) (h : y % 2 ^ 256 = z % 2 ^ 256)
    (hn : Goes Try.prog (lookT (T10 rops)) btF R (.code (hd btF).1 :: .lp (hd btF).1 :: k') (btS l e [.dig .u64 16 z 16] q i)) : Goes Try.prog (lookT (T10 rops)) btF R k st :=
  .at 1 btTd 3000 hr ho (.cells 3 [.dig .u64 16 z 16] (fun ρ => dig_mod_cells ρ h) (.lp hn))
theorem bt_loop (l : List Int) (e : TypeId) (hlen : l.length ≤ 16777216) (hl : ∀ a ∈ l, 0 ≤ a ∧ a < 2) : ∀ d j, l.length - j = d → j ≤ l.length →
    Goes Try.prog (lookT (T10 rops)) btF (OutIs (.val (.pv (numP (bitsN l))))) (.code (hd btF).1 :: .lp (hd btF).1 :: (hd btF).2) (btS l e [.dig .u64 16 (bitsN (l.take j)) 16] Ec.L (j : Int)) := by
  intro d
  induction d with
  | zero =>
    intro j hd hj
    have hjl : j = l.length := by omega
    subst hjl
    have hr := bt_round rops l e (bitsN (l.take l.length)) (l.length : Int)
    rw [rops_ord] at hr
    rw [show decide ((l.length : Int) < l.length) = false from decide_eq_false (by omega), cond_false] at hr
    refine .out 1 btTd 3000 hr trivial ?_
    rw [List.take_length]
    exact ⟨numV (bitsN l), rfl, rfl⟩
  | succ d ih =>
    intro j hd hj
    have hlt : j < l.length := by omega
    have hRL := bitsN_lt hl j hj
    obtain ⟨b1, b2, b3⟩ := btD_num hRL hlt hl
    have hr := bt_round rops l e (bitsN (l.take j)) (j : Int)
    rw [show decide ((j : Int) < l.length) = true from decide_eq_true (by omega), cond_true, wi_id (by omega) (by omega)] at hr
    have hj1 : (j : Int) + 1 = ((j + 1 : Nat) : Int) := by omega
    rw [hj1] at hr
    have hn := ih (j + 1) (by omega) (by omega)
    rw [bits_take l j hlt] at hn
    have hb := hl _ (List.getElem_mem hlt)
    have o1 : ∀ a ∈ btD l (bitsN (l.take j)) (j : Int), 0 ≤ a ∧ a < 65536 := b1
    have o2 : idxOk (j : Int) l.length = true := by simp [idxOk]; omega
    have o3 : Nat.blt (0 + (j : Int).toNat * 1) l.length = true := by rw [Nat.blt_eq]; omega
    have hLl := L_lt
    have hx2 : 2 * bitsN (l.take j) + l[j].toNat < 2 ^ 256 := by omega
    have hL2 : Ec.L < 2 ^ 256 := by omega
    rw [rops_ord, rops_less, rops_minus, b3, lt_mod hx2 hL2] at hr
    obtain ⟨s1, s2⟩ := bitG_step (n := Ec.L) (R := bitsN (l.take j)) (m := 2 ^ 256) (y := (2 * bitsN (l.take j) + l[j].toNat) % 2 ^ 256 + 2 ^ 256 - Ec.L % 2 ^ 256) (b := l[j]) hx2 hL2
    have hz : bitN (bitsN (l.take j)) l[j] = bitG Ec.L (bitsN (l.take j)) l[j] := by unfold bitN; rfl
    rw [hz] at hn
    generalize bitG Ec.L (bitsN (l.take j)) l[j] = z at *
    generalize (2 * bitsN (l.take j) + l[j].toNat) % 2 ^ 256 + 2 ^ 256 - Ec.L % 2 ^ 256 = y at *
    generalize decide (2 * bitsN (l.take j) + l[j].toNat < Ec.L) = c at *
    cases c with
    | true =>
      simp only [Bool.not_true, cond_false] at hr
      exact .at 1 btTd 3000 hr ⟨o1, o2, o3, trivial⟩ (.cells 3 [.dig .u64 16 z 16] (fun ρ => ints_cells ρ b2 b1 (b3.trans (s1 rfl).symm)) (.lp hn))
    | false =>
      simp only [Bool.not_false, cond_true] at hr
      exact bt_conv hr ⟨o1, o1, o2, o3, trivial⟩ (s2 rfl rfl) hn

def btPre (l : List Int) : List Prop := [(∀ a ∈ l, 0 ≤ a ∧ a < 2) ∧ l.length ≤ 16777216]
def spBits : SlSpec := spA .u8 .read (fun l => .val (.pv (numP (bitsN l)))) btPre
theorem bits_ok : SlOK Try.prog 71 spBits :=
  spA_read T10_ok mixed (fn := btF) Try.func71 (by decide +kernel) (by kernel_rfl) (by kernel_rfl) fun l e hp => by
    obtain ⟨⟨hl, hlen⟩, _⟩ := hp
    have hf := bt_first rops l e
    rw [rops_ord] at hf
    refine .at 1 btTd 300 hf trivial (.loop ?_)
    have hg := bt_loop l e hlen hl l.length 0 rfl (by omega)
    refine .cells 3 [.dig .u64 16 0 16] (fun ρ => ?_) ?_
    · exact ints_cells ρ (l := List.replicate 16 0) rfl (fun a ha => by rw [List.eq_of_mem_replicate ha]; decide) (by decide)
    · exact hg

def maZ (c i : Nat) (d : List Int) : List Int := d.set i (wu (d.getD i 0 + dg 16 c i))
def maK (a b i k : Nat) (d : List Int) : List Int := d.set (i + k) (wu (d.getD (i + k) 0 + wu (dg 16 a i * dg 16 b k)))

end Go.Proofs.Ytahkpabndfaoiaa
