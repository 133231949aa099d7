/-
The reference's digits carried.
The reference's numbers modulo the prime: how its function goes.
The reference's numbers modulo the prime: what its function comes to.
The reference's sums, opposites, differences modulo the prime.
-/
import Derived.Test.YtahkpabndfaoiaaUH

/- The reference's digits carried. -/
namespace Go.Proofs.Ytahkpabndfaoiaa
open Eng Go Go.RowKit Go.Proofs

noncomputable abbrev caFn : Func := Try.f76
def caTm (n : Nat) (c i : Int) : List SV := [.pv (.one (.sli 0 0 0 n none true)), .any, .any, .pv (u64 c), .pv (iv i)] ++ List.replicate 30 .any
def caHp (l : List Int) : Heap := [⟨[.arr .u64 l], 24, .sl⟩] :: List.replicate 34 []
def caS (n : Nat) (l : List Int) (c i : Int) : St := ⟨caTm n c i, caHp l⟩
def caTd : Td := ⟨[0, 3, 4], [0], [30]⟩
def caT : Table := lookT []
def caX (l : List Int) (c i : Int) : Int := wu (l.getD (0 + i.toNat * 1) 0 + c)
def caO (n : Nat) (l : List Int) (i : Int) : List Prop := [idxOk i n = true, Nat.blt (0 + i.toNat * 1) l.length = true]
theorem ca_first (l : List Int) : runS Try.prog caT caFn 1 caTd 300 [.code (bodyOf caFn)] (startA caFn.ntmps .u64 l 24 .sl) =
    some (.at (.code (.loop (hd caFn).1) :: (hd caFn).2) (caS l.length l 0 0), []) := by kernel_rfl
theorem ca_round (n : Nat) (l : List Int) (c i : Int) : runS Try.prog caT caFn 1 caTd 300 (.code (hd caFn).1 :: .lp (hd caFn).1 :: (hd caFn).2) (caS n l c i) =
    cond (decide (i < n)) (some (.at (.lp (hd caFn).1 :: (hd caFn).2) (caS n (l.set (0 + i.toNat * 1) ((caX l c i).tmod 65536)) (wu ((caX l c i).tdiv 65536)) (wi (i + 1))), caO n l i ++ caO n l i))
      (some (.at (.code (.loop (hdB caFn).1) :: (hdB caFn).2) (caS n l c i), [])) := by kernel_rfl
theorem ca_tail (n : Nat) (l : List Int) (c i : Int) : runS Try.prog caT caFn 1 caTd 300 (.code (hdB caFn).1 :: .lp (hdB caFn).1 :: (hdB caFn).2) (caS n l c i) =
    cond (decide (c > 0)) (some (.at (.lp (hdB caFn).1 :: (hdB caFn).2) (caS (n + 1) (l ++ [c.tmod 65536]) (wu (c.tdiv 65536)) i), [Nat.beq n (widS [.arr .u64 l]) = true, (Nat.ble 1 (n + 1) && Nat.ble (n + 1) limN) = true]))
      (some (.out (.row 24 [.arr .u64 l]), [Nat.beq n (widS [.arr .u64 l]) = true])) := by kernel_rfl

/-- how many digits -/
def cntD : Nat → Nat → Nat
  | 0, _ => 0
  | f + 1, c => cond (Nat.beq c 0) 0 (1 + cntD f (c / 65536))
theorem cntD_zero (f : Nat) : cntD f 0 = 0 := by cases f <;> rfl
theorem cntD_pos {f c : Nat} (h : 0 < c) : cntD (f + 1) c = 1 + cntD f (c / 65536) := by
  have : Nat.beq c 0 = false := Bool.eq_false_iff.2 fun e => by have := Nat.eq_of_beq_eq_true e; omega
  show cond (Nat.beq c 0) 0 (1 + cntD f (c / 65536)) = _
  rw [this, cond_false]
/-- a number's digits, no fewer than so many -/
def lenD (N n : Nat) : Nat := n + cntD 4 (N / 2 ^ (16 * n))
def caL (l : List Int) : List Int := digI 16 (numI 16 l) (lenD (numI 16 l) l.length)

theorem take_digits {m : List Int} {j : Nat} {N c : Nat} (hl : m.length = j) (hd : InD 16 m) (h : numI 16 m + 2 ^ (16 * j) * c = N) : m = digI 16 N j ∧ N / 2 ^ (16 * j) = c := by
  have hlt := numI_lt hd
  rw [hl] at hlt
  have hm : N % 2 ^ (16 * j) = numI 16 m := by rw [← h, Nat.add_mul_mod_self_left, Nat.mod_eq_of_lt hlt]
  refine ⟨digI_of hl hd hm.symm, ?_⟩
  rw [← h, Nat.add_mul_div_left _ _ (Nat.two_pow_pos _), Nat.div_eq_of_lt hlt, Nat.zero_add]

theorem tail_goes (L N : Nat) (i : Int) (hN : L ≤ 2000) : ∀ f j (m : List Int) (c : Nat), c < 65536 ^ f → f ≤ 4 → m.length = j → j + f ≤ 2000 → InD 16 m → numI 16 m + 2 ^ (16 * j) * c = N → j + cntD f c = L →
    Goes Try.prog caT caFn (OutIs (.row 24 [.arr .u64 (digI 16 N L)])) (.code (hdB caFn).1 :: .lp (hdB caFn).1 :: (hdB caFn).2) (caS j m (c : Int) i) := by
  have out : ∀ j (m : List Int), m.length = j → InD 16 m → numI 16 m = N → j = L → Goes Try.prog caT caFn (OutIs (.row 24 [.arr .u64 (digI 16 N L)])) (.code (hdB caFn).1 :: .lp (hdB caFn).1 :: (hdB caFn).2) (caS j m (0 : Int) i) := by
    intro j m hl hd hn hL
    subst hL
    have hx := ca_tail j m 0 i
    rw [show decide ((0 : Int) > 0) = false from rfl, cond_false] at hx
    have hm := (take_digits (N := N) (c := 0) hl hd (by rw [Nat.mul_zero, Nat.add_zero]; exact hn)).1
    refine .out 1 caTd 300 hx ⟨?_, trivial⟩ ?_
    · have : widS [.arr .u64 m] = j := hl
      rw [this]; exact Nat.beq_refl _
    · rw [← hm]
      exact ⟨rfl, _, rfl, rfl⟩
  intro f
  induction f with
  | zero =>
    intro j m c hc _ hl _ hd hn hL
    have : c = 0 := by simpa using hc
    subst this
    exact out j m hl hd (by simpa using hn) (by simpa [cntD] using hL)
  | succ f ih =>
    intro j m c hc hf hl hj hd hn hL
    rcases Nat.eq_zero_or_pos c with h0 | h0
    · subst h0
      exact out j m hl hd (by simpa using hn) (by rw [cntD_zero] at hL; exact hL)
    · have hx := ca_tail j m (c : Int) i
      have hc4 : c < 65536 ^ 4 := Nat.lt_of_lt_of_le hc (Nat.pow_le_pow_right (by decide) hf)
      have hc64 : (65536 : Nat) ^ 4 = 18446744073709551616 := by decide
      have e1 : ((c : Nat) : Int).tmod 65536 = ((c % 65536 : Nat) : Int) := by rw [Int.tmod_eq_emod_of_nonneg (Int.natCast_nonneg _)]; rfl
      have e2 : wu (((c : Nat) : Int).tdiv 65536) = ((c / 65536 : Nat) : Int) := by
        rw [Int.tdiv_eq_ediv_of_nonneg (Int.natCast_nonneg _)]
        have : ((c : Nat) : Int) / 65536 = ((c / 65536 : Nat) : Int) := rfl
        rw [this]
        exact wu_id (Int.natCast_nonneg _) (by omega)
      rw [show decide (((c : Nat) : Int) > 0) = true from decide_eq_true (by omega), cond_true, e1, e2] at hx
      refine .at 1 caTd 300 hx ⟨?_, ?_, trivial⟩ (.lp (ih (j + 1) (m ++ [((c % 65536 : Nat) : Int)]) (c / 65536) ?_ (by omega) (by simp [hl]) (by omega) ?_ ?_ ?_))
      · have : widS [.arr .u64 m] = j := hl
        rw [this]; exact Nat.beq_refl _
      · rw [Nat.ble_eq_true_of_le (show 1 ≤ j + 1 by omega)]
        have h2 : Nat.ble (j + 1) limN = true := by
          apply Nat.ble_eq_true_of_le
          unfold limN
          omega
        rw [h2]
        rfl
      · rw [Nat.pow_succ] at hc
        exact Nat.div_lt_of_lt_mul (by rw [Nat.mul_comm]; exact hc)
      · intro a ha
        rcases List.mem_append.1 ha with ha | ha
        · exact hd a ha
        · rw [List.mem_singleton.1 ha]
          have h16 : ((2 ^ 16 : Nat) : Int) = 65536 := rfl
          rw [h16]
          omega
      · rw [numI_app, hl]
        simp only [numI, Int.toNat_natCast, Nat.mul_zero, Nat.add_zero]
        have e4 : 2 ^ (16 * (j + 1)) = 2 ^ (16 * j) * 65536 := by rw [show 16 * (j + 1) = 16 * j + 16 by omega, Nat.pow_add]
        rw [e4, Nat.mul_assoc, Nat.add_assoc, ← Nat.mul_add, Nat.mod_add_div]
        exact hn
      · rw [cntD_pos h0] at hL
        omega

/-- the digits below a place in their bounds, the others as they were -/
theorem ca_goes (l : List Int) (hl : ∀ a ∈ l, 0 ≤ a ∧ a < 72057594037927936) (hn : l.length ≤ 1000) : ∀ d j (m : List Int) (c : Nat), l.length - j = d → j ≤ l.length → m.length = l.length → c < 2 ^ 48 →
    InD 16 (m.take j) → m.drop j = l.drop j → numI 16 (m.take j) + 2 ^ (16 * j) * c = numI 16 (l.take j) →
    Goes Try.prog caT caFn (OutIs (.row 24 [.arr .u64 (caL l)])) (.code (hd caFn).1 :: .lp (hd caFn).1 :: (hd caFn).2) (caS l.length m (c : Int) (j : Int)) := by
  intro d
  induction d with
  | zero =>
    intro j m c hd hj hm hc hin hdr hnum
    have hjl : j = l.length := by omega
    subst hjl
    rw [List.take_of_length_le (by omega)] at hin hnum
    rw [List.take_length] at hnum
    have hx := ca_round l.length m (c : Int) (l.length : Int)
    rw [show decide ((l.length : Int) < l.length) = false from decide_eq_false (by omega), cond_false] at hx
    refine .at 1 caTd 300 hx trivial (.loop ?_)
    have hq := (take_digits hm hin hnum).2
    refine tail_goes (lenD (numI 16 l) l.length) (numI 16 l) _ ?_ 4 l.length m c (Nat.lt_of_lt_of_le hc (by decide)) (by decide) hm (by omega) hin hnum ?_
    · unfold lenD
      have : ∀ f c, cntD f c ≤ f := by
        intro f
        induction f with
        | zero => intro c; exact Nat.le_refl _
        | succ f ih =>
          intro c
          unfold cntD
          cases Nat.beq c 0
          · have := ih (c / 65536)
            simp only [cond_false]
            omega
          · simp
      have := this 4 (numI 16 l / 2 ^ (16 * l.length))
      omega
    · unfold lenD
      rw [hq]
  | succ d ih =>
    intro j m c hd hj hm hc hin hdr hnum
    have hlt : j < l.length := by omega
    have hg : m.getD j 0 = l[j] := by
      have h1 : m[j]? = l[j]? := by
        have := congrArg (fun x => x[0]?) hdr
        simpa using this
      simp only [List.getD, h1, List.getElem?_eq_getElem hlt, Option.getD_some]
    have hb := hl _ (List.getElem_mem hlt)
    have hx := ca_round l.length m (c : Int) (j : Int)
    have hj0 : 0 + (j : Int).toNat * 1 = j := by omega
    unfold caX caO at hx
    rw [hj0, hg, show decide ((j : Int) < l.length) = true from decide_eq_true (by omega), cond_true, wi_id (by omega) (by omega)] at hx
    have hX : wu (l[j] + (c : Int)) = ((l[j].toNat + c : Nat) : Int) := by rw [wu_id (by omega) (by omega)]; omega
    rw [hX] at hx
    have hXlt : l[j].toNat + c < 2 ^ 57 := by omega
    have hj1 : (j : Int) + 1 = ((j + 1 : Nat) : Int) := by omega
    rw [hj1] at hx
    have hsum : numI 16 (l.take (j + 1)) = numI 16 (m.take j) + 2 ^ (16 * j) * (l[j].toNat + c) := by
      have h1 := numI_take_succ (w := 16) (l := l) (i := j) hlt
      have h2 : l.getD j 0 = l[j] := by simp [List.getD, List.getElem?_eq_getElem hlt]
      rw [h1, h2, ← hnum, Nat.mul_add]
      omega
    generalize l[j].toNat + c = X at *
    have e1 : ((X : Nat) : Int).tmod 65536 = ((X % 65536 : Nat) : Int) := by rw [Int.tmod_eq_emod_of_nonneg (Int.natCast_nonneg _)]; rfl
    have e2 : wu (((X : Nat) : Int).tdiv 65536) = ((X / 65536 : Nat) : Int) := by
      rw [Int.tdiv_eq_ediv_of_nonneg (Int.natCast_nonneg _)]
      have : ((X : Nat) : Int) / 65536 = ((X / 65536 : Nat) : Int) := rfl
      rw [this]
      exact wu_id (Int.natCast_nonneg _) (by omega)
    rw [e1, e2] at hx
    have hm' : (m.set j ((X % 65536 : Nat) : Int)).length = l.length := by simp [hm]
    have htk : (m.set j ((X % 65536 : Nat) : Int)).take (j + 1) = m.take j ++ [((X % 65536 : Nat) : Int)] := by
      rw [List.take_add_one, List.take_set_of_le (Nat.le_refl _)]
      simp [hm, hlt]
    have ob : idxOk (j : Int) l.length = true ∧ Nat.blt j m.length = true := ⟨by simp [idxOk]; omega, by rw [hm, Nat.blt_eq]; exact hlt⟩
    refine .at 1 caTd 300 hx ⟨ob.1, ob.2, ob.1, ob.2, trivial⟩ (.lp (ih (j + 1) _ (X / 65536) (by omega) (by omega) hm' ?_ ?_ ?_ ?_))
    · omega
    · rw [htk]
      intro a ha
      rcases List.mem_append.1 ha with ha | ha
      · exact hin a ha
      · rw [List.mem_singleton.1 ha]
        have h16 : ((2 ^ 16 : Nat) : Int) = 65536 := rfl
        rw [h16]
        omega
    · rw [List.drop_set_of_lt (by omega)]
      have := congrArg (List.drop 1) hdr
      simpa [List.drop_drop, Nat.add_comm] using this
    · rw [htk, hsum, numI_app]
      simp only [numI, Int.toNat_natCast, Nat.mul_zero, Nat.add_zero, List.length_take]
      rw [Nat.min_eq_left (by omega)]
      have e4 : 2 ^ (16 * (j + 1)) = 2 ^ (16 * j) * 65536 := by rw [show 16 * (j + 1) = 16 * j + 16 by omega, Nat.pow_add]
      rw [e4, Nat.mul_assoc, Nat.add_assoc, ← Nat.mul_add, Nat.mod_add_div]

def caPre (l : List Int) : List Prop := [(∀ a ∈ l, 0 ≤ a ∧ a < 72057594037927936) ∧ l.length ≤ 1000]
theorem carried_ok : SlOK Try.prog 76 (spA .u64 (.own 24) (fun l => .row 24 [.arr .u64 (caL l)]) caPre) :=
  spA_own (tableOK_nil _) mixed (fn := caFn) Try.func76 (by decide +kernel) (by kernel_rfl) (by kernel_rfl) fun l hp => by
    obtain ⟨⟨hl, hn⟩, _⟩ := hp
    exact .at 1 caTd 300 (ca_first l) trivial (.loop (ca_goes l hl hn l.length 0 l 0 rfl (Nat.zero_le _) rfl (by decide) (InD.nil 16) rfl rfl))

end Go.Proofs.Ytahkpabndfaoiaa

/- The reference's numbers modulo the prime: how its function goes. -/
namespace Go.Proofs.Ytahkpabndfaoiaa
open Eng Go Go.RowKit Go.Proofs

structure MOps where
  ca : List Int → List Int
  md : List Int → Fin Ec.P
  pre : List Int → Prop
def S3 (o : MOps) : List (FuncId × SlSpec) := [
  (76, spA .u64 (.own 24) (fun l => .row 24 [.arr .u64 (o.ca l)]) caPre),
  (73, spA .u64 .read (fun l => .val (.pv (nmP (o.md l)))) fun l => [o.pre l])]
noncomputable abbrev mdFn : Func := Try.f73
abbrev mdT (o : MOps) (r : ROps) : Table := lookS (S3 o) (T10 r)
def sl0 (n : Nat) : SV := .pv (.one (.sli 0 0 0 n none true))
/-- at the head of the first loop; in the second one; behind it; at the last one's -/
def mdA (e : TypeId) (kd : Kd) (n : Nat) (l : List Int) : St := ⟨[sl0 n, .any, ptv 2] ++ List.replicate 90 .any, [[⟨[.arr .u64 l], e, kd⟩], [], [⟨zero16, 32, .var⟩]] ++ List.replicate 90 []⟩
def mdB (e : TypeId) (kd : Kd) (n : Nat) (l low : List Int) (nl : Nat) (i : Int) : St := ⟨[sl0 n, .any, ptv 2, .pv (.one (.sli 3 0 0 nl none true)), .pv (iv i)] ++ List.replicate 88 .any,
  [[⟨[.arr .u64 l], e, kd⟩], [], [⟨zero16, 32, .var⟩], [⟨[.arr .u64 low], 24, .sl⟩]] ++ List.replicate 89 []⟩
def mdX (n : Nat) (l : List Int) (nl : Nat) (i : Int) : St := ⟨[sl0 n, .any, ptv 2, .pv (.one (.sli 3 0 0 nl none true)), .pv (iv i)] ++ List.replicate 88 .any,
  [[⟨[.arr .u64 l], 24, .sl⟩], [], [⟨zero16, 32, .var⟩], [⟨[], 24, .dead⟩]] ++ List.replicate 89 []⟩
def mdD (cs : List Cell) : St := ⟨[.any, .any, ptv 2, .any, .any, ptv 5] ++ List.replicate 87 .any, [[], [], [⟨zero16, 32, .var⟩], [], [], [⟨cs, 32, .var⟩]] ++ List.replicate 87 []⟩
def mdTd0 : Td := ⟨[0, 2], [], []⟩
def mdTdA : Td := ⟨[0, 2, 3, 4], [0, 3], [13, 14, 45, 46, 48, 50]⟩
def mdTdC : Td := ⟨[2, 5], [], [0]⟩
def mdTdD : Td := ⟨[2, 5], [], [72, 83]⟩
noncomputable def mLA : Code × List It := hd mdFn
noncomputable def mLB : Code × List It := nextL 20 (.code mLA.1 :: .lp mLA.1 :: mLA.2)
noncomputable def mLC : Code × List It := nextL 20 mLA.2
noncomputable def mLD : Code × List It := nextL 20 mLC.2
section
variable (o : MOps) (r : ROps)
theorem md_first (l : List Int) (e : TypeId) : runS Try.prog (mdT o r) mdFn 1 mdTd0 300 [.code (bodyOf mdFn)] (startA mdFn.ntmps .u64 l e .ro) =
    some (.at (.code (.loop mLA.1) :: mLA.2) (mdA e .ro l.length l), []) := by kernel_rfl
def mdO1 (n : Nat) (l : List Int) : List Prop := [Nat.ble 16 n = true, Nat.ble (0 + 16) l.length = true, (Nat.ble 1 (0 + 16) && Nat.ble (0 + 16) limN) = true]
def mdO2 (n : Nat) (l : List Int) : List Prop := [Nat.beq n (widS [.arr .u64 l]) = true, (Nat.ble 1 (0 + n) && Nat.ble (0 + n) limN) = true] ++ (caPre l ++ [Nat.beq (0 + n) (widS [.arr .u64 l]) = true])
theorem md_A1 (e : TypeId) (n : Nat) (l : List Int) : runS Try.prog (mdT o r) mdFn 2 mdTdA 300 (.code mLA.1 :: .lp mLA.1 :: mLA.2) (mdA e .ro n l) =
    cond (decide ((n : Int) > 16)) (some (.at (.code (.loop mLB.1) :: mLB.2) (mdB e .ro n l ((l.drop 0).take 16) 16 16), mdO1 n l))
      (some (.at (.code (.loop mLC.1) :: mLC.2) (mdA 24 .sl (o.ca l).length (o.ca l)), mdO2 n l)) := by kernel_rfl
theorem md_A2 (e : TypeId) (n : Nat) (l : List Int) : runS Try.prog (mdT o r) mdFn 2 mdTdA 300 (.code mLA.1 :: .lp mLA.1 :: mLA.2) (mdA e .sl n l) =
    cond (decide ((n : Int) > 16)) (some (.at (.code (.loop mLB.1) :: mLB.2) (mdB e .sl n l ((l.drop 0).take 16) 16 16), mdO1 n l))
      (some (.at (.code (.loop mLC.1) :: mLC.2) (mdA 24 .sl (o.ca l).length (o.ca l)), mdO2 n l)) := by kernel_rfl
def mdI (i : Int) : Nat := 0 + i.toNat * 1
def mdJ (i : Int) : Nat := 0 + (wi (i - 16)).toNat * 1
def mdS (l low : List Int) (i : Int) : List Int := low.set (mdJ i) (wu (low.getD (mdJ i) 0 + wu (38 * l.getD (mdI i) 0)))
def mdO3 (n : Nat) (l low : List Int) (nl : Nat) (i : Int) : List Prop := [idxOk (wi (i - 16)) nl = true, Nat.blt (mdJ i) low.length = true, idxOk i n = true, Nat.blt (mdI i) l.length = true, idxOk (wi (i - 16)) nl = true, Nat.blt (mdJ i) low.length = true]
def mdO4 (n : Nat) (l low : List Int) (nl : Nat) (i : Int) : List Prop := [idxOk i n = true, Nat.blt (mdI i) l.length = true, Nat.beq nl (widS [.arr .u64 low]) = true, (Nat.ble 1 (nl + 1) && Nat.ble (nl + 1) limN) = true]
def mdO5 (low : List Int) (nl : Nat) : List Prop := caPre low ++ [Nat.beq nl (widS [.arr .u64 low]) = true]
theorem md_B1 (e : TypeId) (n : Nat) (l low : List Int) (nl : Nat) (i : Int) : runS Try.prog (mdT o r) mdFn 2 mdTdA 300 (.code mLB.1 :: .lp mLB.1 :: mLB.2) (mdB e .ro n l low nl i) =
    cond (decide (i < n)) (cond (decide (wi (i - 16) < 16)) (some (.at (.lp mLB.1 :: mLB.2) (mdB e .ro n l (mdS l low i) nl (wi (i + 1))), mdO3 n l low nl i))
        (some (.at (.lp mLB.1 :: mLB.2) (mdB e .ro n l (low ++ [wu (38 * l.getD (mdI i) 0)]) (nl + 1) (wi (i + 1))), mdO4 n l low nl i)))
      (some (.at (.lp mLA.1 :: mLA.2) (mdX (o.ca low).length (o.ca low) nl i), mdO5 low nl)) := by kernel_rfl
theorem md_B2 (e : TypeId) (n : Nat) (l low : List Int) (nl : Nat) (i : Int) : runS Try.prog (mdT o r) mdFn 2 mdTdA 300 (.code mLB.1 :: .lp mLB.1 :: mLB.2) (mdB e .sl n l low nl i) =
    cond (decide (i < n)) (cond (decide (wi (i - 16) < 16)) (some (.at (.lp mLB.1 :: mLB.2) (mdB e .sl n l (mdS l low i) nl (wi (i + 1))), mdO3 n l low nl i))
        (some (.at (.lp mLB.1 :: mLB.2) (mdB e .sl n l (low ++ [wu (38 * l.getD (mdI i) 0)]) (nl + 1) (wi (i + 1))), mdO4 n l low nl i)))
      (some (.at (.lp mLA.1 :: mLA.2) (mdX (o.ca low).length (o.ca low) nl i), mdO5 low nl)) := by kernel_rfl
theorem md_X (n : Nat) (l : List Int) (nl : Nat) (i : Int) : Eng.tidy ⟨[0, 2], [], [3]⟩ (mdX n l nl i) = some (mdA 24 .sl n l) := by kernel_rfl
def firstI (l : List Int) : List Cell := (List.range 16).map fun j => .val (.int .u64 (l.getD (0 + j) 0))
theorem md_C (n : Nat) (l : List Int) : runS Try.prog (mdT o r) mdFn 1 mdTdC 300 (.code mLC.1 :: .lp mLC.1 :: mLC.2) (mdA 24 .sl n l) =
    cond (decide ((n : Int) > 16)) (some (.out (.val (.pv (nmP (o.md l)))), [o.pre l, Nat.beq n (widS [.arr .u64 l]) = true]))
      (some (.at (.code (.loop mLD.1) :: mLD.2) (mdD (firstI l)), [Nat.ble (0 + 16) l.length = true, Nat.ble 16 n = true])) := by kernel_rfl
/-- a number whose highest bit is taken off and given nineteen times to the lowest digit -/
def foldD (N : Nat) : List Int := [wu (dg 16 N 0 + wu (19 * wu ((dg 16 N 15).tdiv 32768))), dg 16 N 1, dg 16 N 2, dg 16 N 3, dg 16 N 4, dg 16 N 5, dg 16 N 6, dg 16 N 7, dg 16 N 8, dg 16 N 9, dg 16 N 10, dg 16 N 11, dg 16 N 12, dg 16 N 13, dg 16 N 14, (dg 16 N 15).tmod 32768]
theorem md_D (N : Nat) : runS Try.prog (mdT o r) mdFn 1 mdTdD 300 (.code mLD.1 :: .lp mLD.1 :: mLD.2) (mdD [.dig .u64 16 N 16]) =
    cond (decide (dg 16 N 15 > 32767)) (some (.at (.lp mLD.1 :: mLD.2) (mdD (firstI (o.ca (foldD N)))), caPre (foldD N) ++ [Nat.ble (0 + 16) (o.ca (foldD N)).length = true, Nat.ble 16 (widS [.arr .u64 (o.ca (foldD N))]) = true]))
      (cond (!r.less N r.prime) (some (.out (.val (.pv (numP (r.minus N r.prime)))), [])) (some (.out (.val (.pv (numP N))), []))) := by kernel_rfl
end
end Go.Proofs.Ytahkpabndfaoiaa

/- The reference's numbers modulo the prime: what its function comes to. -/
namespace Go.Proofs.Ytahkpabndfaoiaa
open Eng Go Go.RowKit Go.Proofs

theorem cntD_le : ∀ f c, cntD f c ≤ f
  | 0, _ => Nat.le_refl _
  | f + 1, c => by
    unfold cntD
    cases Nat.beq c 0
    · have := cntD_le f (c / 65536)
      simp only [cond_false]
      omega
    · simp
theorem cntD_pow : ∀ f c, c < 65536 ^ f → c < 65536 ^ cntD f c
  | 0, c, h => h
  | f + 1, c, h => by
    rcases Nat.eq_zero_or_pos c with h0 | h0
    · subst h0; exact Nat.pow_pos (by decide)
    · rw [cntD_pos h0, Nat.pow_add]
      have := cntD_pow f (c / 65536) (Nat.div_lt_of_lt_mul (by rw [Nat.mul_comm, ← Nat.pow_succ]; exact h))
      generalize 65536 ^ cntD f (c / 65536) = q at *
      omega
def dl (V : Nat) : List Int := digI 16 V (lenD V 16)
theorem dl_length (V : Nat) : (dl V).length = lenD V 16 := digI_length _ _ _
theorem lenD_small {V : Nat} (h : V < 2 ^ 256) : lenD V 16 = 16 := by
  unfold lenD
  rw [Nat.div_eq_of_lt (show V < 2 ^ (16 * 16) from h), cntD_zero]
theorem lenD_great {V : Nat} (h : 2 ^ 256 ≤ V) : 16 < lenD V 16 := by
  unfold lenD
  have : 0 < V / 2 ^ (16 * 16) := Nat.div_pos (show 2 ^ (16 * 16) ≤ V from h) (Nat.two_pow_pos _)
  rw [cntD_pos this]
  omega
theorem lenD_le (V : Nat) : 16 ≤ lenD V 16 ∧ lenD V 16 ≤ 20 := by
  unfold lenD
  have := cntD_le 4 (V / 2 ^ (16 * 16))
  omega
theorem lenD_pow {V : Nat} (h : V < 2 ^ 256 * 2 ^ 64) : V < 2 ^ (16 * lenD V 16) := by
  unfold lenD
  have h1 : V / 2 ^ (16 * 16) < 65536 ^ 4 := Nat.div_lt_of_lt_mul h
  have h2 := cntD_pow 4 _ h1
  generalize cntD 4 (V / 2 ^ (16 * 16)) = k at *
  rw [show 16 * (16 + k) = 16 * 16 + 16 * k by omega, Nat.pow_add, Nat.pow_mul 2 16 k, show (2 : Nat) ^ 16 = 65536 from rfl]
  generalize 65536 ^ k = q at *
  have h0 : 0 < 2 ^ (16 * 16) := Nat.two_pow_pos _
  generalize 2 ^ (16 * 16) = Z at *
  have h3 := (Nat.div_lt_iff_lt_mul h0).1 h2
  rw [Nat.mul_comm]
  exact h3
theorem dl_num {V : Nat} (h : V < 2 ^ 256 * 2 ^ 64) : numI 16 (dl V) = V := by
  unfold dl
  rw [numI_digI, Nat.mod_eq_of_lt (lenD_pow h)]
theorem split_num {l : List Int} (hl : 16 ≤ l.length) : numI 16 (l.take 16) + 2 ^ (16 * 16) * numI 16 (l.drop 16) = numI 16 l := by
  have h := numI_app 16 (l.take 16) (l.drop 16)
  rw [List.take_append_drop] at h
  rw [h, List.length_take, Nat.min_eq_left hl]
theorem caL_16 {l : List Int} (h : l.length = 16) : caL l = dl (numI 16 l) := by
  unfold caL dl
  rw [h]

/-- a number that is the same modulo the prime -/
theorem fold_mod {lo hi p m : Nat} (h : m = p * 2 + 38) : (lo + 38 * hi) % p = (lo + m * hi) % p := by
  subst h
  have : lo + (p * 2 + 38) * hi = (lo + 38 * hi) + p * (2 * hi) := by
    rw [Nat.add_mul, Nat.mul_assoc]
    omega
  rw [this, Nat.add_mul_mod_self_left]
theorem two256 : 2 ^ (16 * 16) = Ec.P * 2 + 38 := by decide

def MdB (l : List Int) : Prop := (∀ a ∈ l, 0 ≤ a ∧ a < 1125899906842624) ∧ 16 ≤ l.length ∧ l.length ≤ 32
theorem num_bound : ∀ {l : List Int} {b : Nat}, (∀ a ∈ l, 0 ≤ a ∧ a < (b : Int)) → numI 16 l + b ≤ b * 2 ^ (16 * l.length)
  | [], b, _ => by simp [numI]
  | a :: l, b, h => by
    have ih := num_bound (l := l) (b := b) fun x hx => h x (.tail _ hx)
    have ha := h a (.head _)
    simp only [numI, List.length_cons]
    rw [show 16 * (l.length + 1) = 16 + 16 * l.length by omega, Nat.pow_add, show (2 : Nat) ^ 16 = 65536 from rfl]
    have e : b * (65536 * 2 ^ (16 * l.length)) = 65536 * (b * 2 ^ (16 * l.length)) := by rw [Nat.mul_left_comm]
    rw [e]
    generalize b * 2 ^ (16 * l.length) = q at *
    omega
theorem num_16 {l : List Int} {b : Nat} (h : ∀ a ∈ l, 0 ≤ a ∧ a < (b : Int)) (hl : l.length = 16) (hb : b ≤ 2 ^ 64) : numI 16 l + b ≤ 2 ^ 256 * 2 ^ 64 := by
  have h1 := num_bound h
  rw [hl] at h1
  exact Nat.le_trans h1 (Nat.le_trans (Nat.mul_le_mul_right _ hb) (Nat.le_of_eq (Nat.mul_comm _ _)))

section
variable (o : MOps) (hca : o.ca = caL) {R : SRes → Prop}
abbrev mdG (o : MOps) (R : SRes → Prop) := Goes Try.prog (mdT o rops) mdFn R

include hca in
theorem B_goes {kd : Kd} {e : TypeId} {l : List Int} (hl : ∀ a ∈ l, 0 ≤ a ∧ a < 1125899906842624) (h1 : 16 < l.length) (h2 : l.length ≤ 32)
    (hB : ∀ low nl i, runS Try.prog (mdT o rops) mdFn 2 mdTdA 300 (.code mLB.1 :: .lp mLB.1 :: mLB.2) (mdB e kd l.length l low nl i) =
      cond (decide (i < l.length)) (cond (decide (wi (i - 16) < 16)) (some (.at (.lp mLB.1 :: mLB.2) (mdB e kd l.length l (mdS l low i) nl (wi (i + 1))), mdO3 l.length l low nl i))
        (some (.at (.lp mLB.1 :: mLB.2) (mdB e kd l.length l (low ++ [wu (38 * l.getD (mdI i) 0)]) (nl + 1) (wi (i + 1))), mdO4 l.length l low nl i)))
      (some (.at (.lp mLA.1 :: mLA.2) (mdX (o.ca low).length (o.ca low) nl i), mdO5 low nl)))
    (hn : mdG o R (.code mLA.1 :: .lp mLA.1 :: mLA.2) (mdA 24 .sl (lenD (numI 16 (l.take 16) + 38 * numI 16 (l.drop 16)) 16) (dl (numI 16 (l.take 16) + 38 * numI 16 (l.drop 16))))) :
    ∀ d j (low : List Int), l.length - 16 - j = d → 16 + j ≤ l.length → low.length = 16 → (∀ a ∈ low.take j, 0 ≤ a ∧ a < 72057594037927936) → low.drop j = (l.take 16).drop j →
      numI 16 low = numI 16 (l.take 16) + 38 * numI 16 ((l.drop 16).take j) → mdG o R (.code mLB.1 :: .lp mLB.1 :: mLB.2) (mdB e kd l.length l low 16 ((16 + j : Nat) : Int)) := by
  intro d
  induction d with
  | zero =>
    intro j low hd hj hlen hin hdr hnum
    have hjl : 16 + j = l.length := by omega
    have hx := hB low 16 ((16 + j : Nat) : Int)
    rw [show decide (((16 + j : Nat) : Int) < l.length) = false from decide_eq_false (by omega), cond_false] at hx
    have hall : ∀ a ∈ low, 0 ≤ a ∧ a < 72057594037927936 := by
      intro a ha
      rw [← List.take_append_drop j low] at ha
      rcases List.mem_append.1 ha with ha | ha
      · exact hin a ha
      · rw [hdr] at ha
        have := hl a (List.mem_of_mem_take (List.mem_of_mem_drop ha))
        omega
    have ht : (l.drop 16).take j = l.drop 16 := List.take_of_length_le (by rw [List.length_drop]; omega)
    rw [ht] at hnum
    have hc : o.ca low = dl (numI 16 (l.take 16) + 38 * numI 16 (l.drop 16)) := by rw [hca, caL_16 hlen, hnum]
    rw [hc, dl_length] at hx
    have hw : widS [.arr .u64 low] = 16 := hlen
    refine .at 2 mdTdA 300 hx ⟨⟨hall, by omega⟩, by rw [hw]; rfl, trivial⟩ (Goes.tidy ⟨[0, 2], [], [3]⟩ (md_X _ _ _ _) (.lp hn))
  | succ d ih =>
    intro j low hd hj hlen hin hdr hnum
    have hlt : 16 + j < l.length := by omega
    have hj16 : j < 16 := by omega
    have hx := hB low 16 ((16 + j : Nat) : Int)
    have hwi : wi (((16 + j : Nat) : Int) - 16) = (j : Int) := by rw [wi_id (by omega) (by omega)]; omega
    have hJ : mdJ ((16 + j : Nat) : Int) = j := by unfold mdJ; rw [hwi]; omega
    have hI : mdI ((16 + j : Nat) : Int) = 16 + j := by unfold mdI; omega
    have hg : low.getD j 0 = l[j] := by
      have e1 : low[j]? = l[j]? := by
        have := congrArg (fun x => x[0]?) hdr
        simp only [List.getElem?_drop, Nat.add_zero, List.getElem?_take] at this
        rw [this, if_pos hj16]
      simp only [List.getD, e1, List.getElem?_eq_getElem (show j < l.length by omega), Option.getD_some]
    have hg2 : l.getD (16 + j) 0 = l[16 + j] := by simp [List.getD, List.getElem?_eq_getElem hlt]
    have b1 := hl _ (List.getElem_mem (show j < l.length by omega))
    have b2 := hl _ (List.getElem_mem hlt)
    rw [show decide (((16 + j : Nat) : Int) < l.length) = true from decide_eq_true (by omega), cond_true, hwi, show decide ((j : Int) < 16) = true from decide_eq_true (by omega), cond_true, wi_id (by omega) (by omega)] at hx
    unfold mdS mdO3 at hx
    rw [hJ, hI, hwi, hg, hg2] at hx
    have h38 : wu (38 * l[16 + j]) = 38 * l[16 + j] := wu_id (by omega) (by omega)
    have hX : wu (l[j] + wu (38 * l[16 + j])) = ((l[j].toNat + 38 * l[16 + j].toNat : Nat) : Int) := by rw [h38, wu_id (by omega) (by omega)]; omega
    have hj1 : ((16 + j : Nat) : Int) + 1 = ((16 + (j + 1) : Nat) : Int) := by omega
    rw [hX, hj1] at hx
    have hset := numI_set (w := 16) (l := low) (j := j) ((l[j].toNat + 38 * l[16 + j].toNat : Nat) : Int) (by omega)
    rw [hg, Int.toNat_natCast, hnum, Nat.mul_add] at hset
    have hts := numI_take_succ (w := 16) (l := l.drop 16) (i := j) (by rw [List.length_drop]; omega)
    have hg3 : (l.drop 16).getD j 0 = l[16 + j] := by simp [List.getD, List.getElem?_eq_getElem hlt]
    rw [hg3] at hts
    have hXlt : l[j].toNat + 38 * l[16 + j].toNat < 72057594037927936 := by omega
    have e5 : 2 ^ (16 * j) * (38 * l[16 + j].toNat) = 38 * (2 ^ (16 * j) * l[16 + j].toNat) := by rw [Nat.mul_left_comm]
    rw [e5] at hset
    have hn' : numI 16 (low.set j ((l[j].toNat + 38 * l[16 + j].toNat : Nat) : Int)) = numI 16 (l.take 16) + 38 * numI 16 ((l.drop 16).take (j + 1)) := by
      rw [hts, Nat.mul_add]
      omega
    generalize l[j].toNat + 38 * l[16 + j].toNat = X at *
    have hlen' : (low.set j (X : Int)).length = 16 := by simp [hlen]
    have htk : (low.set j (X : Int)).take (j + 1) = low.take j ++ [(X : Int)] := by
      rw [List.take_add_one, List.take_set_of_le (Nat.le_refl _)]
      simp [hlen, hj16]
    have o1 : idxOk (j : Int) 16 = true := by simp [idxOk]; omega
    have o2 : Nat.blt j low.length = true := by rw [hlen, Nat.blt_eq]; exact hj16
    have o3 : idxOk ((16 + j : Nat) : Int) l.length = true := by simp only [idxOk, Bool.and_eq_true, decide_eq_true_eq]; omega
    have o4 : Nat.blt (16 + j) l.length = true := by rw [Nat.blt_eq]; exact hlt
    refine .at 2 mdTdA 300 hx ⟨o1, o2, o3, o4, o1, o2, trivial⟩ (.lp (ih (j + 1) _ (by omega) (by omega) hlen' ?_ ?_ hn'))
    · rw [htk]
      intro a ha
      rcases List.mem_append.1 ha with ha | ha
      · exact hin a ha
      · rw [List.mem_singleton.1 ha]
        omega
    · rw [List.drop_set_of_lt (by omega)]
      have := congrArg (List.drop 1) hdr
      simpa [List.drop_drop, Nat.add_comm] using this
theorem firstI_dl {M L : Nat} (h : 16 ≤ L) : firstI (digI 16 M L) = intsC .u64 (digI 16 M 16) := by
  unfold firstI intsC digI
  rw [List.map_map]
  refine List.map_congr_left fun j hj => ?_
  have hj := List.mem_range.1 hj
  simp [List.getD, List.getElem?_range (show j < L by omega)]
theorem firstI_goes {M L : Nat} {k : List It} (h : 16 ≤ L) (g : mdG o R k (mdD [.dig .u64 16 M 16])) : mdG o R k (mdD (firstI (digI 16 M L))) := by
  refine .cells 5 [.dig .u64 16 M 16] (fun ρ => ?_) g
  show denCs ρ (firstI (digI 16 M L)) = _
  rw [firstI_dl h]
  unfold intsC
  rw [denCs_ints]
  simp only [denCs, denC, digL_I, List.append_nil]

theorem fold_gen (n0 n1 n2 n3 n4 n5 n6 n7 n8 n9 n10 n11 n12 n13 n14 n15 : Nat) (h0 : n0 < 65536) (h1 : n1 < 65536) (h2 : n2 < 65536) (h3 : n3 < 65536) (h4 : n4 < 65536) (h5 : n5 < 65536) (h6 : n6 < 65536) (h7 : n7 < 65536) (h8 : n8 < 65536) (h9 : n9 < 65536) (h10 : n10 < 65536) (h11 : n11 < 65536) (h12 : n12 < 65536) (h13 : n13 < 65536) (h14 : n14 < 65536) (h15 : n15 < 65536) :
    numI 16 [wu ((n0 : Int) + wu (19 * wu ((n15 : Int).tdiv 32768))), (n1 : Int), (n2 : Int), (n3 : Int), (n4 : Int), (n5 : Int), (n6 : Int), (n7 : Int), (n8 : Int), (n9 : Int), (n10 : Int), (n11 : Int), (n12 : Int), (n13 : Int), (n14 : Int), (n15 : Int).tmod 32768] + 2 ^ 255 * (n15 / 32768) =
      numI 16 [(n0 : Int), (n1 : Int), (n2 : Int), (n3 : Int), (n4 : Int), (n5 : Int), (n6 : Int), (n7 : Int), (n8 : Int), (n9 : Int), (n10 : Int), (n11 : Int), (n12 : Int), (n13 : Int), (n14 : Int), (n15 : Int)] + 19 * (n15 / 32768) ∧
    (∀ a ∈ [wu ((n0 : Int) + wu (19 * wu ((n15 : Int).tdiv 32768))), (n1 : Int), (n2 : Int), (n3 : Int), (n4 : Int), (n5 : Int), (n6 : Int), (n7 : Int), (n8 : Int), (n9 : Int), (n10 : Int), (n11 : Int), (n12 : Int), (n13 : Int), (n14 : Int), (n15 : Int).tmod 32768], 0 ≤ a ∧ a < 72057594037927936) := by
  have e1 : (n15 : Int).tdiv 32768 = ((n15 / 32768 : Nat) : Int) := by rw [Int.tdiv_eq_ediv_of_nonneg (Int.natCast_nonneg _)]; rfl
  have e2 : (n15 : Int).tmod 32768 = ((n15 % 32768 : Nat) : Int) := by rw [Int.tmod_eq_emod_of_nonneg (Int.natCast_nonneg _)]; rfl
  have e3 : wu ((n15 / 32768 : Nat) : Int) = ((n15 / 32768 : Nat) : Int) := wu_id (by omega) (by omega)
  have e4 : wu (19 * ((n15 / 32768 : Nat) : Int)) = 19 * ((n15 / 32768 : Nat) : Int) := wu_id (by omega) (by omega)
  have e5 : wu ((n0 : Int) + 19 * ((n15 / 32768 : Nat) : Int)) = ((n0 + 19 * (n15 / 32768) : Nat) : Int) := by rw [wu_id (by omega) (by omega)]; omega
  rw [e1, e2, e3, e4, e5]
  constructor
  · simp only [numI, Int.toNat_natCast, Nat.mul_zero, Nat.add_zero, show (2 : Nat) ^ 16 = 65536 from rfl]
    have := Nat.mod_add_div n15 32768
    generalize n15 / 32768 = t at *
    generalize n15 % 32768 = z at *
    subst this
    omega
  · intro a ha
    simp only [List.mem_cons, List.not_mem_nil, or_false] at ha
    omega

theorem dg_cast (w N i : Nat) : dg w N i = ((N / 2 ^ (w * i) % 2 ^ w : Nat) : Int) := rfl
theorem fold_num {N : Nat} (hN : N < 2 ^ 256) : ∃ t, (t = 0 ∨ t = 1) ∧ (decide (dg 16 N 15 > 32767) = decide (t = 1)) ∧ numI 16 (foldD N) + 2 ^ 255 * t = N + 19 * t ∧ (∀ a ∈ foldD N, 0 ≤ a ∧ a < 72057594037927936) := by
  have hb : ∀ i, N / 2 ^ (16 * i) % 2 ^ 16 < 65536 := fun i => Nat.mod_lt _ (by decide)
  obtain ⟨g1, g2⟩ := fold_gen _ _ _ _ _ _ _ _ _ _ _ _ _ _ _ _ (hb 0) (hb 1) (hb 2) (hb 3) (hb 4) (hb 5) (hb 6) (hb 7) (hb 8) (hb 9) (hb 10) (hb 11) (hb 12) (hb 13) (hb 14) (hb 15)
  simp only [← dg_cast] at g1 g2
  have hd : numI 16 [dg 16 N 0, dg 16 N 1, dg 16 N 2, dg 16 N 3, dg 16 N 4, dg 16 N 5, dg 16 N 6, dg 16 N 7, dg 16 N 8, dg 16 N 9, dg 16 N 10, dg 16 N 11, dg 16 N 12, dg 16 N 13, dg 16 N 14, dg 16 N 15] = N := by
    have := numI_digI 16 16 N
    rw [Nat.mod_eq_of_lt (show N < 2 ^ (16 * 16) from hN)] at this
    exact this
  rw [hd] at g1
  have h15 := hb 15
  refine ⟨N / 2 ^ (16 * 15) % 2 ^ 16 / 32768, by omega, ?_, g1, g2⟩
  rw [dg_cast]
  generalize N / 2 ^ (16 * 15) % 2 ^ 16 = x at *
  exact decide_eq_decide.2 (by omega)

theorem numV_mod {a b : Nat} (h : a % 2 ^ 256 = b % 2 ^ 256) : numV a = numV b := by
  unfold numV
  rw [← digI_mod 16 a 16, ← digI_mod 16 b 16, show (16 * 16 : Nat) = 256 from rfl, h]
theorem out_num {a V : Nat} (h : numV a = nmV (toF V)) : OutIs (.val (.pv (nmP (toF V)))) (.val (.pv (numP a))) :=
  ⟨_, nmP_val _, by rw [← h]; exact numP_val _⟩
theorem toF_lt {a V p m : Nat} (hp : p ≤ m) (h : a % p = V % p) (hlt : a < p) : V % p = a ∧ a < m := ⟨by rw [← h, Nat.mod_eq_of_lt hlt], Nat.lt_of_lt_of_le hlt hp⟩
theorem toF_eq {a V : Nat} (h : a % Ec.P = V % Ec.P) : toF a = toF V := by
  unfold toF
  exact Fin.ext h
theorem minus_gen {N p m y : Nat} (hN : N < m) (hp : p ≤ N) (hpm : p < m) (hy : y = N % m + m - p % m) : y % m = (N - p) % m := by
  subst hy
  exact minus_mod hN hpm hp
theorem mod_drop {N M p : Nat} (h : N = M + p) : M % p = N % p := by rw [h, Nat.add_mod_right]
theorem P255 : Ec.P + 19 = 2 ^ 255 := by decide

theorem D_end {N V q : Nat} (hN : N < 2 ^ 255) (hV : N % Ec.P = V % Ec.P) (hq : q = Ec.P) :
    (decide (N % 2 ^ 256 < q % 2 ^ 256) = true → numV N = nmV (toF V)) ∧
    (decide (N % 2 ^ 256 < q % 2 ^ 256) = false → numV (N % 2 ^ 256 + 2 ^ 256 - q % 2 ^ 256) = nmV (toF V)) := by
  subst hq
  rw [← toF_eq hV]
  have hP := P255
  have hm : (2 : Nat) ^ 256 = 2 * 2 ^ 255 := by rw [Nat.pow_succ, Nat.mul_comm]
  rw [lt_mod (by omega) (by omega)]
  constructor
  · intro h
    rw [nmV_of (by simpa using h)]
  · intro h
    have hge : Ec.P ≤ N := by simpa using h
    have h1 : (N - Ec.P) % Ec.P = N % Ec.P := (Nat.mod_eq_sub_mod hge).symm
    rw [← toF_eq h1, nmV_of (by omega)]
    exact numV_mod (minus_mod (by omega) (by omega) hge)

include hca in
theorem D_goes (V : Nat) : ∀ n N, N ≤ n → N < 2 ^ 256 → N % Ec.P = V % Ec.P → mdG o (OutIs (.val (.pv (nmP (toF V))))) (.code mLD.1 :: .lp mLD.1 :: mLD.2) (mdD [.dig .u64 16 N 16]) := by
  intro n
  induction n using Nat.strongRecOn with
  | ind n ih =>
    intro N hn hN hV
    have hx := md_D o rops N
    obtain ⟨t, ht, hc, hnum, hbd⟩ := fold_num hN
    rw [hc] at hx
    rcases ht with rfl | rfl
    · rw [show decide ((0 : Nat) = 1) = false from rfl, cond_false, rops_less, rops_minus, rops_prime] at hx
      rw [show decide ((0 : Nat) = 1) = false from rfl] at hc
      have h255 : N < 2 ^ 255 := by
        have h15 : ¬ (dg 16 N 15 > 32767) := of_decide_eq_false hc
        rw [dg_cast] at h15
        omega
      obtain ⟨s1, s2⟩ := D_end h255 hV rfl
      generalize N % 2 ^ 256 + 2 ^ 256 - Ec.P % 2 ^ 256 = y at *
      generalize decide (N % 2 ^ 256 < Ec.P % 2 ^ 256) = c at *
      cases c with
      | true =>
        simp only [Bool.not_true, cond_false] at hx
        exact .out 1 mdTdD 300 hx trivial (out_num (s1 rfl))
      | false =>
        simp only [Bool.not_false, cond_true] at hx
        exact .out 1 mdTdD 300 hx trivial (out_num (s2 rfl))
    · rw [show decide ((1 : Nat) = 1) = true from rfl, cond_true, hca, caL_16 (show (foldD N).length = 16 from rfl)] at hx
      have hP := P255
      rw [Nat.mul_one, Nat.mul_one] at hnum
      have hM : numI 16 (foldD N) < 2 ^ 256 := by omega
      have hlt : numI 16 (foldD N) < N := by omega
      have hmod : numI 16 (foldD N) % Ec.P = V % Ec.P := by
        rw [← hV]
        exact mod_drop (show N = numI 16 (foldD N) + Ec.P by omega)
      generalize numI 16 (foldD N) = M at *
      have hL := lenD_small hM
      unfold dl at hx
      rw [hL] at hx
      refine .at 1 mdTdD 300 hx ⟨⟨hbd, show 16 ≤ 1000 by decide⟩, ?_, ?_, trivial⟩ (firstI_goes o (Nat.le_refl 16) (.lp (ih (n - 1) (by omega) M (by omega) hM hmod)))
      · rw [digI_length]; rfl
      · show Nat.ble 16 (digI 16 M 16).length = true
        rw [digI_length]; rfl

include hca in
/-- behind all rounds: a number below 2^256, or one that is gone through again -/
theorem C_goes {V : Nat} (hrec : 2 ^ 256 ≤ V → o.pre (dl V) ∧ o.md (dl V) = toF V) :
    mdG o (OutIs (.val (.pv (nmP (toF V))))) (.code mLC.1 :: .lp mLC.1 :: mLC.2) (mdA 24 .sl (lenD V 16) (dl V)) := by
  have hx := md_C o rops (lenD V 16) (dl V)
  have hw : widS [.arr .u64 (dl V)] = lenD V 16 := dl_length V
  rcases Nat.lt_or_ge V (2 ^ 256) with h | h
  · have hL := lenD_small h
    rw [show decide (((lenD V 16 : Nat) : Int) > 16) = false from decide_eq_false (by omega), cond_false] at hx
    refine .at 1 mdTdC 300 hx ⟨?_, ?_, trivial⟩ (.loop ?_)
    · rw [dl_length, hL]; rfl
    · rw [hL]; rfl
    · unfold dl
      rw [hL]
      exact firstI_goes o (Nat.le_refl 16) (D_goes o hca V V V (Nat.le_refl _) h rfl)
  · have hL := lenD_great h
    obtain ⟨r1, r2⟩ := hrec h
    rw [show decide (((lenD V 16 : Nat) : Int) > 16) = true from decide_eq_true (by omega), cond_true, r2] at hx
    exact .out 1 mdTdC 300 hx ⟨r1, by rw [hw]; exact Nat.beq_refl _, trivial⟩ ⟨_, nmP_val _, nmP_val _⟩

theorem inD50 {l : List Int} (h : InD 16 l) : ∀ a ∈ l, 0 ≤ a ∧ a < 1125899906842624 := by
  intro a ha
  have := h a ha
  rw [show ((2 ^ 16 : Nat) : Int) = 65536 from rfl] at this
  omega
theorem exit_obs {l : List Int} (hl : ∀ a ∈ l, 0 ≤ a ∧ a < 1125899906842624) (h : l.length = 16) : AllP (mdO2 l.length l) := by
  have hw : widS [.arr .u64 l] = 16 := h
  refine ⟨?_, ?_, ⟨fun a ha => ?_, by omega⟩, ?_, trivial⟩
  · rw [hw, h]; rfl
  · rw [h]; rfl
  · have := hl a ha
    omega
  · rw [hw, h]; rfl
theorem step_obs {l : List Int} (h : 16 < l.length) : AllP (mdO1 l.length l) :=
  ⟨Nat.ble_eq_true_of_le (Nat.le_of_lt h), Nat.ble_eq_true_of_le (show 0 + 16 ≤ l.length by omega), rfl, trivial⟩

theorem fold_lt {lo hi V m : Nat} (h : lo + m * hi = V) (hm : 38 < m) (hlo : lo < m) (hV : m ≤ V) : lo + 38 * hi < V := by
  have h1 : 0 < hi := by
    rcases Nat.eq_zero_or_pos hi with h0 | h0
    · subst h0; omega
    · exact h0
  have : 38 * hi < m * hi := Nat.mul_lt_mul_of_pos_right hm h1
  omega

include hca in
/-- digits that are carried -/
theorem A_goes (W : Nat) : ∀ n V, V ≤ n → V < 2 ^ 256 * 2 ^ 64 → V % Ec.P = W % Ec.P → mdG o (OutIs (.val (.pv (nmP (toF W))))) (.code mLA.1 :: .lp mLA.1 :: mLA.2) (mdA 24 .sl (lenD V 16) (dl V)) := by
  intro n
  induction n using Nat.strongRecOn with
  | ind n ih =>
    intro V hn hV hW
    have hx := md_A2 o rops 24 (lenD V 16) (dl V)
    have hll := dl_length V
    have hle := lenD_le V
    have hbd := inD50 (show InD 16 (dl V) from InD.dig _ _ _)
    rcases Nat.lt_or_ge V (2 ^ 256) with h | h
    · have hL := lenD_small h
      rw [show decide (((lenD V 16 : Nat) : Int) > 16) = false from decide_eq_false (by omega), cond_false, hca, caL_16 (by rw [hll, hL]), dl_num hV, ← hll] at hx
      rw [← hll]
      refine .at 2 mdTdA 300 hx (exit_obs hbd (by rw [hll, hL])) (.loop ?_)
      rw [hll, ← toF_eq hW]
      exact C_goes o hca fun h' => absurd h (Nat.not_lt.2 h')
    · have hL := lenD_great h
      rw [show decide (((lenD V 16 : Nat) : Int) > 16) = true from decide_eq_true (by omega), cond_true, ← hll] at hx
      rw [← hll]
      refine .at 2 mdTdA 300 hx (step_obs (by omega)) (.loop ?_)
      have hs := split_num (l := dl V) (by omega)
      rw [dl_num hV] at hs
      have hlo : numI 16 ((dl V).take 16) < 2 ^ (16 * 16) := by
        have := numI_lt (w := 16) (l := (dl V).take 16) fun a ha => InD.dig 16 V _ a (List.mem_of_mem_take ha)
        rw [List.length_take, Nat.min_eq_left (by omega)] at this
        exact this
      have hlt := fold_lt hs (by decide) hlo h
      have hmod : (numI 16 ((dl V).take 16) + 38 * numI 16 ((dl V).drop 16)) % Ec.P = W % Ec.P := by
        rw [fold_mod two256, hs, hW]
      refine B_goes o hca hbd (by omega) (by omega) (fun low nl i => md_B2 o rops 24 _ _ low nl i) (ih (n - 1) (by omega) _ (by omega) (Nat.lt_trans hlt hV) hmod) _ 0 _ rfl (by omega) ?_ ?_ ?_ ?_
      · rw [List.drop_zero, List.length_take]; omega
      · intro a ha; simp at ha
      · rfl
      · simp [numI]

/-- not gone through twice -/
def mdOnce (l : List Int) : Prop := MdB l ∧ (16 < l.length ∨ InD 16 l)

include hca in
theorem mod_goes {l : List Int} {e : TypeId} (hl : MdB l) (hrec : l.length = 16 → ¬ InD 16 l → 2 ^ 256 ≤ numI 16 l → o.pre (dl (numI 16 l)) ∧ o.md (dl (numI 16 l)) = toF (numI 16 l)) :
    mdG o (OutIs (.val (.pv (nmP (toF (numI 16 l)))))) [.code (bodyOf mdFn)] (startA mdFn.ntmps .u64 l e .ro) := by
  obtain ⟨hb, h16, h32⟩ := hl
  refine .at 1 mdTd0 300 (md_first o rops l e) trivial (.loop ?_)
  have hx := md_A1 o rops e l.length l
  rcases Nat.eq_or_lt_of_le h16 with h | h
  · have hll : l.length = 16 := h.symm
    rw [show decide (((l.length : Nat) : Int) > 16) = false from decide_eq_false (by omega), cond_false, hca, caL_16 hll, dl_length] at hx
    refine .at 2 mdTdA 300 hx (exit_obs hb hll) (.loop ?_)
    have hn := num_16 (b := 1125899906842624) hb hll (by decide)
    refine C_goes o hca fun hg => hrec hll (fun hi => ?_) hg
    have := numI_lt hi
    rw [hll, show (16 * 16 : Nat) = 256 from rfl] at this
    omega
  · rw [show decide (((l.length : Nat) : Int) > 16) = true from decide_eq_true (by omega), cond_true] at hx
    refine .at 2 mdTdA 300 hx (step_obs h) (.loop ?_)
    have hs := split_num (l := l) h16
    have hmod : (numI 16 (l.take 16) + 38 * numI 16 (l.drop 16)) % Ec.P = numI 16 l % Ec.P := by rw [fold_mod two256, hs]
    have hlt : numI 16 (l.take 16) + 38 * numI 16 (l.drop 16) < 2 ^ 256 * 2 ^ 64 := by
      have b1 := num_bound (l := l.take 16) (b := 1125899906842624) fun a ha => hb a (List.mem_of_mem_take ha)
      have b2 := num_bound (l := l.drop 16) (b := 1125899906842624) fun a ha => hb a (List.mem_of_mem_drop ha)
      rw [List.length_take, Nat.min_eq_left h16, show (16 * 16 : Nat) = 256 from rfl] at b1
      have b3 : 2 ^ (16 * (l.drop 16).length) ≤ 2 ^ 256 := Nat.pow_le_pow_right (by decide) (by rw [List.length_drop]; omega)
      generalize 2 ^ (16 * (l.drop 16).length) = q at *
      have b4 : 1125899906842624 * q ≤ 1125899906842624 * 2 ^ 256 := Nat.mul_le_mul_left _ b3
      omega
    refine B_goes o hca hb h h32 (fun low nl i => md_B1 o rops e _ _ low nl i) (A_goes o hca _ _ _ (Nat.le_refl _) hlt hmod) _ 0 _ rfl (by omega) ?_ ?_ ?_ ?_
    · rw [List.drop_zero, List.length_take]; omega
    · intro a ha; simp at ha
    · rfl
    · simp [numI]
end

def mops0 : MOps := ⟨caL, fun _ => toF 0, fun _ => False⟩
def mops1 : MOps := ⟨caL, fun l => toF (numI 16 l), mdOnce⟩
def mops2 : MOps := ⟨caL, fun l => toF (numI 16 l), MdB⟩
theorem dl_once {V : Nat} (h : 2 ^ 256 ≤ V) : mdOnce (dl V) := by
  have := lenD_great h
  have h2 := lenD_le V
  have h3 := dl_length V
  exact ⟨⟨inD50 (InD.dig _ _ _), by omega, by omega⟩, .inl (by omega)⟩
theorem mod_0 : SlOK Try.prog 73 (spA .u64 .read (fun l => .val (.pv (nmP (mops0.md l)))) fun l => [mops0.pre l]) := by
  intro p o pr hres hp ρ v w harg
  exfalso
  cases p with
  | one c => simp [spA] at hres
  | agg cs =>
    simp only [spA] at hres
    cases hd : decInts .u64 cs with
    | none => simp [hd] at hres
    | some l =>
      simp only [hd] at hres
      cases hres
      exact hp.1
theorem S3_0 : TableOK Try.prog (mdT mops0 rops) := tableS_cons carried_ok (tableS_cons mod_0 (tableS_nil T10_ok))
theorem mod_1 : SlOK Try.prog 73 (spA .u64 .read (fun l => .val (.pv (nmP (mops1.md l)))) fun l => [mops1.pre l]) :=
  spA_read S3_0 mixed (fn := mdFn) Try.func73 (by decide +kernel) (by kernel_rfl) (by kernel_rfl) fun l e hp =>
    mod_goes mops0 rfl hp.1.1 fun h1 h2 _ => by
      rcases hp.1.2 with h | h
      · omega
      · exact absurd h h2
theorem S3_1 : TableOK Try.prog (mdT mops1 rops) := tableS_cons carried_ok (tableS_cons mod_1 (tableS_nil T10_ok))
theorem mod_2 : SlOK Try.prog 73 (spA .u64 .read (fun l => .val (.pv (nmP (mops2.md l)))) fun l => [mops2.pre l]) :=
  spA_read S3_1 mixed (fn := mdFn) Try.func73 (by decide +kernel) (by kernel_rfl) (by kernel_rfl) fun l e hp =>
    mod_goes mops1 rfl hp.1 fun h16 _ h => by
      have hlt : numI 16 l < 2 ^ 256 * 2 ^ 64 := by
        have := num_16 (b := 1125899906842624) hp.1.1 h16 (by decide)
        omega
      exact ⟨dl_once h, by show toF (numI 16 (dl (numI 16 l))) = _; rw [dl_num hlt]⟩
theorem S3_2 : TableOK Try.prog (mdT mops2 rops) := tableS_cons carried_ok (tableS_cons mod_2 (tableS_nil T10_ok))
end Go.Proofs.Ytahkpabndfaoiaa

/- The reference's sums, opposites, differences modulo the prime. -/
namespace Go.Proofs.Ytahkpabndfaoiaa
open Eng Go Go.RowKit Go.Proofs

def allS (n : Nat) : SRes := .row 24 [.arr .u64 (digI 16 n 16)]
def spAll : SlSpec := spD dN allS fun _ => []
noncomputable abbrev alF : Func := Try.f74
theorem all_x (r : ROps) (n : Nat) : runS Try.prog (lookT (T10 r)) alF 0 ⟨[], [], []⟩ 300 [.code (bodyOf alF)] (Eng.start alF.ntmps [numP n]) =
    some (.out (.row 24 [.dig .u64 16 n 16]), []) := by kernel_rfl
theorem all_ok : SlOK Try.prog 74 spAll :=
  spD_ok T10_ok mixed (fn := alF) Try.func74 (by decide +kernel) (by kernel_rfl) (by kernel_rfl) fun n _ =>
    .out 0 ⟨[], [], []⟩ 300 (all_x rops n) trivial ⟨rfl, _, rfl, by simp [cellVals, cellVal, digL_I]⟩
def S4 (o : MOps) : List (FuncId × SlSpec) := (74, spAll) :: S3 o
abbrev nT (o : MOps) (r : ROps) : Table := lookS (S4 o) (T10 r)
theorem S4_ok : TableOK Try.prog (nT mops2 rops) := tableS_cons all_ok S3_2

def addL (x y : Nat) : List Int := List.zipWith (fun a b => wu (a + b)) (digI 16 x 16) (digI 16 y 16)
theorem radd_x (o : MOps) (r : ROps) (x y : Fin Ec.P) : callX Try.prog (nT o r) 3000 Try.f62 [nmP x, nmP y] =
    some (.pv (nmP (o.md (addL x.val y.val))), [o.pre (addL x.val y.val)]) := by kernel_rfl
def negL (o : MOps) (r : ROps) (x : Nat) : List Int := digI 16 (r.minus r.prime (o.md (digI 16 x 16)).val) 16
theorem rneg_x (o : MOps) (r : ROps) (x : Fin Ec.P) : callX Try.prog (nT o r) 3000 Try.f46 [nmP x] =
    some (.pv (nmP (o.md (negL o r x.val))), [o.pre (negL o r x.val), Nat.beq (widS [.arr .u64 (negL o r x.val)]) (widS [.arr .u64 (negL o r x.val)]) = true, o.pre (digI 16 x.val 16)]) := by kernel_rfl

theorem addL_gen : ∀ {l m : List Int}, l.length = m.length → InD 16 l → InD 16 m → numI 16 (List.zipWith (fun a b => wu (a + b)) l m) = numI 16 l + numI 16 m ∧ (∀ a ∈ List.zipWith (fun a b => wu (a + b)) l m, 0 ≤ a ∧ a < 1125899906842624)
  | [], [], _, _, _ => ⟨rfl, fun a h => by cases h⟩
  | [], _ :: _, h, _, _ => by simp at h
  | _ :: _, [], h, _, _ => by simp at h
  | a :: l, b :: m, h, hl, hm => by
    obtain ⟨i1, i2⟩ := addL_gen (l := l) (m := m) (by simpa using h) hl.tail hm.tail
    have ha := hl.head
    have hb := hm.head
    simp only [show ((2 ^ 16 : Nat) : Int) = 65536 from rfl] at ha hb
    have hw : wu (a + b) = a + b := wu_id (by omega) (by omega)
    simp only [List.zipWith_cons_cons, hw, numI, i1]
    refine ⟨?_, ?_⟩
    · rw [show (2 : Nat) ^ 16 = 65536 from rfl]
      omega
    · intro c hc
      rcases List.mem_cons.1 hc with rfl | hc
      · omega
      · exact i2 c hc
theorem fin_lt (x : Fin Ec.P) : x.val < 2 ^ (16 * 16) := Nat.lt_trans x.isLt (by decide)
theorem toF_val (x : Fin Ec.P) : toF x.val = x := Fin.ext (Nat.mod_eq_of_lt x.isLt)
theorem dig_num (x : Fin Ec.P) : numI 16 (digI 16 x.val 16) = x.val := by rw [numI_digI, Nat.mod_eq_of_lt (fin_lt x)]
theorem addL_is (x y : Fin Ec.P) : toF (numI 16 (addL x.val y.val)) = x + y ∧ MdB (addL x.val y.val) := by
  obtain ⟨h1, h2⟩ := addL_gen (l := digI 16 x.val 16) (m := digI 16 y.val 16) rfl (InD.dig _ _ _) (InD.dig _ _ _)
  have hl : (addL x.val y.val).length = 16 := rfl
  refine ⟨?_, h2, by omega, by omega⟩
  unfold addL
  rw [h1, dig_num, dig_num]
  exact Fin.ext (by rw [Fin.val_add]; rfl)
theorem dig_B (n : Nat) : MdB (digI 16 n 16) := ⟨inD50 (InD.dig _ _ _), by simp [digI_length], by simp [digI_length]⟩
theorem rneg_gen {p x m y : Nat} (hx : x < p) (hp : p < m) (hy : y = p % m + m - x % m) : y % m = p - x := by
  subst hy
  rw [minus_mod hp (by omega) (by omega), Nat.mod_eq_of_lt (by omega)]
theorem rtoF_neg (x : Fin Ec.P) : toF (Ec.P - x.val) = -x := Fin.ext (by rw [Fin.neg_def]; rfl)
theorem P_lt : Ec.P < 2 ^ 256 := by decide
theorem negl (x : Fin Ec.P) (y : Nat) (hy : y = Ec.P % 2 ^ 256 + 2 ^ 256 - x.val % 2 ^ 256) : toF (y % 2 ^ 256) = -x := by rw [rneg_gen x.isLt P_lt hy, rtoF_neg]
theorem mops2_md (l : List Int) : mops2.md l = toF (numI 16 l) := rfl
theorem negL_is (x : Fin Ec.P) : mops2.md (negL mops2 rops x.val) = -x ∧ MdB (negL mops2 rops x.val) := by
  refine ⟨?_, dig_B _⟩
  unfold negL
  rw [mops2_md, mops2_md, dig_num, toF_val, rops_minus, rops_prime, numI_digI, show (16 * 16 : Nat) = 256 from rfl]
  exact negl x _ rfl

theorem radd_ok : SpecOK Try.prog 62 (spec2 dR dR fun x y => (.pv (nmP (x + y)), [])) :=
  spec2_ok Try.func62 (by decide +kernel) (by kernel_rfl) S4_ok mixed (by kernel_rfl) fun x y _ => by
    obtain ⟨h1, h2⟩ := addL_is x y
    refine ⟨_, _, _, radd_x mops2 rops x y, ⟨h2, trivial⟩, nmP_val _, ?_⟩
    rw [mops2_md, h1]
    exact nmP_val _
theorem rneg_ok : SpecOK Try.prog 46 (spec1 dR fun x => (.pv (nmP (-x)), [])) :=
  spec1_ok Try.func46 (by decide +kernel) (by kernel_rfl) S4_ok mixed (by kernel_rfl) fun x _ => by
    obtain ⟨h1, h2⟩ := negL_is x
    refine ⟨_, _, _, rneg_x mops2 rops x, ⟨h2, Nat.beq_refl _, dig_B _, trivial⟩, nmP_val _, ?_⟩
    rw [h1]
    exact nmP_val _
end Go.Proofs.Ytahkpabndfaoiaa
