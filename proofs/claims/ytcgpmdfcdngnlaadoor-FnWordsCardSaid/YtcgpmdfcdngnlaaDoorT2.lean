/-
  Plain facts on decimal texts: what is parsed from the text of a number is the number; when a text is the text of a number.
  No program in sight.
-/
import Derived.Test.YtcgpmdfcdngnlaaDoorT1
import Derived.Test.YtcgpmdfcdngnlaaDoorA1
import Derived.Lib.AtoiAllCases
set_option linter.unusedVariables false
set_option linter.unusedSimpArgs false
namespace Go.Proofs.YtcgpmdfcdngnlaaDoor
open Go.RowKit

theorem parse_snoc (c : UInt8) : ∀ (l : List UInt8) (acc : Nat), Lib.parseUint10 acc (l ++ [c]) = match Lib.parseUint10 acc l with | .ok a => Lib.parseUint10 a [c] | e => e
  | [], acc => rfl
  | b :: r, acc => by
    simp only [List.cons_append, Lib.parseUint10]
    split
    · split
      · rfl
      · split
        · rfl
        · exact parse_snoc c r _
    · rfl
theorem digit_nat {d : Nat} (h : d < 10) : (UInt8.ofNat (48 + d)).toNat = 48 + d := by rw [UInt8.toNat_ofNat']; omega
theorem parse_dd (u : Nat) : u < 18446744073709551616 → Lib.parseUint10 0 (Lib.decDigits u) = .ok u := by
  induction u using Nat.strongRecOn with
  | _ u ih =>
    intro h
    by_cases h1 : u < 10
    · rw [Lib.decDigits_one h1]
      simp only [Lib.parseUint10, digit_nat h1]
      rw [if_pos (by omega), if_neg (by omega), if_neg (by omega)]
      simp
    · rw [Lib.decDigits, dif_neg h1, parse_snoc, ih (u / 10) (by omega) (by omega)]
      simp only [Lib.parseUint10, digit_nat (Nat.mod_lt u (by decide : 0 < 10))]
      rw [if_pos (by omega), if_neg (by omega), if_neg (by omega)]
      congr 1
      omega
theorem dd_ne (u : Nat) : Lib.decDigits u ≠ [] := by
  intro h
  have := Lib.decDigits_length u
  have h2 := Lib.nDigits_pos u
  rw [h] at this
  simp at this
  omega
theorem dd_digits (u : Nat) : ∀ c ∈ Lib.decDigits u, isDig c = true := by
  induction u using Nat.strongRecOn with
  | _ u ih =>
    intro c hc
    by_cases h1 : u < 10
    · rw [Lib.decDigits_one h1] at hc
      simp only [List.mem_singleton] at hc
      subst hc
      simp only [isDig, digit_nat h1, Bool.and_eq_true, decide_eq_true_eq]
      omega
    · rw [Lib.decDigits, dif_neg h1, List.mem_append] at hc
      rcases hc with hc | hc
      · exact ih (u / 10) (by omega) c hc
      · simp only [List.mem_singleton] at hc
        subst hc
        simp only [isDig, digit_nat (Nat.mod_lt u (by decide : 0 < 10)), Bool.and_eq_true, decide_eq_true_eq]
        omega
theorem atoi_itoa (n : Int) (c : I64 n) : Lib.atoiAll (Lib.itoa n) = .ok n := by
  obtain ⟨h1, h2⟩ := c
  by_cases h : 0 ≤ n
  · obtain ⟨u, rfl⟩ := Int.eq_ofNat_of_zero_le h
    have hp := parse_dd u (by omega)
    have hd := dd_digits u
    have hm : Lib.parseMag (Lib.decDigits u) = .ok u := by unfold Lib.parseMag; rw [if_neg (dd_ne u)]; exact hp
    rw [Lib.itoa_nonneg]
    cases hl : Lib.decDigits u with
    | nil => exact absurd hl (dd_ne u)
    | cons b r =>
      have hb := isDig_true (hd b (by rw [hl]; exact List.mem_cons_self ..))
      rw [Lib.atoiAll_plain b r (by omega) (by omega), ← hl, hm]
      simp only [Lib.signless]
      rw [if_neg (by omega)]
  · obtain ⟨u, hu⟩ := Int.eq_ofNat_of_zero_le (show 0 ≤ -n by omega)
    have e : n = -(u : Int) := by omega
    subst e
    have hp := parse_dd u (by omega)
    have hm : Lib.parseMag (Lib.decDigits u) = .ok u := by unfold Lib.parseMag; rw [if_neg (dd_ne u)]; exact hp
    rw [Lib.itoa_neg u (by omega), Lib.atoiAll_minus, hm]
    simp only [Lib.signed]
    rw [if_neg (by omega)]

def okP (s : ByteArray) : Bool := match Lib.atoiAll s.data.toList with | .ok v => decide (itB v = s) | _ => false
def numP (s : ByteArray) : Int := match Lib.atoiAll s.data.toList with | .ok v => if itB v = s then v else 0 | _ => 0
theorem itB_list (n : Int) : (itB n).data.toList = Lib.itoa n := by simp [itB]
theorem okP_yes {s : ByteArray} {n : Int} (c : I64 n) (h : itB n = s) : okP s = true ∧ numP s = n := by
  subst h
  unfold okP numP
  rw [itB_list, atoi_itoa n c]
  simp
theorem okP_some {s : ByteArray} (h : okP s = true) : ∃ m, I64 m ∧ itB m = s := by
  unfold okP at h
  split at h
  · rename_i v hv
    exact ⟨v, Lib.atoiAll_bounds hv, of_decide_eq_true h⟩
  · cases h
theorem numP_no {s : ByteArray} (h : okP s = false) : numP s = 0 := by
  unfold okP at h
  unfold numP
  split
  · rename_i v hv
    rw [hv] at h
    simp only [decide_eq_false_iff_not] at h
    rw [if_neg h]
  · rfl
theorem okP_ok {s : ByteArray} {v : Int} (h : Lib.atoiAll s.data.toList = .ok v) (hs : itB v = s) : okP s = true ∧ numP s = v := okP_yes (Lib.atoiAll_bounds h) hs
theorem okP_ok2 {s : ByteArray} {v : Int} (h : Lib.atoiAll s.data.toList = .ok v) (hs : ¬ itB v = s) : okP s = false := by
  unfold okP; rw [h]; simp [hs]
theorem okP_syn {s : ByteArray} (h : Lib.atoiAll s.data.toList = Lib.atoiAll []) : okP s = false := by unfold okP; rw [h]; rfl
theorem atoi_end (x : Lib.NumEnd Int) : (∃ v, x = .ok v) ∨ x = Lib.atoiAll [] ∨ x = .range := by
  cases x
  · exact .inl ⟨_, rfl⟩
  · exact .inr (.inl rfl)
  · exact .inr (.inr rfl)
theorem okP_ran {s : ByteArray} (h : Lib.atoiAll s.data.toList = .range) : okP s = false := by unfold okP; rw [h]

/-! ### the value of digits -/
def val (l : List UInt8) : Int := l.foldl (fun a c => a * 10 + ((c.toNat : Int) - 48)) 0
theorem val_snoc (l : List UInt8) (c : UInt8) : val (l ++ [c]) = val l * 10 + ((c.toNat : Int) - 48) := by simp [val, List.foldl_append]
theorem val_dd (u : Nat) : val (Lib.decDigits u) = (u : Int) := by
  induction u using Nat.strongRecOn with
  | _ u ih =>
    by_cases h1 : u < 10
    · rw [Lib.decDigits_one h1]
      simp only [val, List.foldl, digit_nat h1]
      omega
    · rw [Lib.decDigits, dif_neg h1, val_snoc, ih (u / 10) (by omega), digit_nat (Nat.mod_lt u (by decide : 0 < 10))]
      omega
theorem val_take {l : List UInt8} {k : Nat} (hk : k < l.length) : val (l.take (k + 1)) = val (l.take k) * 10 + ((l[k].toNat : Int) - 48) := by
  rw [List.take_succ_eq_append_getElem hk, val_snoc]
theorem val_ge {l : List UInt8} (hd : ∀ c ∈ l, isDig c = true) : ∀ k, k ≤ l.length → 0 ≤ val (l.take k)
  | 0, _ => by simp [val]
  | k + 1, h => by
    have h1 := val_ge hd k (by omega)
    have h2 := isDig_true (hd _ (List.getElem_mem (show k < l.length by omega)))
    rw [val_take (by omega)]
    omega
theorem val_le {l : List UInt8} (hd : ∀ c ∈ l, isDig c = true) (k : Nat) : ∀ j, k + j ≤ l.length → val (l.take k) ≤ val (l.take (k + j))
  | 0, _ => Int.le_refl _
  | j + 1, h => by
    have h0 := val_le hd k j (by omega)
    have h1 := val_ge hd (k + j) (by omega)
    have h2 := isDig_true (hd _ (List.getElem_mem (show k + j < l.length by omega)))
    rw [show k + (j + 1) = k + j + 1 by omega, val_take (by omega)]
    omega

/-- If the text s is a number's, then t holds its digits and neg says its sign. -/
def Tl (s t : ByteArray) (neg : Bool) : Prop := ∀ m, I64 m → itB m = s → t = ddB m.natAbs ∧ neg = decide (m < 0)
theorem ddB_list (u : Nat) : (ddB u).data.toList = Lib.decDigits u := by simp [ddB]
theorem itB_shape (m : Int) : (0 ≤ m ∧ itB m = ddB m.natAbs) ∨ (m < 0 ∧ itB m = (⟨#[45]⟩ : ByteArray) ++ ddB m.natAbs) := by
  by_cases h : 0 ≤ m
  · obtain ⟨u, rfl⟩ := Int.eq_ofNat_of_zero_le h
    exact .inl ⟨h, by rw [itB_pos, Int.natAbs_natCast]⟩
  · obtain ⟨u, hu⟩ := Int.eq_ofNat_of_zero_le (show 0 ≤ -m by omega)
    have e : m = -(u : Int) := by omega
    subst e
    exact .inr ⟨by omega, by rw [itB_neg (by omega), Int.natAbs_neg, Int.natAbs_natCast]⟩
theorem get_list {s : ByteArray} {k : Nat} (hk : k < s.size) : s.data.toList[k]? = some s[k] := by
  have h' : k < s.data.toList.length := by simpa using hk
  rw [List.getElem?_eq_getElem h']; simp [ByteArray.getElem_eq_getElem_data]
theorem first_digit (u : Nat) : ∃ b r, Lib.decDigits u = b :: r ∧ isDig b = true := by
  cases hl : Lib.decDigits u with
  | nil => exact absurd hl (dd_ne u)
  | cons b r => exact ⟨b, r, rfl, dd_digits u b (by rw [hl]; exact List.mem_cons_self ..)⟩
theorem Tl.empty {s : ByteArray} (h : s.size = 0) (t : ByteArray) (neg : Bool) : Tl s t neg := by
  intro m c hm
  exfalso
  obtain ⟨b, r, hb, -⟩ := first_digit m.natAbs
  have hl : s.data.toList.length = 0 := by simpa using h
  rcases itB_shape m with ⟨-, e⟩ | ⟨-, e⟩
  · rw [← hm, e, ddB_list, hb] at hl; simp at hl
  · rw [← hm, e] at hl; simp at hl
theorem Tl.minus {s : ByteArray} (h : 0 < s.size) (h0 : s[0].toNat = 45) : Tl s (s.extract 1 s.size) true := by
  intro m c hm
  have hg := get_list h
  rcases itB_shape m with ⟨h1, e⟩ | ⟨h1, e⟩
  · exfalso
    obtain ⟨b, r, hb, hd⟩ := first_digit m.natAbs
    have : s.data.toList = b :: r := by rw [← hm, e, ddB_list, hb]
    rw [this] at hg
    simp at hg
    rw [← hg] at h0
    have := isDig_true hd
    omega
  · refine ⟨?_, by simp [h1]⟩
    subst hm
    rw [e]
    apply ByteArray.ext
    simp
    right
    have e1 : (⟨#[45]⟩ : ByteArray).size = 1 := rfl
    omega
theorem Tl.plain {s : ByteArray} (h : 0 < s.size) (h0 : ¬ s[0].toNat = 45) : Tl s s false := by
  intro m c hm
  have hg := get_list h
  rcases itB_shape m with ⟨h1, e⟩ | ⟨h1, e⟩
  · exact ⟨by rw [← hm, e], by simp [h1]⟩
  · exfalso
    have : s.data.toList = 45 :: Lib.decDigits m.natAbs := by rw [← hm, e]; simp [ddB_list]
    rw [this] at hg
    simp at hg
    rw [← hg] at h0
    exact h0 rfl
theorem isDigits_iff {t : ByteArray} : isDigits t = true ↔ 0 < t.size ∧ ∀ c ∈ t.data.toList, isDig c = true := by
  unfold isDigits
  simp only [Bool.and_eq_true, decide_eq_true_eq, List.all_eq_true]
theorem isDigits_at {t : ByteArray} (h : isDigits t = true) {k : Nat} (hk : k < t.size) : 48 ≤ (t[k].toNat : Int) ∧ (t[k].toNat : Int) ≤ 57 :=
  isDig_true ((isDigits_iff.1 h).2 _ (List.mem_of_getElem? (get_list hk)))
theorem dd_isDigits (u : Nat) : isDigits (ddB u) = true := by
  rw [isDigits_iff, ddB_list]
  refine ⟨?_, dd_digits u⟩
  have := Lib.nDigits_pos u
  rw [ddB_size]; omega
theorem exit1 {s t : ByteArray} {neg : Bool} (hT : Tl s t neg) (h : isDigits t = false) : okP s = false := by
  cases ho : okP s with
  | false => rfl
  | true =>
    obtain ⟨m, c, hm⟩ := okP_some ho
    rw [(hT m c hm).1, dd_isDigits] at h
    cases h
theorem exit2 {s t : ByteArray} {neg : Bool} (hT : Tl s t neg) (h : 19 < t.size) : okP s = false := by
  cases ho : okP s with
  | false => rfl
  | true =>
    obtain ⟨m, c, hm⟩ := okP_some ho
    rw [(hT m c hm).1, ddB_size] at h
    obtain ⟨c1, c2⟩ := c
    have := nDigits_le 18 m.natAbs (by omega)
    omega
/-- The value of the first k digits. -/
def vTo (t : ByteArray) (k : Nat) : Int := val (t.data.toList.take k)
theorem vTo_zero (t : ByteArray) : vTo t 0 = 0 := by simp [vTo, val]
theorem vTo_succ {t : ByteArray} {k : Nat} (hk : k < t.size) : vTo t (k + 1) = vTo t k * 10 + ((t[k].toNat : Int) - 48) := by
  unfold vTo
  have h' : k < t.data.toList.length := by simpa using hk
  rw [val_take h']
  simp [ByteArray.getElem_eq_getElem_data]
theorem vTo_ge {t : ByteArray} (h : isDigits t = true) {k : Nat} (hk : k ≤ t.size) : 0 ≤ vTo t k := val_ge (isDigits_iff.1 h).2 k (by simpa using hk)
theorem vTo_le {t : ByteArray} (h : isDigits t = true) {k : Nat} (hk : k ≤ t.size) : vTo t k ≤ vTo t t.size := by
  have := val_le (isDigits_iff.1 h).2 k (t.size - k) (by simp; omega)
  rw [show k + (t.size - k) = t.size by omega] at this
  exact this
theorem vTo_all {s t : ByteArray} {neg : Bool} (hT : Tl s t neg) {m : Int} (c : I64 m) (hm : itB m = s) : vTo t t.size = (m.natAbs : Int) := by
  unfold vTo
  have e : t.data.toList.take t.size = t.data.toList := List.take_of_length_le (by simp)
  rw [e, (hT m c hm).1, ddB_list, val_dd]
theorem exit3 {s t : ByteArray} {neg : Bool} (hT : Tl s t neg) (hd : isDigits t = true) {k : Nat} (hk : k < t.size) (h : 9223372036854775808 < vTo t (k + 1)) : okP s = false := by
  cases ho : okP s with
  | false => rfl
  | true =>
    obtain ⟨m, c, hm⟩ := okP_some ho
    have h1 := vTo_le hd (show k + 1 ≤ t.size by omega)
    rw [vTo_all hT c hm] at h1
    obtain ⟨c1, c2⟩ := c
    omega
theorem exit4 {s t : ByteArray} (hT : Tl s t false) (h : vTo t t.size = 9223372036854775808) : okP s = false := by
  cases ho : okP s with
  | false => rfl
  | true =>
    obtain ⟨m, c, hm⟩ := okP_some ho
    rw [vTo_all hT c hm] at h
    have := (hT m c hm).2
    obtain ⟨c1, c2⟩ := c
    simp at this
    omega
theorem exit5 {s t : ByteArray} {neg : Bool} (hT : Tl s t neg) {n : Int} (hn : n = if neg = true then -(vTo t t.size) else vTo t t.size) (h : ¬ itB n = s) : okP s = false := by
  cases ho : okP s with
  | false => rfl
  | true =>
    obtain ⟨m, c, hm⟩ := okP_some ho
    exfalso
    apply h
    rw [vTo_all hT c hm, (hT m c hm).2] at hn
    have e : n = m := by
      rw [hn]
      by_cases hlt : m < 0
      · simp [hlt]; omega
      · simp [hlt]; omega
    rw [e, hm]
end Go.Proofs.YtcgpmdfcdngnlaaDoor
