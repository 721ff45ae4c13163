/-
  Contracts of ParseRhythm, in the program and in the reference.
  Condition: the text is no longer than two to the twentieth.
-/
import Derived.Test.YtcgpmdfcdngnlaaDoorP4
import Derived.Test.YtcgpmdfcdngnlaaDoorZ9
import Derived.Test.YtcgpmdfcdngnlaaDoorShT
import Derived.Shelf.Strings.SlTrimAscii
set_option linter.unusedVariables false
set_option linter.unusedSimpArgs false
namespace Go.Proofs.YtcgpmdfcdngnlaaDoor
open Go.RowKit

/-! ### plain -/
def inXD (c : UInt8) : Bool := decide (c.toNat = 120) || decide (c.toNat = 46)
def okParseRhythm (s : ByteArray) : Bool := (decide (1 ≤ s.size) && decide (s.size ≤ 24)) && s.data.toList.all inXD
def prTo (s : ByteArray) : Nat → List Int
  | 0 => []
  | k + 1 => if (spAt s k).toNat = 120 then prTo s k ++ [(k : Int)] else prTo s k
def lstParseRhythm (s : ByteArray) : List Int := if okParseRhythm s = true then prTo s s.size else []
def numParseRhythm (s : ByteArray) : Int := if okParseRhythm s = true then (s.size : Int) else 0
theorem pr_yes {s : ByteArray} (h : okParseRhythm s = true) : numParseRhythm s = (s.size : Int) ∧ lstParseRhythm s = prTo s s.size := by simp [numParseRhythm, lstParseRhythm, h]
theorem pr_no {s : ByteArray} (h : okParseRhythm s = false) : numParseRhythm s = 0 ∧ lstParseRhythm s = [] := by simp [numParseRhythm, lstParseRhythm, h]
theorem prTo_yes {s : ByteArray} {k : Nat} (hk : k < s.size) (h : s[k].toNat = 120) : prTo s (k + 1) = prTo s k ++ [(k : Int)] := by rw [prTo, spAt_get hk, if_pos h]
theorem prTo_no {s : ByteArray} {k : Nat} (hk : k < s.size) (h : ¬ s[k].toNat = 120) : prTo s (k + 1) = prTo s k := by rw [prTo, spAt_get hk, if_neg h]
theorem prTo_len (s : ByteArray) : ∀ k, (prTo s k).length ≤ k
  | 0 => Nat.le_refl _
  | k + 1 => by
    have := prTo_len s k
    rw [prTo]
    split
    · simp; omega
    · omega
theorem mem_prTo {s : ByteArray} {z : Int} : ∀ {k : Nat}, z ∈ prTo s k ↔ ∃ j : Nat, j < k ∧ z = (j : Int) ∧ (spAt s j).toNat = 120
  | 0 => by simp [prTo]
  | k + 1 => by
    have ih := mem_prTo (s := s) (z := z) (k := k)
    rw [prTo]
    split
    · rename_i h
      rw [List.mem_append, ih, List.mem_singleton]
      constructor
      · rintro (⟨j, h1, h2, h3⟩ | h1)
        · exact ⟨j, by omega, h2, h3⟩
        · exact ⟨k, by omega, h1, h⟩
      · rintro ⟨j, h1, h2, h3⟩
        by_cases e : j = k
        · subst e; exact .inr h2
        · exact .inl ⟨j, by omega, h2, h3⟩
    · rename_i h
      rw [ih]
      constructor
      · rintro ⟨j, h1, h2, h3⟩; exact ⟨j, by omega, h2, h3⟩
      · rintro ⟨j, h1, h2, h3⟩
        by_cases e : j = k
        · subst e; exact absurd h3 h
        · exact ⟨j, by omega, h2, h3⟩
theorem prTo_inc (s : ByteArray) : ∀ k, (prTo s k).Pairwise (· < ·)
  | 0 => List.Pairwise.nil
  | k + 1 => by
    rw [prTo]
    split
    · rw [List.pairwise_append]
      refine ⟨prTo_inc s k, List.pairwise_singleton _ _, fun a ha b hb => ?_⟩
      obtain ⟨j, h1, h2, -⟩ := mem_prTo.1 ha
      have : b = (k : Int) := by simpa using hb
      omega
    · exact prTo_inc s k
theorem prTo_rok {s : ByteArray} {k : Nat} (h1 : 1 ≤ s.size) (h2 : s.size ≤ 24) (hk : k ≤ s.size) : Rok (s.size : Int) (prTo s k) where
  lo := by omega
  hi := by omega
  ge := fun z hz => by obtain ⟨j, q1, q2, -⟩ := mem_prTo.1 hz; omega
  lt := fun z hz => by obtain ⟨j, q1, q2, -⟩ := mem_prTo.1 hz; omega
  inc := prTo_inc s k
/-- The trimmed text is empty exactly where all its bytes are of the set. -/
theorem dw_all (p : UInt8 → Bool) : ∀ l : List UInt8, (∀ x ∈ l.dropWhile p, p x = true) → ∀ x ∈ l, p x = true
  | [], _ => fun x hx => by cases hx
  | a :: l, h => by
    by_cases ha : p a = true
    · rw [List.dropWhile_cons_of_pos ha] at h
      intro x hx
      rcases List.mem_cons.1 hx with rfl | hx
      · exact ha
      · exact dw_all p l h x hx
    · rw [List.dropWhile_cons_of_neg ha] at h
      exact h
theorem dw_nil (p : UInt8 → Bool) : ∀ l : List UInt8, l.dropWhile p = [] ↔ ∀ x ∈ l, p x = true
  | [] => by simp
  | a :: l => by
    by_cases ha : p a = true
    · rw [List.dropWhile_cons_of_pos ha, dw_nil p l]
      simp [ha]
    · rw [List.dropWhile_cons_of_neg ha]
      simp [ha]
theorem trim_iff (l : List UInt8) : Lib.trimS l [120, 46] = [] ↔ l.all inXD = true := by
  have hp : ∀ x : UInt8, ([120, 46] : List UInt8).contains x = inXD x := by
    intro x
    rw [Bool.eq_iff_iff]
    unfold inXD
    simp only [List.contains_eq_mem, Bool.or_eq_true, decide_eq_true_eq, List.mem_cons, List.mem_nil_iff, or_false]
    constructor
    · rintro (rfl | rfl)
      · exact .inl rfl
      · exact .inr rfl
    · rintro (h | h)
      · exact .inl (UInt8.toNat_inj.1 h)
      · exact .inr (UInt8.toNat_inj.1 h)
  unfold Lib.trimS Lib.trimLeftS Lib.trimRightS
  rw [dw_nil, List.all_eq_true]
  constructor
  · intro h x hx
    rw [← hp]
    refine dw_all (fun y => ([120, 46] : List UInt8).contains y) l.reverse ?_ x (List.mem_reverse.2 hx)
    intro y hy
    exact h y (List.mem_reverse.2 hy)
  · intro h x hx
    rw [hp]
    exact h x (List.mem_reverse.1 ((List.dropWhile_sublist _).subset (List.mem_reverse.1 hx)))
/-- The text of the rhythm read off a text is that text exactly where all its bytes are of the set. -/
theorem hasL_prTo {s : ByteArray} {j k : Nat} (hj : j < k) : hasL (prTo s k) (j : Int) = decide ((spAt s j).toNat = 120) := by
  unfold hasL
  rw [decide_eq_decide, mem_prTo]
  constructor
  · rintro ⟨i, h1, h2, h3⟩
    have : i = j := by omega
    subst this; exact h3
  · intro h; exact ⟨j, hj, rfl, h⟩
theorem tx_iff {s : ByteArray} : tx (prTo s s.size) s.size = s ↔ s.data.toList.all inXD = true := by
  have hl : (txL (prTo s s.size) s.size) = s.data.toList ↔ ∀ j, j < s.size → dB (prTo s s.size) j = spAt s j := by
    constructor
    · intro h j hj
      have h1 := txL_get (prTo s s.size) s.size j hj
      rw [h, List.getElem?_eq_getElem (by simpa using hj)] at h1
      have := Option.some.inj h1
      rw [← this]
      unfold spAt
      rw [List.getD_eq_getElem?_getD, List.getElem?_eq_getElem (by simpa using hj)]; rfl
    · intro h
      apply List.ext_getElem
      · rw [txL_len]; simp
      · intro j h1 h2
        rw [txL_len] at h1
        have h3 := txL_get (prTo s s.size) s.size j h1
        rw [List.getElem?_eq_getElem (by rw [txL_len]; exact h1)] at h3
        rw [Option.some.inj h3, h j h1]
        unfold spAt
        rw [List.getD_eq_getElem?_getD, List.getElem?_eq_getElem h2]; rfl
  have hb : ∀ j, j < s.size → (dB (prTo s s.size) j = spAt s j ↔ inXD (spAt s j) = true) := by
    intro j hj
    unfold dB inXD
    rw [hasL_prTo hj]
    by_cases h : (spAt s j).toNat = 120
    · simp only [h, decide_true, if_true, Bool.true_or, iff_true]
      exact UInt8.toNat_inj.1 h.symm
    · simp only [h, decide_false, Bool.false_eq_true, if_false, Bool.false_or, decide_eq_true_eq]
      exact ⟨fun e => by rw [← e]; rfl, fun e => UInt8.toNat_inj.1 e.symm⟩
  rw [List.all_eq_true]
  constructor
  · intro h x hx
    obtain ⟨j, hj, rfl⟩ := List.mem_iff_getElem.1 hx
    have hj' : j < s.size := by simpa using hj
    have h1 : (txL (prTo s s.size) s.size) = s.data.toList := by
      have := congrArg (fun b : ByteArray => b.data.toList) h
      simpa [tx] using this
    have h2 := (hb j hj').1 (hl.1 h1 j hj')
    unfold spAt at h2
    rw [List.getD_eq_getElem?_getD, List.getElem?_eq_getElem hj] at h2
    exact h2
  · intro h
    have h1 := hl.2 fun j hj => (hb j hj).2 (h _ (by
      have hj' : j < s.data.toList.length := by simpa using hj
      unfold spAt
      rw [List.getD_eq_getElem?_getD, List.getElem?_eq_getElem hj']
      exact List.getElem_mem hj'))
    apply ByteArray.ext
    unfold tx
    rw [h1]
end Go.Proofs.YtcgpmdfcdngnlaaDoor
