/-
  Plain facts: the number of a rhythm's text, how such numbers are ordered, and how many bits a number has.
  No program in sight.
-/
import Derived.Test.YtopfenhphnmfkaaM12
set_option linter.unusedVariables false
set_option linter.unusedSimpArgs false
namespace Go.Proofs.Ytopfenhphnmfkaa

/-! ### the number of a rhythm -/
def codeN (n : Int) (x : List Int) : Nat := x.foldl (fun a p => a ||| 2 ^ (n - 1 - p).toNat) 0
theorem codeN_nil (n : Int) : codeN n [] = 0 := rfl
theorem codeN_snoc (n : Int) (x : List Int) (p : Int) : codeN n (x ++ [p]) = codeN n x ||| 2 ^ (n - 1 - p).toNat := by simp [codeN]
theorem codeN_take {n : Int} {x : List Int} {k : Nat} (h : k < x.length) : codeN n (x.take (k + 1)) = codeN n (x.take k) ||| 2 ^ (n - 1 - x[k]).toNat := by
  rw [List.take_succ_eq_append_getElem h, codeN_snoc]
theorem fold_lt (n : Int) : ∀ (x : List Int) (a : Nat), (∀ p ∈ x, 0 ≤ p ∧ p < n) → n ≤ 24 → a < 2 ^ 24 → x.foldl (fun a p => a ||| 2 ^ (n - 1 - p).toNat) a < 2 ^ 24
  | [], a, _, _, h => h
  | p :: x, a, hx, hn, h => by
    rw [List.foldl_cons]
    refine fold_lt n x _ (fun q hq => hx q (List.mem_cons_of_mem _ hq)) hn (Nat.or_lt_two_pow h ?_)
    have := hx p (List.mem_cons_self ..)
    exact Nat.pow_lt_pow_right (by decide) (by omega)
theorem codeN_lt {n : Int} {x : List Int} (hx : ∀ p ∈ x, 0 ≤ p ∧ p < n) (hn : n ≤ 24) : codeN n x < 16777216 := fold_lt n x 0 hx hn (by decide)
theorem fold_bit (n : Int) (i : Nat) : ∀ (x : List Int) (a : Nat), (x.foldl (fun a p => a ||| 2 ^ (n - 1 - p).toNat) a).testBit i = (a.testBit i || x.any fun p => decide ((n - 1 - p).toNat = i))
  | [], a => by simp
  | p :: x, a => by
    rw [List.foldl_cons, fold_bit n i x, Nat.testBit_or, List.any_cons, Bool.or_assoc, Nat.testBit_two_pow]
theorem codeN_bit (n : Int) (x : List Int) (i : Nat) : (codeN n x).testBit i = x.any fun p => decide ((n - 1 - p).toNat = i) := by
  unfold codeN; rw [fold_bit]; simp
/-- Bit i says whether pulse n - 1 - i has a beat. -/
theorem codeN_pulse {n : Int} {x : List Int} (hx : ∀ p ∈ x, 0 ≤ p ∧ p < n) {i : Nat} (hi : (i : Int) < n) : (codeN n x).testBit i = hasL x (n - 1 - i) := by
  rw [codeN_bit, Bool.eq_iff_iff, List.any_eq_true]
  unfold hasL
  rw [decide_eq_true_eq]
  constructor
  · rintro ⟨p, hp, h⟩
    rw [decide_eq_true_eq] at h
    have := hx p hp
    have e : n - 1 - (i : Int) = p := by omega
    rw [e]; exact hp
  · intro h
    exact ⟨_, h, by rw [decide_eq_true_eq]; omega⟩
theorem codeN_high {n : Int} {x : List Int} (hx : ∀ p ∈ x, 0 ≤ p ∧ p < n) {i : Nat} (hi : ¬ (i : Int) < n) : (codeN n x).testBit i = false := by
  rw [codeN_bit, Bool.eq_false_iff, Ne, List.any_eq_true]
  rintro ⟨p, hp, h⟩
  rw [decide_eq_true_eq] at h
  have := hx p hp
  omega

theorem lt_of_bit {a b : Nat} (i : Nat) (ha : a.testBit i = false) (hb : b.testBit i = true) (h : ∀ j, i < j → a.testBit j = b.testBit j) : a < b := by
  have e : a / 2 ^ (i + 1) = b / 2 ^ (i + 1) := Nat.eq_of_testBit_eq fun j => by
    rw [Nat.testBit_div_two_pow, Nat.testBit_div_two_pow]; exact h _ (by omega)
  rw [Nat.pow_succ, ← Nat.div_div_eq_div_mul, ← Nat.div_div_eq_div_mul] at e
  rw [Nat.testBit_eq_decide_div_mod_eq] at ha hb
  have h1 : a / 2 ^ i % 2 ≠ 1 := of_decide_eq_false ha
  have h2 : b / 2 ^ i % 2 = 1 := of_decide_eq_true hb
  have h3 : a / 2 ^ i < b / 2 ^ i := by omega
  exact Nat.lt_of_div_lt_div h3

/-- Is the text of x after that of y, from pulse p on? -/
def aftGo (n : Int) (x y : List Int) : Nat → Int → Bool
  | 0, _ => false
  | f + 1, p => if hasL x p = hasL y p then aftGo n x y f (p + 1) else hasL x p
def aft (n : Int) (x y : List Int) : Bool := aftGo n x y n.toNat 0
theorem aftGo_diff {n : Int} {x y : List Int} {p : Int} (hp : p < n) (h : hasL x p ≠ hasL y p) : aftGo n x y (n - p).toNat p = hasL x p := by
  have e : (n - p).toNat = (n - (p + 1)).toNat + 1 := by omega
  rw [e]
  simp [aftGo, h]
theorem aftGo_same {n : Int} {x y : List Int} {p : Int} (hp : p < n) (h : hasL x p = hasL y p) : aftGo n x y (n - p).toNat p = aftGo n x y (n - (p + 1)).toNat (p + 1) := by
  have e : (n - p).toNat = (n - (p + 1)).toNat + 1 := by omega
  rw [e]
  simp [aftGo, h]
theorem aftGo_end {n : Int} {x y : List Int} {p : Int} (hp : ¬ p < n) : aftGo n x y (n - p).toNat p = false := by
  have e : (n - p).toNat = 0 := by omega
  rw [e]; rfl
theorem aftGo_code {n : Int} {x y : List Int} (hx : ∀ p ∈ x, 0 ≤ p ∧ p < n) (hy : ∀ p ∈ y, 0 ≤ p ∧ p < n) : ∀ (f : Nat) (p : Int), 0 ≤ p → p + f = n → (∀ q, 0 ≤ q → q < p → hasL x q = hasL y q) →
    aftGo n x y f p = decide (codeN n y < codeN n x)
  | 0, p, h0, hf, hq => by
    have e : codeN n x = codeN n y := by
      apply Nat.eq_of_testBit_eq
      intro i
      by_cases hi : (i : Int) < n
      · rw [codeN_pulse hx hi, codeN_pulse hy hi]; exact hq _ (by omega) (by omega)
      · rw [codeN_high hx hi, codeN_high hy hi]
    rw [e]; simp [aftGo]
  | f + 1, p, h0, hf, hq => by
    unfold aftGo
    by_cases h : hasL x p = hasL y p
    · rw [if_pos h]
      refine aftGo_code hx hy f (p + 1) (by omega) (by omega) fun q hq0 hq1 => ?_
      by_cases e : q = p
      · rw [e]; exact h
      · exact hq q hq0 (by omega)
    · rw [if_neg h]
      have hi : ((n - 1 - p).toNat : Int) < n := by omega
      have ep : n - 1 - ((n - 1 - p).toNat : Int) = p := by omega
      have bx : (codeN n x).testBit (n - 1 - p).toNat = hasL x p := by rw [codeN_pulse hx hi, ep]
      have by' : (codeN n y).testBit (n - 1 - p).toNat = hasL y p := by rw [codeN_pulse hy hi, ep]
      have hj : ∀ j, (n - 1 - p).toNat < j → (codeN n x).testBit j = (codeN n y).testBit j := by
        intro j hj
        by_cases hjn : (j : Int) < n
        · rw [codeN_pulse hx hjn, codeN_pulse hy hjn]; exact hq _ (by omega) (by omega)
        · rw [codeN_high hx hjn, codeN_high hy hjn]
      cases hxp : hasL x p with
      | true =>
        have hyp : hasL y p = false := by cases hyp : hasL y p with | true => rw [hxp, hyp] at h; exact absurd rfl h | false => rfl
        have := lt_of_bit _ (by rw [by', hyp]) (by rw [bx, hxp]) (fun j hj' => (hj j hj').symm)
        simpa using this
      | false =>
        have hyp : hasL y p = true := by cases hyp : hasL y p with | false => rw [hxp, hyp] at h; exact absurd rfl h | true => rfl
        have := lt_of_bit _ (by rw [bx, hxp]) (by rw [by', hyp]) hj
        simp; omega
theorem aft_code {n : Int} {x y : List Int} (hx : Rok n x) (hy : Rok n y) : aft n x y = decide (codeN n y < codeN n x) :=
  aftGo_code (fun p hp => ⟨hx.ge p hp, hx.lt p hp⟩) (fun p hp => ⟨hy.ge p hp, hy.lt p hp⟩) _ 0 (by omega) (by have := hx.lo; omega) (fun q h0 h1 => by omega)

/-! ### how many bits a number has -/
def pop : Nat → Nat → Nat
  | 0, _ => 0
  | f + 1, a => a % 2 + pop f (a / 2)
theorem pop_bits (f a : Nat) : pop f a = ((List.range f).filter fun i => a.testBit i).length := by
  induction f generalizing a with
  | zero => rfl
  | succ f ih =>
    rw [pop, ih, List.range_succ_eq_map, List.filter_cons, List.filter_map]
    have e : (fun i => a.testBit i) ∘ Nat.succ = fun i => (a / 2).testBit i := by
      funext i; simp [Nat.testBit_succ]
    rw [e]
    have h0 : a.testBit 0 = decide (a % 2 = 1) := Nat.testBit_zero a
    by_cases h : a % 2 = 1
    · rw [if_pos (by rw [h0]; simpa using h), List.length_cons, List.length_map]; omega
    · rw [if_neg (by rw [h0]; simpa using h), List.length_map]; omega
/-- Byte after byte. -/
theorem pop_split (f a : Nat) : pop (8 + f) a = pop 8 (a % 256) + pop f (a / 256) := by
  have e1 : pop (8 + f) a = a % 2 + (a / 2 % 2 + (a / 2 / 2 % 2 + (a / 2 / 2 / 2 % 2 + (a / 2 / 2 / 2 / 2 % 2 + (a / 2 / 2 / 2 / 2 / 2 % 2 + (a / 2 / 2 / 2 / 2 / 2 / 2 % 2 + (a / 2 / 2 / 2 / 2 / 2 / 2 / 2 % 2 + pop f (a / 2 / 2 / 2 / 2 / 2 / 2 / 2 / 2)))))))) := by
    rw [show 8 + f = f + 1 + 1 + 1 + 1 + 1 + 1 + 1 + 1 by omega]; rfl
  have e2 : a / 2 / 2 / 2 / 2 / 2 / 2 / 2 / 2 = a / 256 := by omega
  rw [e1, e2]
  simp only [pop]
  omega
theorem and_split (a m : Nat) : a &&& m = (a % 256 &&& m % 256) + 256 * (a / 256 &&& m / 256) := by
  have h1 : (a &&& m) % 256 = a % 256 &&& m % 256 := by
    have := @Nat.and_mod_two_pow a m 8
    simpa using this
  have h2 : (a &&& m) / 256 = a / 256 &&& m / 256 := by
    have := @Nat.and_div_two_pow a m 8
    simpa using this
  rw [← h1, ← h2]
  omega
end Go.Proofs.Ytopfenhphnmfkaa
