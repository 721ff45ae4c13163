/-
  Plain facts: the rhythm with a code has that code; twins said in the reference's way.
  No program in sight.
-/
import Derived.Test.YtopfenhphnmfkaaR5
import Derived.Test.YtopfenhphnmfkaaM17
import Derived.Test.YtopfenhphnmfkaaV3
set_option linter.unusedVariables false
set_option linter.unusedSimpArgs false
namespace Go.Proofs.Ytopfenhphnmfkaa

theorem codeN_ofCode {n : Int} (h1 : 1 ≤ n) (h2 : n ≤ 24) {c : Nat} (hc : c < 2 ^ n.toNat) : codeN n (ofCode n c) = c := by
  have hY := ofCode_rok h1 h2 c
  have hx : ∀ p ∈ ofCode n c, 0 ≤ p ∧ p < n := fun p hp => ⟨hY.ge p hp, hY.lt p hp⟩
  refine Nat.eq_of_testBit_eq fun i => ?_
  by_cases hi : (i : Int) < n
  · rw [codeN_pulse hx hi]
    have h3 : (n - 1 - (i : Int)) ∈ ofCode n c ↔ c.testBit i = true := by
      unfold ofCode
      rw [mem_ocTo, show n - 1 - (n - 1 - (i : Int)) = (i : Int) by omega]
      have : ((i : Nat) : Int).toNat = i := by omega
      rw [this]
      exact ⟨fun h => h.2, fun h => ⟨by omega, h⟩⟩
    by_cases h4 : c.testBit i = true
    · rw [h4]; simp [hasL, h3.2 h4]
    · have h5 : ¬ (n - 1 - (i : Int)) ∈ ofCode n c := fun h => h4 (h3.1 h)
      have h6 : c.testBit i = false := by simpa using h4
      rw [h6]; simp [hasL, h5]
  · rw [codeN_high hx hi]
    symm
    exact Nat.testBit_lt_two_pow (Nat.lt_of_lt_of_le hc (Nat.pow_le_pow_right (by decide) (by omega)))
theorem pop_ofCode {n : Int} (h1 : 1 ≤ n) (h2 : n ≤ 24) {c : Nat} (hc : c < 2 ^ n.toNat) : pop 24 c = (ofCode n c).length := by
  have hY := ofCode_rok h1 h2 c
  have h := comm_pop hY hY
  rw [codeN_ofCode h1 h2 hc, Nat.and_self] at h
  rw [h]
  have e : (ofCode n c).filter (hasL (ofCode n c)) = ofCode n c := by
    rw [List.filter_eq_self]
    intro a ha
    unfold hasL
    exact decide_eq_true ha
  unfold comm
  rw [e]
theorem twins_iff {n : Int} {x y : List Int} (hx : Rok n x) (hy : Rok n y) : valAreTwins n x n y = (eqL (vecOut n x x.length) (vecOut n y y.length) && !valAreForms n x n y) := by
  have hs : sameSz n n x y = true := sameSz_iff.2 ⟨hx, hy, rfl⟩
  unfold valAreTwins
  rw [valSameVector_yes hs]
/-- The reference's test. -/
theorem okT_spec {n : Int} {x : List Int} (hx : Rok n x) {c : Nat} (hc : c < 2 ^ n.toNat) :
    okT n x c = (decide ((ofCode n c).length = x.length) && (eqL (veTo (difOut n (ofCode n c) (ofCode n c).length) n (n / 2).toNat) (veTo (difOut n x x.length) n (n / 2).toNat) && (eqL (formV n (ofCode n c)) (ofCode n c) && !valAreForms n x n (ofCode n c)))) := by
  have hY := ofCode_rok hx.lo hx.hi c
  unfold okT okW
  rw [twins_iff hx hY, pop_ofCode hx.lo hx.hi hc, vec_same hx, vec_same hY]
  have e : ∀ a b : List Int, eqL a b = eqL b a := fun a b => by simp [eqL, eq_comm]
  rw [e (veTo (difOut n x x.length) n (n / 2).toNat)]
  generalize decide ((ofCode n c).length = x.length) = A
  generalize eqL (veTo (difOut n (ofCode n c) (ofCode n c).length) n (n / 2).toNat) (veTo (difOut n x x.length) n (n / 2).toNat) = B
  generalize eqL (formV n (ofCode n c)) (ofCode n c) = C
  generalize valAreForms n x n (ofCode n c) = D
  cases A <;> cases B <;> cases C <;> cases D <;> rfl
end Go.Proofs.Ytopfenhphnmfkaa
