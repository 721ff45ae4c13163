/-
  Contract of FormatRhythm in the reference.
  Conditions: the beats lie in memory.
-/
import Derived.Test.YtcgpmdfcdngnlaaDoorE1
set_option linter.unusedVariables false
set_option linter.unusedSimpArgs false
namespace Go.Proofs.YtcgpmdfcdngnlaaDoor
open Go.RowKit

/-- The byte that stands for pulse j. -/
def dB (x : List Int) (j : Nat) : UInt8 := if hasL x (j : Int) then 120 else 46
def txL (x : List Int) : Nat → List UInt8
  | 0 => []
  | p + 1 => txL x p ++ [dB x p]
def tx (x : List Int) (p : Nat) : ByteArray := ⟨(txL x p).toArray⟩
def fmtR (n : Int) (x : List Int) : ByteArray := if rok n x then tx x n.toNat else ⟨#[]⟩
theorem txL_len (x : List Int) (p : Nat) : (txL x p).length = p := by
  induction p with
  | zero => rfl
  | succ p ih => simp [txL, ih]
theorem tx_size (x : List Int) (p : Nat) : (tx x p).size = p := by
  show (txL x p).toArray.size = p
  simp [txL_len]
theorem tx_yes {x : List Int} {p : Nat} (h : hasL x (p : Int) = true) : tx x (p + 1) = tx x p ++ (⟨#[120]⟩ : ByteArray) := by
  apply ByteArray.ext
  simp [tx, txL, dB, h]
theorem tx_no {x : List Int} {p : Nat} (h : hasL x (p : Int) = false) : tx x (p + 1) = tx x p ++ (⟨#[46]⟩ : ByteArray) := by
  apply ByteArray.ext
  simp [tx, txL, dB, h]
theorem txL_get (x : List Int) (p j : Nat) (hj : j < p) : (txL x p)[j]? = some (dB x j) := by
  induction p with
  | zero => omega
  | succ p ih =>
    rw [txL]
    by_cases h : j < p
    · rw [List.getElem?_append_left (by rw [txL_len]; exact h)]; exact ih h
    · have : j = p := by omega
      subst this
      rw [List.getElem?_append_right (by rw [txL_len]; omega), txL_len]; simp
theorem dB_nat (x : List Int) (j : Nat) : ((dB x j).toNat : Int) = if hasL x (j : Int) then 120 else 46 := by
  unfold dB; split <;> rfl
theorem ret_txt {a b : ByteArray} (h : a = b) : Ending.returned (.string a) = Ending.returned (.string b) := by rw [h]

set_option maxRecDepth 20000 in
set_option maxHeartbeats 1000000 in
theorem specFormatRhythmC (n : Int) (v : Value) (x : List Int) (c : I64 n) (w : World) (h : Ints w w.heap.size v x) :
    Calls Tryd.prog 37 #[.agg #[.int .i64 n, v]] w fun e w' => e = .returned (.string (fmtR n x)) ∧ Below w.heap.size w w' := by
  have h' := h
  obtain ⟨a, cap, rfl, -⟩ := h'
  cases hr : rok n x with
  | false =>
    have Hr := Lib.hid hr
    have Hs : Hid ((⟨#[]⟩ : ByteArray) = fmtR n x) := by unfold Hid fmtR; rw [hr]; rfl
    clear hr
    go_enter Tryd.func37, Tryd.ntmps37
    go_wp2_with (go_at_call 62; refine (specRhythmOk _ _ x _ _ c.1 c.2 (h.alloc (Nat.le_refl _) _)).mono ?_; rintro e w' ⟨rfl, rfl⟩; rw [Hr.out])
    go_ret
    exact ⟨ret_txt Hs.out, by (repeat (first | (with_reducible exact (Below.refl _ _)) | (with_reducible refine bel_alloc ?_ _) | (with_reducible refine Below.drew ?_) | (with_reducible refine bel_drewN ?_ _) | (with_reducible refine Below.setCell ?_ (by simp) _)))⟩
  | true =>
    have Hr := Lib.hid hr
    have hR := (rok_iff n x).1 hr
    have hlo := hR.lo
    have hhi := hR.hi
    have Hs : Hid (tx x n.toNat = fmtR n x) := by unfold Hid fmtR; rw [hr]; rfl
    clear hr
    go_enter Tryd.func37, Tryd.ntmps37
    go_wp2_with (go_at_call 62; refine (specRhythmOk _ _ x _ _ c.1 c.2 (h.alloc (Nat.le_refl _) _)).mono ?_; rintro e w' ⟨rfl, rfl⟩; rw [Hr.out])
    go_loopw [3, 4] (fun s i wr => ∃ k : Nat, (k : Int) ≤ n ∧ i = .int .i64 k ∧ s = .string (tx x k) ∧ Bx wr w.heap.size (.int .i64 n) (.slice a x.length cap) 31 ∧ Below w.heap.size w wr) (fun _ i _ => (n - intOf i).toNat)
    case atStart => exact ⟨0, by omega, rfl, rfl, by (repeat (first | (with_reducible refine Bx.newAt _ _ _ _ ?_; simp; done) | (with_reducible refine Bx.alloc ?_ _) | (with_reducible refine Bx.drew ?_) | (with_reducible refine Bx.drewN ?_ _))), by (repeat (first | (with_reducible exact (Below.refl _ _)) | (with_reducible refine bel_alloc ?_ _) | (with_reducible refine Below.drew ?_) | (with_reducible refine bel_drewN ?_ _) | (with_reducible refine Below.setCell ?_ (by simp) _)))⟩
    case round =>
      obtain ⟨k, hk, rfl, rfl, hbx, hbel⟩ := hrel
      have q0 := hbx.c0
      have q1 := hbx.c1
      have HH := Lib.hid (Ints.ofBelow h hbel)
      have HX := Lib.hid hbx
      have HB := Lib.hid hbel
      by_cases hlt : (k : Int) < n
      · cases hh : hasL x (k : Int) with
        | false =>
          have Hh := Lib.hid hh
          have Hn := Lib.hid (tx_no hh)
          have hsz := tx_size x k
          generalize tx x k = T at *
          clear hbx hbel hh
          go_wp2_with (go_at_call 63; refine (specL02Has _ x _ _ _ HH.out).mono ?_; rintro e w' ⟨rfl, rfl⟩; rw [Hh.out])
          go_roundw
          case rel => exact ⟨k + 1, by omega, by go_num, by rw [Hn.out], HX.out, HB.out⟩
          case measure => simp [intOf]; omega
        | true =>
          have Hh := Lib.hid hh
          have Hn := Lib.hid (tx_yes hh)
          have hsz := tx_size x k
          generalize tx x k = T at *
          clear hbx hbel hh
          go_wp2_with (go_at_call 63; refine (specL02Has _ x _ _ _ HH.out).mono ?_; rintro e w' ⟨rfl, rfl⟩; rw [Hh.out])
          go_roundw
          case rel => exact ⟨k + 1, by omega, by go_num, by rw [Hn.out], HX.out, HB.out⟩
          case measure => simp [intOf]; omega
      · have e : n = (k : Int) := by omega
        subst e
        clear hbx hbel
        have Hs2 : Hid (tx x k = fmtR (k : Int) x) := Hs.out
        go_wp2
        go_ret
        exact ⟨ret_txt Hs2.out, HB.out⟩
end Go.Proofs.YtcgpmdfcdngnlaaDoor
