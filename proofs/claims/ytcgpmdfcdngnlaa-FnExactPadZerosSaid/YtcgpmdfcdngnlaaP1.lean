/-
  Contracts of PadZeros, in the program and in the reference.
  Conditions: the text is no longer than two to the twentieth.
-/
import Derived.Test.YtcgpmdfcdngnlaaSh
import Derived.Test.YtcgpmdfcdngnlaaB0
set_option linter.unusedVariables false
set_option linter.unusedSimpArgs false
namespace Go.Proofs.Ytcgpmdfcdngnlaa
open Go.RowKit Go.Shelf

def zer (k : Nat) : ByteArray := ⟨(Lib.repeatL [48] k).toArray⟩
theorem rep_snoc (k : Nat) : Lib.repeatL [48] (k + 1) = 48 :: Lib.repeatL [48] k := rfl
theorem zer_zero (s : ByteArray) : zer 0 ++ s = s := by
  apply ByteArray.ext; simp [zer, Lib.repeatL]
theorem zer_succ (k : Nat) (s : ByteArray) : (⟨#[48]⟩ : ByteArray) ++ (zer k ++ s) = zer (k + 1) ++ s := by
  have e : zer (k + 1) = (⟨#[48]⟩ : ByteArray) ++ zer k := by
    apply ByteArray.ext
    apply Array.ext'
    simp [zer, rep_snoc]
  rw [e, ByteArray.append_assoc]
theorem ret_strP {a b : ByteArray} (h : a = b) : Ending.returned (.string a) = Ending.returned (.string b) := by rw [h]
theorem zer_size (k : Nat) : (zer k).size = k := by
  have := Lib.repeatL_length [(48 : UInt8)] k
  simpa [zer, ByteArray.size] using this
theorem zer_app (k : Nat) (s : ByteArray) : (zer k ++ s).size = k + s.size := by rw [ByteArray.size_append, zer_size]
def valPadZeros (s : ByteArray) (n : Int) : ByteArray := if n ≤ 2000 then zer (n - s.size).toNat ++ s else s
theorem pad_no {s : ByteArray} {n : Int} (h : 2000 < n) : valPadZeros s n = s := by unfold valPadZeros; rw [if_neg (by omega)]
theorem pad_full {s : ByteArray} {n : Int} (h : n ≤ s.size) : valPadZeros s n = s := by
  unfold valPadZeros
  split
  · rw [show (n - s.size).toNat = 0 by omega, zer_zero]
  · rfl
theorem pad_yes {s : ByteArray} {n : Int} (h : n ≤ 2000) : valPadZeros s n = zer (n - s.size).toNat ++ s := by unfold valPadZeros; rw [if_pos h]

set_option maxHeartbeats 800000 in
theorem specPadZeros0 (s : ByteArray) (hs : s.size ≤ 1048576) (n : Int) (c : I64 n) (w : World) :
    Calls Try.prog 16 #[.string s, .int .i64 n] w fun e w' => e = .returned (.string (valPadZeros s n)) ∧ w = w' := by
  by_cases h : 2000 < n
  · have Hf := Lib.hid (pad_no (s := s) h)
    go_enter Try.func16, Try.ntmps16
    go_wp2
    go_ret
    exact ⟨ret_strP Hf.out.symm, rfl⟩
  · have Hf := Lib.hid (pad_yes (s := s) (show n ≤ 2000 by omega))
    go_enter Try.func16, Try.ntmps16
    go_wp2
    go_loopw [0] (fun u wr => ∃ k : Nat, k ≤ (n - s.size).toNat ∧ u = .string (zer k ++ s) ∧ wr = w) (fun u _ => (n - s.size).toNat - ((match u with | .string t => t.size | _ => 0) - s.size))
    case atStart => exact ⟨0, Nat.zero_le _, by rw [zer_zero], by first | rfl | trivial⟩
    case round =>
      obtain ⟨k, hk, rfl, rfl⟩ := hrel
      have hz := zer_app k s
      by_cases hlt : ((k + s.size : Nat) : Int) < n
      · have Hn := Lib.hid (zer_succ k s)
        have Hlt := Lib.hid hlt
        have Hsz := Lib.hid (show ((⟨#[48]⟩ : ByteArray) ++ (zer k ++ s)).size = 1 + (k + s.size) from by rw [ByteArray.size_append, zer_app]; rfl)
        go_wp2
        go_roundw
        case rel => exact ⟨k + 1, by have := Hlt.out; omega, by rw [← Hn.out], by first | rfl | trivial⟩
        case measure =>
          have hl := Hlt.out
          show (n - s.size).toNat - (((⟨#[48]⟩ : ByteArray) ++ (zer k ++ s)).size - s.size) < (n - s.size).toNat - ((zer k ++ s).size - s.size)
          rw [Hsz.out, hz]; omega
      · go_wp2
        go_ret
        exact ⟨ret_strP (by rw [Hf.out, show k = (n - s.size).toNat by omega]), by first | rfl | trivial⟩

theorem specPadZerosC (s : ByteArray) (hs : s.size ≤ 1048576) (n : Int) (c : I64 n) (w : World) :
    Calls Try.prog 16 #[.string s, .int .i64 n] w fun e w' => e = .returned (.string (valPadZeros s n)) ∧ Below w.heap.size w w' :=
  (specPadZeros0 s hs n c w).mono fun _ _ ⟨he, hw⟩ => ⟨he, hw ▸ Below.refl _ _⟩
set_option maxRecDepth 20000 in
set_option maxHeartbeats 800000 in
theorem implPadZerosC (s : ByteArray) (hs : s.size ≤ 1048576) (n : Int) (c : I64 n) (w : World) :
    Calls Try.prog 17 #[.string s, .int .i64 n] w fun e w' => e = .returned (.string (valPadZeros s n)) ∧ Below w.heap.size w w' := by
  by_cases h0 : n ≤ (s.size : Int)
  · have Hf := Lib.hid (pad_full h0)
    go_enter Try.func17, Try.ntmps17
    go_wp2
    go_ret
    exact ⟨ret_strP Hf.out.symm, Below.refl _ _⟩
  · by_cases h : 2000 < n
    · have Hf := Lib.hid (pad_no (s := s) h)
      go_enter Try.func17, Try.ntmps17
      go_wp2
      go_ret
      exact ⟨ret_strP Hf.out.symm, Below.refl _ _⟩
    · have hf := pad_yes (s := s) (show n ≤ 2000 by omega)
      obtain ⟨k, hk⟩ : ∃ k : Nat, (n - (s.size : Int)).toNat = k := ⟨_, rfl⟩
      have hw : IntKind.i64.wrap (n - (s.size : Int)) = (k : Int) := by rw [IntWalk.i64_in _ (by omega)]; omega
      have hk2 : k ≤ 2000 := by omega
      rw [hk] at hf
      have Hf := Lib.hid hf
      have hz := zer_size k
      have hr : Calls Try.prog 26 #[.string ⟨#[48]⟩, .int .i64 (k : Int)] w fun e w' => e = .returned (.string (zer k)) ∧ Below w.heap.size w w' := Try.strings_Repeat ⟨#[48]⟩ k w (by omega) (by rw [show (⟨#[48]⟩ : ByteArray).size = 1 from rfl]; omega)
      have Hr := Lib.hid hr
      clear hf hk hr
      go_enter Try.func17, Try.ntmps17
      go_wp2_with fail
      refine Hr.out.mono ?_
      rintro e w1 ⟨rfl, hb⟩
      have Hb := Lib.hid hb
      clear hb
      go_wp2
      go_ret
      exact ⟨ret_strP (by rw [Hf.out]), Hb.out⟩
end Go.Proofs.Ytcgpmdfcdngnlaa
