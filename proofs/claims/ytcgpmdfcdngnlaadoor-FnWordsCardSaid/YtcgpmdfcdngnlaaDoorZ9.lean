/-
  Contracts of SplitAny, in the program and in the reference.
  Conditions: both texts are no longer than two to the twentieth.
-/
import Derived.Test.YtcgpmdfcdngnlaaDoorZ8
import Derived.Test.YtcgpmdfcdngnlaaDoorSh
import Derived.Lib.IndexLaws
set_option linter.unusedVariables false
set_option linter.unusedSimpArgs false
namespace Go.Proofs.YtcgpmdfcdngnlaaDoor
open Go.RowKit Go.Shelf

def isIn (b : ByteArray) (c : UInt8) : Bool := decide (c ∈ b.data.toList)
def spAt (s : ByteArray) (k : Nat) : UInt8 := s.data.toList.getD k 0
def spTo (s b : ByteArray) : Nat → List ByteArray × Nat
  | 0 => ([], 0)
  | k + 1 => if isIn b (spAt s k) = true then ((spTo s b k).1 ++ [s.extract (spTo s b k).2 k], k + 1) else spTo s b k
theorem spTo_yes {s b : ByteArray} {k : Nat} (h : isIn b (spAt s k) = true) : spTo s b (k + 1) = ((spTo s b k).1 ++ [s.extract (spTo s b k).2 k], k + 1) := by rw [spTo, if_pos h]
theorem spTo_no {s b : ByteArray} {k : Nat} (h : isIn b (spAt s k) = false) : spTo s b (k + 1) = spTo s b k := by rw [spTo, if_neg (by simp [h])]
theorem spTo_from (s b : ByteArray) : ∀ k, (spTo s b k).2 ≤ k
  | 0 => Nat.le_refl _
  | k + 1 => by
    unfold spTo; split
    · exact Nat.le_refl _
    · exact Nat.le_succ_of_le (spTo_from s b k)
theorem spTo_len (s b : ByteArray) : ∀ k, (spTo s b k).1.length ≤ k
  | 0 => Nat.le_refl _
  | k + 1 => by
    unfold spTo; split
    · simp only [List.length_append, List.length_singleton]; exact Nat.succ_le_succ (spTo_len s b k)
    · exact Nat.le_succ_of_le (spTo_len s b k)
def lstSplitAny (s b : ByteArray) : List ByteArray := (spTo s b s.size).1 ++ [s.extract (spTo s b s.size).2 s.size]
theorem lenSplitAny (s b : ByteArray) : (lstSplitAny s b).length ≤ s.size + 1 := by
  have := spTo_len s b s.size
  simp only [lstSplitAny, List.length_append, List.length_singleton]; omega
theorem spAt_get {s : ByteArray} {k : Nat} (h : k < s.size) : spAt s k = s[k] := by
  have h' : k < s.data.toList.length := by simpa using h
  simp [spAt, List.getD_eq_getElem?_getD, List.getElem?_eq_getElem h', ByteArray.getElem_eq_getElem_data]
theorem isIn_yes {b : ByteArray} {c : UInt8} (h : isIn b c = true) : 0 ≤ Lib.indexByte b.data.toList c := by
  have h0 := Lib.indexByte_ge b.data.toList c
  by_cases e : Lib.indexByte b.data.toList c = -1
  · have hn := Lib.indexByte_none e
    have hm : c ∈ b.data.toList := by simpa [isIn] using h
    obtain ⟨i, hi, hc⟩ := List.mem_iff_getElem.1 hm
    exact absurd (by rw [List.getElem?_eq_getElem hi, hc]) (hn i)
  · omega
theorem isIn_no {b : ByteArray} {c : UInt8} (h : isIn b c = false) : Lib.indexByte b.data.toList c < 0 := by
  have h0 := Lib.indexByte_ge b.data.toList c
  rcases Int.lt_or_le (Lib.indexByte b.data.toList c) 0 with h1 | h1
  · exact h1
  · obtain ⟨o, ho⟩ := Int.eq_ofNat_of_zero_le h1
    have hm := List.mem_of_getElem? (Lib.indexByte_some ho).1
    simp [isIn, hm] at h
theorem ext_ok (s : ByteArray) (i j : Nat) : (s.extract i j).size ≤ s.size := by rw [ByteArray.size_extract]; omega

set_option maxRecDepth 20000 in
set_option maxHeartbeats 1600000 in
theorem implSplitAnyC (s : ByteArray) (hs : s.size ≤ 1048576) (b : ByteArray) (hb : b.size ≤ 1048576) (w : World) :
    Calls Tryd.prog 30 #[.string s, .string b] w (RetOwnS w (lstSplitAny s b)) := by
  go_enter Tryd.func30, Tryd.ntmps30
  go_wp2
  go_loopw [5, 6, 10] (fun u f i wr => ∃ k : Nat, k ≤ s.size ∧ i = .int .i64 k ∧ f = .int .i64 ((spTo s b k).2 : Nat) ∧ (∃ a' m' c', u = .slice a' m' c' ∧ (spTo s b k).1.length = m' ∧ OwnS wr w.heap.size (.slice a' m' c') (spTo s b k).1) ∧ Below w.heap.size w wr) (fun _ _ i _ => s.size - (intOf i).toNat)
  case atStart => exact ⟨0, Nat.zero_le _, rfl, rfl, ⟨none, 0, 0, rfl, rfl, OwnS.nil _ _⟩, Below.refl _ _⟩
  case round =>
    obtain ⟨k, hk, rfl, rfl, ⟨a', m', c', rfl, hm, hown⟩, hbel⟩ := hrel
    have hfr := spTo_from s b k
    have hln := spTo_len s b k
    have HO := Lib.hid hown
    have HB := Lib.hid hbel
    have HM := Lib.hid hm
    rw [hm] at hln
    clear hown hbel hm
    by_cases hlt : k < s.size
    · have hat := spAt_get hlt
      have HI := Lib.hid (Tryd.strings_IndexByte b ((s[k].toNat : Nat) : Int) wr)
      have hcc : (((s[k].toNat : Nat) : Int).toNat.toUInt8) = spAt s k := by rw [hat]; simp
      rw [hcc] at HI
      clear hcc hat
      cases hin : isIn b (spAt s k) with
      | true =>
        have hi0 := isIn_yes hin
        have HN := Lib.hid (spTo_yes hin)
        clear hin
        generalize hX : Lib.indexByte b.data.toList (spAt s k) = IX at *
        clear hX
        generalize hF : (spTo s b k).2 = F at *
        have HF := Lib.hid hF
        clear hF
        go_wp2_with (first | (go_at_call 58; refine Calls.mono HI.out ?_; rintro e w1 ⟨rfl, rfl⟩) | (refine wpAppStr rfl _ _ rfl w.heap.size a' m' c' (spTo s b k).1 (s.extract F k) rfl rfl HO.out HM.out (by omega) HB.out.size ?_; intro a'' c'' w1 hown1 hbel1; have HO1 := Lib.hid hown1; have HB1 := Lib.hid hbel1; clear hown1 hbel1))
        go_roundw
        case rel =>
          refine ⟨k + 1, by omega, by go_num, by rw [HN.out]; go_num, ⟨a'', m' + 1, c'', rfl, by rw [HN.out]; simp [HM.out], by rw [HN.out]; exact HO1.out⟩, HB.out.trans HB1.out⟩
        case measure => simp [intOf]; omega
      | false =>
        have hi0 := isIn_no hin
        have HN := Lib.hid (spTo_no hin)
        clear hin
        generalize hX : Lib.indexByte b.data.toList (spAt s k) = IX at *
        clear hX
        go_wp2_with (go_at_call 58; refine Calls.mono HI.out ?_; rintro e w1 ⟨rfl, rfl⟩)
        go_roundw
        case rel => exact ⟨k + 1, by omega, by go_num, by rw [HN.out], ⟨a', m', c', rfl, by rw [HN.out]; exact HM.out, by rw [HN.out]; exact HO.out⟩, HB.out⟩
        case measure => simp [intOf]; omega
    · have e : k = s.size := by omega
      subst e
      generalize hF : (spTo s b s.size).2 = F at *
      have HF := Lib.hid hF
      clear hF
      go_wp2_with (refine wpAppStr rfl _ _ rfl w.heap.size a' m' c' (spTo s b s.size).1 (s.extract F s.size) rfl rfl HO.out HM.out (by omega) HB.out.size ?_; intro a'' c'' w1 hown1 hbel1; have HO1 := Lib.hid hown1; have HB1 := Lib.hid hbel1; clear hown1 hbel1)
      go_ret
      refine .mk rfl ?_ (HB.out.trans HB1.out)
      have := HO1.out
      rw [← HF.out] at this
      exact this

theorem OwnS.lit (w : World) {B : Nat} (hB : B ≤ w.heap.size) : OwnS (w.alloc (.cells #[] 9)) B (.slice (some ⟨w.heap.size, 0, none⟩) 0 0) [] :=
  World.ownsRow_lit w #[] 0 hB (Nat.zero_le _) rfl
def NotIn (b : ByteArray) (c : UInt8) (q : Nat) : Prop := ∀ j, j < q → spAt b j ≠ c
theorem NotIn.zero (b : ByteArray) (c : UInt8) : NotIn b c 0 := fun _ h => absurd h (Nat.not_lt_zero _)
theorem NotIn.succ {b : ByteArray} {c : UInt8} {q : Nat} (h : NotIn b c q) (hq : spAt b q ≠ c) : NotIn b c (q + 1) := fun j hj => by
  by_cases e : j = q
  · subst e; exact hq
  · exact h j (by omega)
theorem isIn_at {b : ByteArray} {c : UInt8} {q : Nat} (hq : q < b.size) (h : spAt b q = c) : isIn b c = true := by
  have h' : q < b.data.toList.length := by simpa using hq
  have : c ∈ b.data.toList := by
    rw [← h]
    simp only [spAt, List.getD_eq_getElem?_getD, List.getElem?_eq_getElem h', Option.getD_some]
    exact List.getElem_mem _
  simp [isIn, this]
theorem isIn_end {b : ByteArray} {c : UInt8} {q : Nat} (hq : b.size ≤ q) (h : NotIn b c q) : isIn b c = false := by
  have : c ∉ b.data.toList := fun hm => by
    obtain ⟨i, hi, hc⟩ := List.mem_iff_getElem.1 hm
    have hi' : i < b.size := by simpa using hi
    refine h i (by omega) ?_
    simp only [spAt, List.getD_eq_getElem?_getD, List.getElem?_eq_getElem hi, Option.getD_some, hc]
  simp [isIn, this]

set_option maxRecDepth 20000 in
set_option maxHeartbeats 1600000 in
theorem specSplitAnyC (s : ByteArray) (hs : s.size ≤ 1048576) (b : ByteArray) (hb : b.size ≤ 1048576) (w : World) :
    Calls Tryd.prog 33 #[.string s, .string b] w (RetOwnS w (lstSplitAny s b)) := by
  go_enter Tryd.func33, Tryd.ntmps33
  go_wp2
  go_loopw [5, 6, 7] (fun u f i wr => ∃ k : Nat, k ≤ s.size ∧ i = .int .i64 k ∧ f = .int .i64 ((spTo s b k).2 : Nat) ∧ (∃ a' m' c', u = .slice a' m' c' ∧ (spTo s b k).1.length = m' ∧ OwnS wr w.heap.size (.slice a' m' c') (spTo s b k).1) ∧ Below w.heap.size w wr) (fun _ _ i _ => s.size - (intOf i).toNat)
  case atStart => exact ⟨0, Nat.zero_le _, rfl, rfl, ⟨_, 0, 0, rfl, rfl, OwnS.lit _ (Nat.le_refl _)⟩, (Below.refl _ _).alloc (Nat.le_refl _) _⟩
  case round =>
    obtain ⟨k, hk, rfl, rfl, ⟨a', m', c', rfl, hm, hown⟩, hbel⟩ := hrel
    have hfr := spTo_from s b k
    have hln := spTo_len s b k
    have HO := Lib.hid hown
    have HB := Lib.hid hbel
    have HM := Lib.hid hm
    rw [hm] at hln
    clear hown hbel hm
    generalize hF : (spTo s b k).2 = F at *
    have HF := Lib.hid hF
    clear hF
    by_cases hlt : k < s.size
    · have hat := Lib.hid (spAt_get hlt)
      go_wp2_with fail
      go_loopw [5, 6, 8] (fun u f i wx => ∃ q : Nat, q ≤ b.size ∧ i = .int .i64 q ∧ u = .slice a' m' c' ∧ f = .int .i64 (F : Nat) ∧ NotIn b (spAt s k) q ∧ ∃ z, wx = wr.drewN z) (fun _ _ i _ => b.size - (intOf i).toNat)
      case atStart => exact ⟨0, Nat.zero_le _, rfl, rfl, rfl, NotIn.zero _ _, 0, rfl⟩
      case round =>
        obtain ⟨q, hq, rfl, rfl, rfl, hnot, z, rfl⟩ := hrel
        have HZ := Lib.hid hnot
        clear hnot
        by_cases hqt : q < b.size
        · have hbt := Lib.hid (spAt_get hqt)
          by_cases he : s[k].toNat = b[q].toNat
          · have he' : s[k] = b[q] := UInt8.toNat_inj.1 he
            have HN : Hid (spTo s b (k + 1) = ((spTo s b k).1 ++ [s.extract F k], k + 1)) := by
              have := spTo_yes (isIn_at (c := spAt s k) hqt (by rw [hbt.out, hat.out, he']))
              rw [HF.out] at this
              exact this
            have heI : ((s[k].toNat : Nat) : Int) = ((b[q].toNat : Nat) : Int) := by rw [he]
            have heB : ((((s[k].toNat : Nat) : Int) == ((b[q].toNat : Nat) : Int))) = true := by rw [heI]; simp
            clear he' he heI
            go_wp2_with fail
            go_region
            all_goals
              go_wp2_with (refine wpAppStr rfl _ _ rfl w.heap.size a' m' c' (spTo s b k).1 (s.extract F k) rfl rfl (OwnS.drewN HO.out _) HM.out (by omega) HB.out.size ?_; intro a'' c'' w1 hown1 hbel1; have HO1 := Lib.hid hown1; have HB1 := Lib.hid hbel1; clear hown1 hbel1)
              go_roundw
              case rel =>
                refine ⟨k + 1, by omega, by go_num, by rw [HN.out]; go_num, ⟨a'', m' + 1, c'', rfl, by rw [HN.out]; simp [HM.out], by rw [HN.out]; exact HO1.out⟩, (bel_drewN HB.out _).trans HB1.out⟩
              case measure => simp [intOf]; omega
          · have hne : spAt b q ≠ spAt s k := by rw [hbt.out, hat.out]; intro e; exact he (by rw [e])
            have HN := Lib.hid (HZ.out.succ hne)
            have heI : ¬ ((s[k].toNat : Nat) : Int) = ((b[q].toNat : Nat) : Int) := by omega
            have heB : ((((s[k].toNat : Nat) : Int) == ((b[q].toNat : Nat) : Int))) = false := by simpa using heI
            clear hne he heI
            go_wp2_with fail
            go_region
            all_goals
              go_wp2
              go_roundw
              case rel => exact ⟨q + 1, by omega, by go_num, rfl, rfl, HN.out, _, rfl⟩
              case measure => simp [intOf]; omega
        · have HN : Hid (spTo s b (k + 1) = spTo s b k) := spTo_no (isIn_end (by omega) HZ.out)
          go_wp2
          go_roundw
          case rel => exact ⟨k + 1, by omega, by go_num, by rw [HN.out, HF.out], ⟨a', m', c', rfl, by rw [HN.out]; exact HM.out, by rw [HN.out]; exact OwnS.drewN HO.out _⟩, bel_drewN HB.out _⟩
          case measure => simp [intOf]; omega
    · have e : k = s.size := by omega
      subst e
      go_wp2_with (refine wpAppStr rfl _ _ rfl w.heap.size a' m' c' (spTo s b s.size).1 (s.extract F s.size) rfl rfl HO.out HM.out (by omega) HB.out.size ?_; intro a'' c'' w1 hown1 hbel1; have HO1 := Lib.hid hown1; have HB1 := Lib.hid hbel1; clear hown1 hbel1)
      go_ret
      refine .mk rfl ?_ (HB.out.trans HB1.out)
      have := HO1.out
      rw [← HF.out] at this
      exact this
end Go.Proofs.YtcgpmdfcdngnlaaDoor
