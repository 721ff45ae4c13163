/-
  What FnWords wants: a text is its parts joined; contracts of l01Str and MakeText in the reference.
  Conditions: the code is no longer than two to the twentieth.
-/
import Derived.Test.YtcgpmdfcdngnlaaDoorD4
import Derived.Test.YtcgpmdfcdngnlaaDoorT4
import Derived.Test.YtcgpmdfcdngnlaaDoorT6
import Derived.Test.YtcgpmdfcdngnlaaDoorA2
import Derived.Test.YtcgpmdfcdngnlaaDoorZ4
set_option linter.unusedVariables false
set_option linter.unusedSimpArgs false
namespace Go.Proofs.YtcgpmdfcdngnlaaDoor
open Go.RowKit

/-! ### plain -/
theorem join_sp (c : UInt8) : ∀ l : List UInt8, Lib.join (sp c l) [c] = l
  | [] => by simp [sp, Lib.join_one]
  | x :: r => by
    have ih := join_sp c r
    rw [sp]
    cases hs : sp c r with
    | nil => exact absurd hs (sp_ne c r)
    | cons h t =>
      rw [hs, Lib.join_cons] at ih
      by_cases e : x = c
      · subst e
        rw [if_pos rfl, Lib.join_cons]
        have e2 : Lib.joinTail [x] (h :: t) = [x] ++ h ++ Lib.joinTail [x] t := by simp [Lib.joinTail]
        rw [e2, List.nil_append, List.append_assoc, ih]; rfl
      · rw [if_neg e]
        simp only
        rw [Lib.join_cons, List.cons_append, ih]
def SPB : ByteArray := ⟨#[32]⟩
theorem split_join (s : ByteArray) : valJoin (lstSplitAny s SPB) SPB = s := by
  unfold valJoin texts
  rw [show SPB = (⟨#[32]⟩ : ByteArray) from rfl, lstSplit_sp, show (⟨#[32]⟩ : ByteArray).data.toList = [32] from rfl, join_sp]
theorem part_size (s b : ByteArray) : ∀ k, ∀ x ∈ (spTo s b k).1, x.size ≤ s.size
  | 0, x, h => by simp [spTo] at h
  | k + 1, x, h => by
    rw [spTo] at h
    split at h
    · rcases List.mem_append.1 h with h | h
      · exact part_size s b k x h
      · rw [List.mem_singleton] at h
        subst h
        exact ext_ok _ _ _
    · exact part_size s b k x h
theorem parts_size (s b : ByteArray) : ∀ x ∈ lstSplitAny s b, x.size ≤ s.size := by
  intro x h
  unfold lstSplitAny at h
  rcases List.mem_append.1 h with h | h
  · exact part_size s b _ x h
  · rw [List.mem_singleton] at h
    subst h
    exact ext_ok _ _ _
theorem name_x1 : isName ⟨#[120, 49]⟩ = true := by decide +kernel
theorem lines_two : (lstSplitLines ⟨#[97, 10, 98, 10]⟩).length = 2 := by decide +kernel

theorem cellOut {X w1 : World} {lo hi b o : Nat} {u : Value} (hO : Outside lo hi X w1) (hd : b < lo ∨ hi ≤ b) (h : X.cell? ⟨b, o, none⟩ = some u) : w1.cell? ⟨b, o, none⟩ = some u := by
  have hb := World.block_lt_of_cell? _ _ h
  have e := hO.block b hb hd
  unfold World.cell? at h ⊢
  simp only at h ⊢
  rw [e]
  exact h

set_option maxRecDepth 20000 in
set_option maxHeartbeats 800000 in
theorem specL01Str (p : Nat) (v : Value) (m g : Nat) (xs : List ByteArray) (w : World) (hm : m ≤ 1048576) (h1 : 1 ≤ xs.length) (h2 : xs.length ≤ 256) (hC : Cur w p v m) (hB : Bytes w p v m) (hg : g < p ∨ p + 1 ≤ g)
    (hc : ∀ i, i < xs.length → w.cell? ⟨g, i, none⟩ = some (.string (xs.getD i ByteArray.empty))) :
    Calls Tryd.prog 56 #[.pointer (some ⟨p, 0, none⟩), .slice (some ⟨g, 0, none⟩) xs.length xs.length] w fun e w' => (∃ x ∈ xs, e = .returned (.string x)) ∧ Cur w' p v m ∧ Outside p (p + 1) w w' := by
  have HC := Lib.hid hC
  have HB := Lib.hid hB
  have HK := Lib.hid hc
  clear hC hB hc
  go_enter Tryd.func56, Tryd.ntmps56
  go_wp2_with fail
  refine (specL01Below p v m _ _ hm (by omega) (by omega) HC.out HB.out).mono ?_
  rintro e w1 ⟨⟨r, hr0, hr1, rfl⟩, hC1, hO1⟩
  have HC1 := Lib.hid hC1
  have HO1 := Lib.hid hO1
  obtain ⟨q, rfl⟩ : ∃ q : Nat, r = (q : Int) := ⟨r.toNat, by omega⟩
  have hq : q < xs.length := by omega
  have hcell := cellOut hO1 hg (HK.out q hq)
  rw [show xs.getD q ByteArray.empty = xs[q] by simp [List.getD_eq_getElem?_getD, List.getElem?_eq_getElem hq]] at hcell
  clear hC1 hO1
  go_wp2
  go_ret
  exact ⟨⟨_, List.getElem_mem hq, rfl⟩, HC1.out, HO1.out⟩

def words5 : List ByteArray := [⟨#[97]⟩, ⟨#[98, 99]⟩, ⟨#[32]⟩, ⟨#[44]⟩, ⟨#[120, 49]⟩]
theorem words5_size : ∀ x ∈ words5, x.size ≤ 2 := by decide +kernel

set_option maxRecDepth 20000 in
set_option maxHeartbeats 1600000 in
theorem specMakeText (v : Value) (m : Nat) (w : World) (hm : m ≤ 1048576) (hB : Bytes w w.heap.size v m) :
    Calls Tryd.prog 28 #[v] w fun e w' => (∃ s : ByteArray, s.size ≤ 14 ∧ e = .returned (.string s)) ∧ Below w.heap.size w w' := by
  have hB0 := Lib.hid hB
  obtain ⟨a, cap, rfl, -⟩ := hB
  go_enter Tryd.func28, Tryd.ntmps28
  go_wp2_with fail
  refine (specL01New _ m _ hm hB0.out).mono ?_
  rintro e w1 ⟨⟨p, hp0, hp1, rfl, hC1⟩, hb1⟩
  have HC1 := Lib.hid hC1
  have HB1 := Lib.hid hb1
  clear hC1 hb1
  go_wp2_with fail
  refine (specL01Below p _ m 8 _ hm (by decide) (by decide) HC1.out (hB0.out.cur HB1.out hp0)).mono ?_
  rintro e w2 ⟨⟨r, hr0, hr1, rfl⟩, hC2, hO2⟩
  have HC2 := Lib.hid hC2
  have HB2 := Lib.hid (bel_out HB1.out hO2 hp0 HB1.out.size)
  clear hC2 hO2
  obtain ⟨q, rfl⟩ : ∃ q : Nat, r = (q : Int) := ⟨r.toNat, by omega⟩
  have hq : q ≤ 7 := by omega
  go_wp2
  go_loopw [4, 5] (fun u i wr => ∃ (k : Nat) (s : ByteArray), k ≤ 7 ∧ i = .int .i64 (k : Int) ∧ u = .string s ∧ s.size + 2 * k ≤ 14 ∧ Cur wr p (.slice a m cap) m ∧ Below w.heap.size w wr) (fun _ i _ => (intOf i).toNat)
  case atStart => exact ⟨q, ⟨#[]⟩, hq, rfl, rfl, by rw [show (⟨#[]⟩ : ByteArray).size = 0 from rfl]; omega, HC2.out, HB2.out⟩
  case round =>
    obtain ⟨k, s, hk, rfl, rfl, hsz, hC, hbel⟩ := hrel
    have HC := Lib.hid hC
    have HB := Lib.hid hbel
    clear hC hbel
    by_cases hz : (0 : Int) < (k : Int)
    · have hpl := HC.out.lt
      go_wp2_with fail
      refine withWorld fun X hX => ?_
      have gB : Below w.heap.size w X := (by rw [hX]; exact HB.out.alloc HB.out.size _)
      have gC : Cur X p (.slice a m cap) m := (by rw [hX]; exact HC.out.below (Below.alloc (Below.refl wr.heap.size wr) (Nat.le_refl _) _) hpl)
      have gK : ∀ i, i < words5.length → X.cell? ⟨wr.heap.size, i, none⟩ = some (.string (words5.getD i ByteArray.empty)) := (by
        rw [hX]
        intro i hi
        match i, hi with
        | 0, _ => exact cellNewAt _ _ _ _ rfl rfl
        | 1, _ => exact cellNewAt _ _ _ _ rfl rfl
        | 2, _ => exact cellNewAt _ _ _ _ rfl rfl
        | 3, _ => exact cellNewAt _ _ _ _ rfl rfl
        | 4, _ => exact cellNewAt _ _ _ _ rfl rfl)
      clear hX
      refine (specL01Str p _ m wr.heap.size words5 _ hm (by decide) (by decide) gC (hB0.out.cur gB hp0) (by omega) gK).mono ?_
      rintro e w3 ⟨⟨x, hx, rfl⟩, hC3, hO3⟩
      have HC3 := Lib.hid hC3
      have HB3 := Lib.hid (bel_out gB hO3 hp0 gB.size)
      have hx2 := words5_size x hx
      clear hC3 hO3 gB gC gK hx
      go_wp2
      go_roundw
      case rel =>
        refine ⟨k - 1, s ++ x, by omega, by go_num, rfl, ?_, HC3.out, HB3.out⟩
        rw [ByteArray.size_append]; omega
      case measure => simp [intOf]; omega
    · go_wp2
      go_ret
      exact ⟨⟨s, by omega, rfl⟩, HB.out⟩
end Go.Proofs.YtcgpmdfcdngnlaaDoor
