/-
  The walk of FnWords: it returns true and writes nothing that was there.
  Conditions: the arguments lie in memory as the statement's reading says.
-/
import Derived.Test.YtcgpmdfcdngnlaaDoorT12
import Derived.Test.YtcgpmdfcdngnlaaDoorB0
set_option linter.unusedVariables false
set_option linter.unusedSimpArgs false
namespace Go.Proofs.YtcgpmdfcdngnlaaDoor.fnWords
open Go.RowKit
set_option linter.unusedVariables false

def G (w : World) : Prop := PG w ∧ ML w
theorem G.below {w w' : World} (h : G w) (hb : Below w.heap.size w w') : G w' := ⟨h.1.below hb, h.2.below hb⟩
theorem joinY (v : Value) (s : ByteArray) (hs : s.size ≤ 14) (w : World) (hv : Strs w w.heap.size v (lstSplitAny s SPB)) :
    Calls Tryd.prog 29 #[v, .string SPB] w fun e w' => e = .returned (.string s) ∧ Below w.heap.size w w' := by
  have h1 := lenSplitAny s SPB
  have := implJoinC v (lstSplitAny s SPB) (by omega) (fun x hx => by have := parts_size s SPB x hx; omega) SPB (by decide) w hv
  rw [split_join] at this
  exact this
theorem linesY (w : World) (hM : ML w) : Calls Tryd.prog 12 #[.string ⟨#[97, 10, 98, 10]⟩] w fun e w' => (∃ a c, e = .returned (.slice a 2 c)) ∧ Below w.heap.size w w' := by
  refine (implSplitLinesC ⟨#[97, 10, 98, 10]⟩ (by decide) w hM).mono fun e w' ⟨a, c, he, _, hb⟩ => ?_
  rw [lines_two] at he
  exact ⟨⟨a, c, he⟩, hb⟩
theorem nameY (w : World) : Calls Tryd.prog 31 #[.string ⟨#[120, 49]⟩] w fun e w' => e = .returned (.bool true) ∧ w = w' := by
  have := implIsName ⟨#[120, 49]⟩ w (by decide)
  rw [name_x1] at this
  exact this
theorem numY (n : Int) (c : I64 n) (s : ByteArray) (h : itB n = s) (w : World) (hG : PG w) : Calls Tryd.prog 22 #[.string s] w fun e w' => e = .returned (.tuple #[.int .i64 n, .bool true]) ∧ Below w.heap.size w w' := by
  have hz := itB_size n c
  rw [h] at hz
  have := implParseIntC s (by omega) w hG
  obtain ⟨h1, h2⟩ := okP_yes c h
  rw [h1, h2] at this
  exact this
set_option maxRecDepth 20000 in
set_option maxHeartbeats 1600000 in
theorem walk (w : World) (hG : G w) (v0 : Value) (z0 : Nat) (h0 : Bytes w w.heap.size v0 z0) :
    Calls Tryd.prog 8 #[v0] w fun e w' => e = .returned (.bool true) ∧ Below w.heap.size w w' := by
  have HG := Lib.hid hG
  clear hG
  have h0' := h0
  obtain ⟨ad0, cap0, rfl, -⟩ := h0'
  by_cases s0 : 1048576 < z0
  · go_enter Tryd.func8, Tryd.ntmps8
    go_wp2
    go_ret
    exact ⟨rfl, Below.refl _ _⟩
  have hm0 : z0 ≤ 1048576 := by omega
  have HH0 := Lib.hid h0
  clear h0
  go_enter Tryd.func8, Tryd.ntmps8
  go_wp2_with fail
  refine (specMakeNum _ z0 1 _ hm0 (by decide) HH0.out).mono ?_
  rintro e w1 ⟨⟨r, hr0, hr1, rfl⟩, b1⟩
  have HB1 := Lib.hid b1
  clear b1
  obtain ⟨n, hn⟩ : ∃ n : Int, r - 30000 = n := ⟨_, rfl⟩
  have hn0 : -30000 ≤ n := by omega
  have hn1 : n ≤ 35535 := by omega
  have HC : Hid (I64 n) := ⟨by omega, by omega⟩
  go_wp2_with fail
  try rw [hn]
  clear hn hr0 hr1
  refine (implFormatIntC n HC.out _ (HG.out.below HB1.out).1.1).mono ?_
  rintro e w2 ⟨rfl, b2⟩
  have HB2 := Lib.hid (bel_step HB1.out b2 HB1.out.size)
  clear b2
  obtain ⟨T, hT⟩ : ∃ T, itB n = T := ⟨_, rfl⟩
  rw [hT]
  have HT := Lib.hid hT
  clear hT
  go_wp2_with fail
  refine (numY n HC.out T HT.out _ (HG.out.below HB2.out).1).mono ?_
  rintro e w3 ⟨rfl, b3⟩
  have HB3 := Lib.hid (bel_step HB2.out b3 HB2.out.size)
  clear b3
  go_wp2_with fail
  refine (specMakeText _ z0 _ hm0 ((HH0.out.below HB3.out).mono HB3.out.size)).mono ?_
  rintro e w4 ⟨⟨s, hs, rfl⟩, b4⟩
  have HB4 := Lib.hid (bel_step HB3.out b4 HB3.out.size)
  clear b4
  go_wp2_with fail
  refine (implSplitAnyC s (by omega) SPB (by decide) _).mono ?_
  rintro e w5 ⟨a5, c5, rfl, o5, b5⟩
  have HO5 := Lib.hid o5
  have HB5 := Lib.hid (bel_step HB4.out b5 HB4.out.size)
  clear o5 b5
  go_wp2_with fail
  refine (joinY _ s hs _ HO5.out.strs).mono ?_
  rintro e w6 ⟨rfl, b6⟩
  have HB6 := Lib.hid (bel_step HB5.out b6 HB5.out.size)
  clear b6 HO5
  go_wp2_with fail
  refine (nameY _).mono ?_
  rintro e w7 ⟨rfl, rfl⟩
  go_wp2_with fail
  refine (linesY _ (HG.out.below HB6.out).2).mono ?_
  rintro e w8 ⟨⟨a8, c8, rfl⟩, b8⟩
  have HB8 := Lib.hid (bel_step HB6.out b8 HB6.out.size)
  clear b8
  go_wp2
  go_ret
  exact ⟨rfl, HB8.out⟩
end Go.Proofs.YtcgpmdfcdngnlaaDoor.fnWords
