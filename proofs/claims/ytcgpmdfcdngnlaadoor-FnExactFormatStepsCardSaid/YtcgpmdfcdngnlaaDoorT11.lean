/-
  Contracts of FormatSteps, in the program and in the reference.
  Conditions: the beats lie in memory; for the program the library's variables are there.
-/
import Derived.Test.YtcgpmdfcdngnlaaDoorT10
import Derived.Test.YtcgpmdfcdngnlaaDoorT6
import Derived.Test.YtcgpmdfcdngnlaaDoorF3
import Derived.Test.YtcgpmdfcdngnlaaDoorShR
set_option linter.unusedVariables false
set_option linter.unusedSimpArgs false
namespace Go.Proofs.YtcgpmdfcdngnlaaDoor
open Go.RowKit

def valFormatSteps (n : Int) (x : List Int) : ByteArray := valJoin (wordsOf (lstStepsOf n x)) ⟨#[43]⟩
theorem ret_txtF {a b : ByteArray} (h : a = b) : Ending.returned (.string a) = Ending.returned (.string b) := by rw [h]
/-- What the program's side wants of the library's variables. -/
def FG (w : World) : Prop := Tab10 w ∧ ML w
theorem FG.below {w w' : World} (h : FG w) (hb : Below w.heap.size w w') : FG w' := ⟨h.1.below hb, h.2.below hb⟩

set_option maxRecDepth 20000 in
set_option maxHeartbeats 1600000 in
theorem implNumbersText (v : Value) (tl : List Int) (hl : tl.length ≤ 24) (hy : ∀ y ∈ tl, 1 ≤ y ∧ y ≤ 24) (w : World) (hT : Tab10 w) (hv : Ints w w.heap.size v tl) :
    Calls Tryd.prog 50 #[v] w fun e w' => e = .returned (.string (valJoin (wordsOf tl) ⟨#[44]⟩)) ∧ Below w.heap.size w w' := by
  have hv' := hv
  obtain ⟨a, cap, rfl, -⟩ := hv'
  have HV := Lib.hid hv
  have HT := Lib.hid hT
  have HY := Lib.hid hy
  have HW := Lib.hid (words_size hy)
  clear hv hT hy
  go_enter Tryd.func50, Tryd.ntmps50
  go_wp2
  go_loopw [3, 8] (fun u i wr => ∃ k : Nat, k ≤ tl.length ∧ i = .int .i64 k ∧ (∃ a' c', u = .slice a' k c' ∧ OwnS wr w.heap.size (.slice a' k c') (wordsOf (tl.take k))) ∧ Below w.heap.size w wr) (fun _ i _ => tl.length - (intOf i).toNat)
  case atStart => exact ⟨0, Nat.zero_le _, rfl, ⟨none, 0, rfl, OwnS.nil _ _⟩, Below.refl _ _⟩
  case round =>
    obtain ⟨k, hk, rfl, ⟨a', c', rfl, hown⟩, hbel⟩ := hrel
    have HO := Lib.hid hown
    have HB := Lib.hid hbel
    clear hown hbel
    by_cases hlt : k < tl.length
    · have hpos : 0 < tl.length := by omega
      rcases (HV.out.ofBelow HB.out).open with ⟨e, -⟩ | ⟨b, o, cap', hv', hm, -, hbB, hbl, hc⟩
      · rw [e] at hpos; exact absurd hpos (Nat.not_lt_zero _)
      injection hv' with e1 e2 e3
      subst e1
      subst e3
      have hc1 := hc k hlt
      rw [getD_get hlt] at hc1
      have hyk := HY.out _ (List.getElem_mem hlt)
      have HI : Hid (I64 tl[k]) := ⟨by omega, by omega⟩
      have HS := Lib.hid (words_take hlt)
      have hzs := itB_size _ HI.out
      have hkl : Hid ((wordsOf (tl.take k)).length = k) := by unfold Hid; rw [words_len, List.length_take]; omega
      clear hc
      go_wp2_with fail
      refine (implFormatIntC _ HI.out _ (HT.out.below HB.out)).mono ?_
      rintro e w2 ⟨rfl, b2⟩
      have HO2 := Lib.hid (HO.out.below b2)
      have HB2 := Lib.hid (bel_step HB.out b2 HB.out.size)
      clear b2 hc1
      generalize hD : itB tl[k] = D at *
      have HD := Lib.hid hD
      clear hD
      go_wp2_with (refine wpAppStr rfl _ _ rfl w.heap.size a' k c' (wordsOf (tl.take k)) D rfl rfl HO2.out hkl.out (by omega) HB2.out.size ?_; intro a'' c'' w3 hown1 hbel1; have HO3 := Lib.hid hown1; have HB3 := Lib.hid hbel1; clear hown1 hbel1)
      go_roundw
      case rel => exact ⟨k + 1, by omega, by go_num, ⟨a'', c'', rfl, by rw [HS.out]; exact HO3.out⟩, HB2.out.trans HB3.out⟩
      case measure => simp [intOf]; omega
    · have e : k = tl.length := by omega
      subst e
      have hO := HO.out
      rw [List.take_length] at hO
      have HO1 := Lib.hid hO
      clear hO
      go_wp2_with (go_at_call 29; refine (implJoinC _ (wordsOf tl) (by rw [words_len]; omega) HW.out ⟨#[44]⟩ (by decide) _ HO1.out.strs).mono ?_; rintro e w2 ⟨rfl, b2⟩; have HB2 := Lib.hid (bel_step HB.out b2 HB.out.size))
      go_ret
      exact ⟨rfl, HB2.out⟩

theorem replC (tl : List Int) (hl : tl.length ≤ 24) (hy : ∀ y ∈ tl, 1 ≤ y ∧ y ≤ 24) (w : World) (hM : ML w) :
    Calls Tryd.prog 49 #[.string (valJoin (wordsOf tl) ⟨#[44]⟩), .string ⟨#[44]⟩, .string ⟨#[43]⟩] w fun e w' => e = .returned (.string (valJoin (wordsOf tl) ⟨#[43]⟩)) ∧ Below w.heap.size w w' := by
  obtain ⟨m, hm⟩ := hM
  have hz := valJoin_size (wordsOf tl) ⟨#[44]⟩ (words_size hy) (by decide) _ (Nat.le_refl _)
  rw [List.take_length, words_len] at hz
  have hz2 : (valJoin (wordsOf tl) ⟨#[44]⟩).size ≤ 50331648 := by omega
  have hcl := Lib.countB_le ⟨#[44]⟩ (by decide) _ (valJoin (wordsOf tl) ⟨#[44]⟩) (Nat.le_refl _)
  have e1 : (⟨#[43]⟩ : ByteArray).size = 1 := rfl
  have := Tryd.strings_ReplaceAll (valJoin (wordsOf tl) ⟨#[44]⟩) ⟨#[44]⟩ ⟨#[43]⟩ m w (by omega) hm (by decide) (by rw [e1]; omega)
  have e2 := steps_text (tl := tl) (fun y h => by have := hy y h; omega)
  rw [show (⟨#[44]⟩ : ByteArray).data.toList = [44] from rfl, show (⟨#[43]⟩ : ByteArray).data.toList = [43] from rfl, e2] at this
  exact this

set_option maxRecDepth 20000 in
set_option maxHeartbeats 1600000 in
theorem implFormatStepsC (n : Int) (v : Value) (x : List Int) (c : I64 n) (w : World) (hG : FG w) (h : Ints w w.heap.size v x) :
    Calls Tryd.prog 26 #[.agg #[.int .i64 n, v]] w fun e w' => e = .returned (.string (valFormatSteps n x)) ∧ Below w.heap.size w w' := by
  have hl := lenStepsOf n x
  have HY : Hid (∀ y ∈ lstStepsOf n x, 1 ≤ y ∧ y ≤ 24) := lstStepsOf_bd
  have HG := Lib.hid hG
  have HV : Hid (valJoin (wordsOf (lstStepsOf n x)) ⟨#[43]⟩ = valFormatSteps n x) := rfl
  clear hG
  go_enter Tryd.func26, Tryd.ntmps26
  go_wp2_with fail
  refine withWorld fun X hX => ?_
  have gB : Below w.heap.size w X := (by rw [hX]; (repeat (first | (with_reducible exact (Below.refl _ _)) | (with_reducible refine bel_alloc ?_ _) | (with_reducible refine Below.drew ?_) | (with_reducible refine bel_drewN ?_ _) | (with_reducible refine Below.setCell ?_ (by simp) _))))
  clear hX
  refine (implStepsOfC n v x c _ (Ints.ofBelow h gB)).mono ?_
  rintro e w1 ⟨a1, c1, rfl, o1, b1⟩
  have HB1 := Lib.hid (bel_step gB b1 gB.size)
  have HO1 := Lib.hid o1
  clear gB b1 o1
  generalize lstStepsOf n x = tl at *
  go_wp2_with fail
  refine (implNumbersText _ tl hl HY.out _ (HG.out.below HB1.out).1 HO1.out.ints).mono ?_
  rintro e w2 ⟨rfl, b2⟩
  have HB2 := Lib.hid (bel_step HB1.out b2 HB1.out.size)
  clear b2
  have HR := Lib.hid (replC tl hl HY.out w2 (HG.out.below HB2.out).2)
  generalize valJoin (wordsOf tl) ⟨#[44]⟩ = D at *
  rw [HV.out] at HR
  go_wp2_with (go_at_call 49; refine Calls.mono HR.out ?_; rintro e w3 ⟨rfl, b3⟩; have HB3 := Lib.hid (bel_step HB2.out b3 HB2.out.size))
  go_ret
  exact ⟨rfl, HB3.out⟩
theorem sepSI {w : World} {B B' : Nat} {v u : Value} {ys : List ByteArray} {xs : List Int} (hv : OwnS w B v ys) (hu : Own w B' u xs) {k : Nat} (h : u.ownBlock = some k) : v.ownBlock ≠ some k := by
  intro hk
  rcases hv.2 with ⟨rfl, _⟩ | ⟨g, cap, cur, rfl, _, hg, _⟩
  · cases hk
  · rcases hu.2 with ⟨rfl, _⟩ | ⟨g', cap', cur', rfl, _, hg', _⟩
    · cases h
    · simp [Value.ownBlock] at hk h
      subst hk; subst h
      rw [hg] at hg'
      simp at hg'
/-- append(out, s); own slices of numbers stay. -/
theorem wpAppStrI {wr : World} {ops : Array Oper} {rest : List Oper} {o : Oper} {a : Act} {Q : Exit → Act → World → Prop} (hgd : o.guard = none) (s x : Operand)
    (ho : o.op = .call { callee := .builtin .append, args := #[s, x], argTypes := #[24, 24] })
    (B : Nat) (a0 : Option Addr) (n c0 : Nat) (xs : List ByteArray) (y : ByteArray) (hs : a.eval s = .slice a0 n c0) (hx : a.eval x = .slice (some ⟨wr.heap.size, 0, none⟩) 1 1)
    (hown : OwnS wr B (.slice a0 n c0) xs) (hn : xs.length = n) (hlen : n ≤ 1099511627776) (hbase : B ≤ wr.heap.size)
    (h : ∀ a' c' w', OwnS w' B (.slice a' (n + 1) c') (xs ++ [y]) → Below B wr w' → (∀ (B' : Nat) (u : Value) (us : List Int), Own wr B' u us → Own w' B' u us) → wpList Tryd.prog ops Q rest (a.put o.dst (.slice a' (n + 1) c')) w') : wpList Tryd.prog ops Q (o :: rest) a (wr.alloc (.cells #[.string y] 9)) := by
  subst hn
  obtain ⟨i0, hi, hz0, hz1, hz2⟩ := info_parts infoStr
  refine wpList_append_own _ hgd s x 24 ho B 9 i0 (.string ByteArray.empty) 1 16 Tryd.underlying24 hi hz0 hz1 hz2 rfl (by decide) _ _ _ hs (World.ownsRow.alloc hown _) ⟨wr.heap.size, 0, none⟩ 1 1 [.string y] hx rfl ?_ ?_ ?_ ?_ ?_ ?_
  · intro j u hj
    match j, hj with
    | 0, hj => simp at hj; subst hj; simp [Addr.add]
  · intro u hu; simp at hu; subst hu; rfl
  · unfold maxLen; omega
  · omega
  · simp; omega
  · intro v' w' h1 h2 _
    have h3 : OwnS w' B v' (xs ++ [y]) := by unfold OwnS; rw [List.length_append, List.map_append]; exact h1
    obtain ⟨a', c', hv'⟩ := h3.shape
    rw [List.length_append] at hv'
    rw [hv'] at h3 ⊢
    exact h a' c' w' h3 (((Below.refl _ _).alloc hbase _).grown h2 (by simp; omega) (fun k hk => (hown.lt k hk).1)) (fun B' u us hu => World.ownsRow.kept (World.ownsRow.alloc hu _) h2 (by
      cases hb : u.ownBlock with
      | none => exact .inl rfl
      | some k => exact .inr fun e => sepSI hown hu hb e.symm))

set_option maxRecDepth 20000 in
set_option maxHeartbeats 1600000 in
theorem specFormatStepsC (n : Int) (v : Value) (x : List Int) (c : I64 n) (w : World) (h : Ints w w.heap.size v x) :
    Calls Tryd.prog 24 #[.agg #[.int .i64 n, v]] w fun e w' => e = .returned (.string (valFormatSteps n x)) ∧ Below w.heap.size w w' := by
  have hl := lenStepsOf n x
  have hy : ∀ y ∈ lstStepsOf n x, 1 ≤ y ∧ y ≤ 24 := lstStepsOf_bd
  have HW := Lib.hid (words_size hy)
  have HY := Lib.hid hy
  have HV : Hid (valJoin (wordsOf (lstStepsOf n x)) ⟨#[43]⟩ = valFormatSteps n x) := rfl
  clear hy
  go_enter Tryd.func24, Tryd.ntmps24
  go_wp2_with fail
  refine withWorld fun X hX => ?_
  have gB : Below w.heap.size w X := (by rw [hX]; (repeat (first | (with_reducible exact (Below.refl _ _)) | (with_reducible refine bel_alloc ?_ _) | (with_reducible refine Below.drew ?_) | (with_reducible refine bel_drewN ?_ _) | (with_reducible refine Below.setCell ?_ (by simp) _))))
  have HL : Hid (OwnS X w.heap.size (.slice (some ⟨w.heap.size + 1, 0, none⟩) 0 0) []) := by
    unfold Hid
    rw [hX]
    have := OwnS.lit (w.alloc (.cells #[.int .i64 n, v] 31)) (B := w.heap.size) (by simp)
    rw [World.size_alloc] at this
    exact this
  clear hX
  refine (specStepsOfC n v x c _ (Ints.ofBelow h gB)).mono ?_
  rintro e w1 ⟨a1, c1, rfl, o1, b1⟩
  have HB1 := Lib.hid (bel_step gB b1 gB.size)
  have HL1 := Lib.hid (HL.out.below b1)
  have HO1 := Lib.hid o1
  clear gB b1 o1 HL
  generalize hQ : X.heap.size = Q at *
  clear hQ
  generalize lstStepsOf n x = tl at *
  go_wp2
  go_loopw [3, 10] (fun u i wr => ∃ k : Nat, k ≤ tl.length ∧ i = .int .i64 k ∧ (∃ a' c', u = .slice a' k c' ∧ OwnS wr w.heap.size (.slice a' k c') (wordsOf (tl.take k))) ∧ Own wr Q (.slice a1 tl.length c1) tl ∧ Below w.heap.size w wr) (fun _ i _ => tl.length - (intOf i).toNat)
  case atStart => exact ⟨0, Nat.zero_le _, rfl, ⟨_, 0, rfl, HL1.out⟩, HO1.out, HB1.out⟩
  case round =>
    obtain ⟨k, hk, rfl, ⟨a', c', rfl, hown⟩, htl, hbel⟩ := hrel
    have HO := Lib.hid hown
    have HT := Lib.hid htl
    have HB := Lib.hid hbel
    clear hown htl hbel
    by_cases hlt : k < tl.length
    · have hpos : 0 < tl.length := by omega
      rcases HT.out.ints.open with ⟨e, -⟩ | ⟨b, o, cap', hv', hm, -, hbB, hbl, hc⟩
      · rw [e] at hpos; exact absurd hpos (Nat.not_lt_zero _)
      injection hv' with e1 e2 e3
      subst e1
      subst e3
      have hc1 := hc k hlt
      rw [getD_get hlt] at hc1
      have hyk := HY.out _ (List.getElem_mem hlt)
      have HI : Hid (I64 tl[k]) := ⟨by omega, by omega⟩
      have HS := Lib.hid (words_take hlt)
      have hzs := itB_size _ HI.out
      have hkl : Hid ((wordsOf (tl.take k)).length = k) := by unfold Hid; rw [words_len, List.length_take]; omega
      clear hc
      go_wp2_with fail
      refine (specFormatIntC _ HI.out _).mono ?_
      rintro e w2 ⟨rfl, b2⟩
      have HO2 := Lib.hid (HO.out.below b2)
      have HT2 := Lib.hid (HT.out.below b2)
      have HB2 := Lib.hid (bel_step HB.out b2 HB.out.size)
      clear b2 hc1
      generalize hD : itB tl[k] = D at *
      have HD := Lib.hid hD
      clear hD
      go_wp2_with (refine wpAppStrI rfl _ _ rfl w.heap.size a' k c' (wordsOf (tl.take k)) D rfl rfl HO2.out hkl.out (by omega) HB2.out.size ?_; intro a'' c'' w3 hown1 hbel1 hst; have HO3 := Lib.hid hown1; have HB3 := Lib.hid hbel1; have HT3 := Lib.hid (hst _ _ _ HT2.out); clear hown1 hbel1 hst)
      go_roundw
      case rel => exact ⟨k + 1, by omega, by go_num, ⟨a'', c'', rfl, by rw [HS.out]; exact HO3.out⟩, HT3.out, HB2.out.trans HB3.out⟩
      case measure => simp [intOf]; omega
    · have e : k = tl.length := by omega
      subst e
      have hO := HO.out
      rw [List.take_length] at hO
      have HO1 := Lib.hid hO
      clear hO
      go_wp2_with (go_at_call 47; refine (specJoinC _ (wordsOf tl) (by rw [words_len]; omega) HW.out ⟨#[43]⟩ (by decide) _ HO1.out.strs).mono ?_; rintro e w2 ⟨rfl, b2⟩; have HB2 := Lib.hid (bel_step HB.out b2 HB.out.size); rw [HV.out])
      go_ret
      exact ⟨rfl, HB2.out⟩
end Go.Proofs.YtcgpmdfcdngnlaaDoor
