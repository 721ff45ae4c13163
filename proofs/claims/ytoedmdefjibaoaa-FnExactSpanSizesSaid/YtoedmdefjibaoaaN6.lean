/-
  Contract of the reference's list of the different numbers of a list, in ascending order.
  Conditions: the list lies in memory, shorter than two to the twentieth.
-/
import Derived.Test.YtoedmdefjibaoaaB3
import Derived.Test.YtoedmdefjibaoaaM14
set_option linter.unusedVariables false
set_option linter.unusedSimpArgs false
namespace Go.Proofs.Ytoedmdefjibaoaa
open Go.RowKit

/-- The first p are less than x. -/
def LessTo (l : List Int) (x : Int) (p : Nat) : Prop := ∀ q, q < p → l.getD q 0 < x

set_option maxHeartbeats 2000000 in
theorem specL03Sizes (v : Value) (xs : List Int) (w : World) (hl : xs.length ≤ 1048576) (h : Ints w w.heap.size v xs) :
    Calls Try.prog 61 #[v] w (RetOwn w (srt xs)) := by
  rcases h.open with ⟨rfl, a, cap, rfl⟩ | ⟨b, o, cap, rfl, hm, hpos, hB, hlt0, hc⟩
  · rw [srt_nil]
    go_enter Try.func61, Try.ntmps61
    go_wp2
    refine wp_loop_rounds 1 ?_; rw [rounds_succ]
    go_wp2
    go_ret
    exact .mk rfl (Own.lit w (Nat.le_refl _)) (by (repeat (first | (with_reducible exact (Below.refl _ _)) | (with_reducible refine bel_alloc ?_ _) | (with_reducible refine Below.drew ?_) | (with_reducible refine bel_drewN ?_ _) | (with_reducible refine Below.setCell ?_ (by simp) _))))
  · have h0 := Own.lit w (Nat.le_refl w.heap.size)
    go_enter Try.func61, Try.ntmps61
    go_wp2
    go_loopw [3, 11] (fun u i wr => ∃ k : Nat, k ≤ xs.length ∧ i = .int .i64 k ∧ (∃ g c, u = .slice (some ⟨g, 0, none⟩) (srt (xs.take k)).length c ∧ c ≤ 9223372036854775807 ∧ Own wr w.heap.size (.slice (some ⟨g, 0, none⟩) (srt (xs.take k)).length c) (srt (xs.take k))) ∧ Below w.heap.size w wr) (fun _ i _ => xs.length - (intOf i).toNat)
    case atStart => exact ⟨0, Nat.zero_le _, rfl, ⟨w.heap.size, 0, by simp [srt_nil], by omega, by simpa [srt_nil] using h0⟩, by (repeat (first | (with_reducible exact (Below.refl _ _)) | (with_reducible refine bel_alloc ?_ _) | (with_reducible refine Below.drew ?_) | (with_reducible refine bel_drewN ?_ _) | (with_reducible refine Below.setCell ?_ (by simp) _)))⟩
    case round =>
      obtain ⟨k, hk, rfl, ⟨g, c, rfl, hcc, hown⟩, hbel⟩ := hrel
      clear h0
      have hll := srt_len_le xs k
      have HB := Lib.hid hbel
      have hsz := hbel.size
      by_cases hlt : k < xs.length
      · have hc1 : wr.cell? ⟨b, o + k, none⟩ = some (.int .i64 xs[k]) := by
          have := ((bcell hbel).1 _ _ hlt0).trans (hc k hlt)
          rwa [getD_get hlt] at this
        have hin := srt_take_in hlt
        have hnew := @srt_take_new xs k hlt
        generalize hL : srt (xs.take k) = L at hown hll hin hnew ⊢
        have Hin := Lib.hid hin
        have Hnew := Lib.hid (fun (p : Nat) (h1 : LessTo L xs[k] p) h2 => hnew (p := p) h1 h2)
        have Hcell := Lib.hid (fun (p : Nat) (hp : p < L.length) => hown.cell hp)
        have HO := Lib.hid hown
        have hlc : L.length ≤ c := by
          rcases hown.2 with ⟨h0, _⟩ | ⟨_, _, _, h0, _, _, h1, _⟩
          · cases h0
          · cases h0; exact h1
        clear hown hbel hin hnew hL
        have hln : L.length ≤ 1048576 := by omega
        go_wp2
        go_loop [6] (fun i => ∃ p : Nat, p ≤ L.length ∧ i = .int .i64 p ∧ LessTo L xs[k] p) (fun i => L.length - (intOf i).toNat)
        case atStart => exact ⟨0, Nat.zero_le _, rfl, fun q hq => absurd hq (Nat.not_lt_zero _)⟩
        case round =>
          obtain ⟨p, hp, rfl, hless⟩ := hrel
          have HL := Lib.hid hless
          clear hless
          by_cases hpl : p < L.length
          · have hcp := Hcell.out p hpl
            rw [getD_get hpl] at hcp
            have hne : (((p : Nat) : Int) == ((L.length : Nat) : Int)) = false := by simp; omega
            by_cases hx : L[p] < xs[k]
            · have Hn : Hid (LessTo L xs[k] (p + 1)) := fun q hq => by
                by_cases e : q = p
                · subst e; rw [getD_get hpl]; exact hx
                · exact HL.out q (by omega)
              go_wp2
              go_round
              case rel => exact ⟨p + 1, by omega, by go_num, Hn.out⟩
              case measure => simp [intOf]; omega
            · by_cases he : L[p] = xs[k]
              · have hb1 : (L[p] != xs[k]) = false := by simpa using he
                have Hsame := Lib.hid (Hin.out (he ▸ List.getElem_mem hpl))
                have hxb : decide (L[p] < xs[k]) = false := by simpa using hx
                clear he
                go_wp2
                go_roundw
                case rel => exact ⟨k + 1, by omega, by go_num, ⟨g, c, by rw [Hsame.out], hcc, by rw [Hsame.out]; exact HO.out⟩, HB.out⟩
                case measure => simp [intOf]; omega
              · have hb1 : (L[p] != xs[k]) = true := by simpa using he
                have hxb : decide (L[p] < xs[k]) = false := by simpa using hx
                have Hset := Lib.hid (Hnew.out p HL.out (fun _ => by omega))
                have HP := Lib.hid (show p ≤ L.length by omega)
                have HS := Lib.hid hpl
                clear he
                have Hl1 := Lib.hid (show ([] ++ L.take p).length = p by (first | omega | (simp; done) | (simp; omega)))
                have Hl3 := Lib.hid (show (([] ++ L.take p) ++ [xs[k]] ++ L.drop p).length = L.length + 1 by (first | omega | (simp; done) | (simp; omega)))
                go_wp2_with (first
                  | (at_builtin; refine wpAppInts rfl (.tmp 41) (.tmp 44) rfl wr.heap.size (.slice (some ⟨wr.heap.size, 0, none⟩) 0 0) (.slice (some ⟨g, 0, none⟩) p c) [] (L.take p) rfl rfl (Own.lit wr (Nat.le_refl _)) (Own.pre (HO.out.alloc _) HP.out) (by (first | omega | (simp; done) | (simp; omega))) (by (first | omega | (simp; done) | (simp; omega))) ?_; intro a1 c1 w1 ho1 hb1; rw [Hl1.out] at ho1 ⊢; have HO1 := Lib.hid ho1; have HB1 := Lib.hid (((Below.refl _ wr).alloc (Nat.le_refl _) _).trans hb1); have HOw1 := Lib.hid (HO.out.below HB1.out); have hz1 := HB1.out.size; clear ho1 hb1)
                  | (at_builtin; refine wpAppInt rfl (.tmp 46) (.tmp 48) rfl wr.heap.size a1 p c1 ([] ++ L.take p) _ rfl rfl HO1.out Hl1.out (by (first | omega | (simp; done) | (simp; omega))) (by (first | omega | (simp; done) | (simp; omega))) ?_; intro a2 c2 w2 ho2 hb2; have HO2 := Lib.hid ho2; have HB2 := Lib.hid (HB1.out.trans hb2); have HOw2 := Lib.hid (HO.out.below HB2.out); have hz2 := HB2.out.size; clear ho2 hb2)
                  | (at_builtin; refine wpAppInts rfl (.tmp 50) (.tmp 53) rfl wr.heap.size _ _ (([] ++ L.take p) ++ [xs[k]]) (L.drop p) rfl rfl HO2.out (Own.suf HOw2.out HS.out) (by (first | omega | (simp; done) | (simp; omega))) (by (first | omega | (simp; done) | (simp; omega))) ?_; intro a3 c3 w3 ho3 hb3; rw [Hl3.out] at ho3 ⊢; have HO3 := Lib.hid ho3; have HB3 := Lib.hid (HB2.out.trans hb3); clear ho3 hb3))
                have Hl : Hid ((([] ++ L.take p) ++ [xs[k]] ++ L.drop p) = srt (xs.take (k + 1))) := by unfold Hid; rw [Hset.out, List.nil_append]
                have hlen : (srt (xs.take (k + 1))).length = L.length + 1 := by rw [← Hl.out]; exact Hl3.out
                have HLEN := Lib.hid hlen
                clear hlen
                have hO := HO3.out
                have hh := hO.head (by simp)
                rw [Hl3.out] at hh
                obtain ⟨g3, c4, hv3, -, -, -, -, hc3⟩ := hh
                cases hv3
                clear hO
                go_roundw
                case rel => exact ⟨k + 1, by omega, by go_num, ⟨g3, c3, by rw [HLEN.out], hc3, by rw [HLEN.out, ← Hl.out]; exact HO3.out.mono (by omega)⟩, HB.out.trans (HB3.out.mono (by omega))⟩
                case measure => simp [intOf]; omega
          · have e : p = L.length := by omega
            subst e
            have hne : (((L.length : Nat) : Int) == ((L.length : Nat) : Int)) = true := by simp
            have Hset := Lib.hid (Hnew.out L.length HL.out (fun h => absurd h (Nat.lt_irrefl _)))
            have HP := Lib.hid (Nat.le_refl L.length)
            by_cases hcap : c = L.length
            · subst hcap
              have Hl1 := Lib.hid (show ([] ++ L.take L.length).length = L.length by (first | omega | (simp; done) | (simp; omega)))
              have Hl3 := Lib.hid (show (([] ++ L.take L.length) ++ [xs[k]] ++ L.drop L.length).length = L.length + 1 by (first | omega | (simp; done) | (simp; omega)))
              go_wp2_with (first
                | (at_builtin; refine wpAppInts rfl (.tmp 41) (.tmp 44) rfl wr.heap.size (.slice (some ⟨wr.heap.size, 0, none⟩) 0 0) (.slice (some ⟨g, 0, none⟩) L.length L.length) [] (L.take L.length) rfl rfl (Own.lit wr (Nat.le_refl _)) (Own.pre (HO.out.alloc _) HP.out) (by (first | omega | (simp; done) | (simp; omega))) (by (first | omega | (simp; done) | (simp; omega))) ?_; intro a1 c1 w1 ho1 hb1; rw [Hl1.out] at ho1 ⊢; have HO1 := Lib.hid ho1; have HB1 := Lib.hid (((Below.refl _ wr).alloc (Nat.le_refl _) _).trans hb1); have HOw1 := Lib.hid (HO.out.below HB1.out); have hz1 := HB1.out.size; clear ho1 hb1)
                | (at_builtin; refine wpAppInt rfl (.tmp 46) (.tmp 48) rfl wr.heap.size a1 L.length c1 ([] ++ L.take L.length) _ rfl rfl HO1.out Hl1.out (by (first | omega | (simp; done) | (simp; omega))) (by (first | omega | (simp; done) | (simp; omega))) ?_; intro a2 c2 w2 ho2 hb2; have HO2 := Lib.hid ho2; have HB2 := Lib.hid (HB1.out.trans hb2); have HOw2 := Lib.hid (HO.out.below HB2.out); have hz2 := HB2.out.size; clear ho2 hb2)
                | (at_builtin; refine wpAppInts rfl (.tmp 50) (.tmp 53) rfl wr.heap.size _ _ (([] ++ L.take L.length) ++ [xs[k]]) (L.drop L.length) rfl rfl HO2.out (by rw [List.drop_length]; exact Ints.nilAny _ _ _ (by unfold maxLen; omega)) (by (first | omega | (simp; done) | (simp; omega))) (by (first | omega | (simp; done) | (simp; omega))) ?_; intro a3 c3 w3 ho3 hb3; rw [Hl3.out] at ho3 ⊢; have HO3 := Lib.hid ho3; have HB3 := Lib.hid (HB2.out.trans hb3); clear ho3 hb3))
              have Hl : Hid ((([] ++ L.take L.length) ++ [xs[k]] ++ L.drop L.length) = srt (xs.take (k + 1))) := by unfold Hid; rw [Hset.out, List.nil_append]
              have hlen : (srt (xs.take (k + 1))).length = L.length + 1 := by rw [← Hl.out]; exact Hl3.out
              have HLEN := Lib.hid hlen
              clear hlen
              have hO := HO3.out
              have hh := hO.head (by simp)
              rw [Hl3.out] at hh
              obtain ⟨g3, c4, hv3, -, -, -, -, hc3⟩ := hh
              cases hv3
              clear hO
              go_roundw
              case rel => exact ⟨k + 1, by omega, by go_num, ⟨g3, c3, by rw [HLEN.out], hc3, by rw [HLEN.out, ← Hl.out]; exact HO3.out.mono (by omega)⟩, HB.out.trans (HB3.out.mono (by omega))⟩
              case measure => simp [intOf]; omega
            · have hcap' : ¬ L.length = c := fun h => hcap h.symm
              have Hl1 := Lib.hid (show ([] ++ L.take L.length).length = L.length by (first | omega | (simp; done) | (simp; omega)))
              have Hl3 := Lib.hid (show (([] ++ L.take L.length) ++ [xs[k]] ++ L.drop L.length).length = L.length + 1 by (first | omega | (simp; done) | (simp; omega)))
              go_wp2_with (first
                | (at_builtin; refine wpAppInts rfl (.tmp 41) (.tmp 44) rfl wr.heap.size (.slice (some ⟨wr.heap.size, 0, none⟩) 0 0) (.slice (some ⟨g, 0, none⟩) L.length c) [] (L.take L.length) rfl rfl (Own.lit wr (Nat.le_refl _)) (Own.pre (HO.out.alloc _) HP.out) (by (first | omega | (simp; done) | (simp; omega))) (by (first | omega | (simp; done) | (simp; omega))) ?_; intro a1 c1 w1 ho1 hb1; rw [Hl1.out] at ho1 ⊢; have HO1 := Lib.hid ho1; have HB1 := Lib.hid (((Below.refl _ wr).alloc (Nat.le_refl _) _).trans hb1); have HOw1 := Lib.hid (HO.out.below HB1.out); have hz1 := HB1.out.size; clear ho1 hb1)
                | (at_builtin; refine wpAppInt rfl (.tmp 46) (.tmp 48) rfl wr.heap.size a1 L.length c1 ([] ++ L.take L.length) _ rfl rfl HO1.out Hl1.out (by (first | omega | (simp; done) | (simp; omega))) (by (first | omega | (simp; done) | (simp; omega))) ?_; intro a2 c2 w2 ho2 hb2; have HO2 := Lib.hid ho2; have HB2 := Lib.hid (HB1.out.trans hb2); have HOw2 := Lib.hid (HO.out.below HB2.out); have hz2 := HB2.out.size; clear ho2 hb2)
                | (at_builtin; refine wpAppInts rfl (.tmp 50) (.tmp 53) rfl wr.heap.size _ _ (([] ++ L.take L.length) ++ [xs[k]]) (L.drop L.length) rfl rfl HO2.out (by rw [List.drop_length]; exact Ints.nilAny _ _ _ (by unfold maxLen; omega)) (by (first | omega | (simp; done) | (simp; omega))) (by (first | omega | (simp; done) | (simp; omega))) ?_; intro a3 c3 w3 ho3 hb3; rw [Hl3.out] at ho3 ⊢; have HO3 := Lib.hid ho3; have HB3 := Lib.hid (HB2.out.trans hb3); clear ho3 hb3))
              have Hl : Hid ((([] ++ L.take L.length) ++ [xs[k]] ++ L.drop L.length) = srt (xs.take (k + 1))) := by unfold Hid; rw [Hset.out, List.nil_append]
              have hlen : (srt (xs.take (k + 1))).length = L.length + 1 := by rw [← Hl.out]; exact Hl3.out
              have HLEN := Lib.hid hlen
              clear hlen
              have hO := HO3.out
              have hh := hO.head (by simp)
              rw [Hl3.out] at hh
              obtain ⟨g3, c4, hv3, -, -, -, -, hc3⟩ := hh
              cases hv3
              clear hO
              go_roundw
              case rel => exact ⟨k + 1, by omega, by go_num, ⟨g3, c3, by rw [HLEN.out], hc3, by rw [HLEN.out, ← Hl.out]; exact HO3.out.mono (by omega)⟩, HB.out.trans (HB3.out.mono (by omega))⟩
              case measure => simp [intOf]; omega
      · have e : k = xs.length := by omega
        subst e
        rw [List.take_length] at hown
        have HO := Lib.hid hown
        clear hown hbel
        go_wp2
        go_ret
        exact .mk rfl (by rw [List.take_length]; exact HO.out) HB.out
end Go.Proofs.Ytoedmdefjibaoaa
