/-
  Contracts of the number of a rhythm's text and of the rotation with the last text, in the program and in the reference.
  Conditions: valid rhythms whose beats lie in memory.
-/
import Derived.Test.YtopfenhphnmfkaaN2
import Derived.Test.YtopfenhphnmfkaaN4
import Derived.Test.YtopfenhphnmfkaaM15
import Derived.Laws.BitsLemmas
set_option linter.unusedVariables false
set_option linter.unusedSimpArgs false
namespace Go.Proofs.Ytopfenhphnmfkaa
open Go.RowKit

theorem code_or {c e : Nat} (hc : c < 16777216) (he : e < 24) : bits .or .i64 (c : Int) (wrap64 (2 ^ e)) = ((c ||| 2 ^ e : Nat) : Int) := by
  have hp : 2 ^ e < 2 ^ 24 := Nat.pow_lt_pow_right (by decide) he
  have h0 : (((2 ^ e : Nat)) : Int) = (2 : Int) ^ e := by simp
  have hp' : 2 ^ e < 16777216 := hp
  have h1 : (((2 ^ e : Nat)) : Int) < 16777216 := Int.ofNat_lt.2 hp'
  have h2 : (0 : Int) ≤ ((2 ^ e : Nat) : Int) := Int.natCast_nonneg _
  rw [h0] at h1 h2
  rw [IntWalk.wrap64_in _ ⟨by omega, by omega⟩, ← h0]
  exact (bits_nat .i64 24 (by decide) (fun n h0 h1 => by rw [IntKind.wrap_i64]; omega) c (2 ^ e) hc hp).2
theorem Rok.bd {n : Int} {x : List Int} (h : Rok n x) : ∀ p ∈ x, 0 ≤ p ∧ p < n := fun p hp => ⟨h.ge p hp, h.lt p hp⟩
theorem codeN_ltR {n : Int} {x : List Int} (h : Rok n x) : codeN n x < 16777216 := codeN_lt h.bd h.hi
/-- A slice of the call's own, a store elsewhere. -/
theorem Own.setOther {w : World} {B : Nat} {v : Value} {xs : List Int} (h : Own w B v xs) {a : Addr} (ha : ∀ k, v.ownBlock = some k → k ≠ a.block) (u : Value) : Own (w.setCell a u) B v xs := by
  refine ⟨h.1, ?_⟩
  rcases h.2 with hn | ⟨g, cap, cur, rfl, hB, hg, rest⟩
  · exact .inl hn
  · exact .inr ⟨g, cap, cur, rfl, hB, by rw [Below.heap_setCell _ _ _ _ (ha g rfl)]; exact hg, rest⟩

theorem implCode (n : Int) (v : Value) (x : List Int) (w : World) (hR : Rok n x) (h : Ints w w.heap.size v x) :
    Calls Try.prog 111 #[.agg #[.int .i64 n, v]] w fun e w' => e = .returned (.int .i64 (codeN n x : Nat)) ∧ Below w.heap.size w w' := by
  have h1 := hR.lo
  have h2 := hR.hi
  have hlen := hR.len24
  have Hge := Lib.hid hR.ge
  have Hlt := Lib.hid hR.lt
  rcases h.open with ⟨rfl, a, cap, rfl⟩ | ⟨b, o, cap, rfl, hm, hpos, hB, hlt0, hc⟩
  · go_enter Try.func111, Try.ntmps111
    go_wp2
    refine wp_loop_rounds 1 ?_; rw [rounds_succ]
    go_wp2
    go_ret
    exact ⟨rfl, by (repeat (first | (with_reducible exact (Below.refl _ _)) | (with_reducible refine bel_alloc ?_ _) | (with_reducible refine Below.drew ?_) | (with_reducible refine bel_drewN ?_ _) | (with_reducible refine Below.setCell ?_ (by simp) _)))⟩
  · go_enter Try.func111, Try.ntmps111
    go_wp2
    go_loopw [3, 9] (fun s i wr => ∃ k : Nat, k ≤ x.length ∧ i = .int .i64 k ∧ s = .int .i64 (codeN n (x.take k) : Nat) ∧ wr = w.alloc (.cells #[.int .i64 n, .slice (some ⟨b, o, none⟩) x.length cap] 25)) (fun _ i _ => x.length - (intOf i).toNat)
    case atStart => exact ⟨0, Nat.zero_le _, rfl, rfl, rfl⟩
    case round =>
      obtain ⟨k, hk, rfl, rfl, rfl⟩ := hrel
      by_cases hlt : k < x.length
      · have hc1 := hc k hlt
        rw [getD_get hlt] at hc1
        have y1 := Hge.out _ (List.getElem_mem hlt)
        have y2 := Hlt.out _ (List.getElem_mem hlt)
        have hcl : codeN n (x.take k) < 16777216 := codeN_lt (fun p hp => ⟨Hge.out p (List.mem_of_mem_take hp), Hlt.out p (List.mem_of_mem_take hp)⟩) h2
        have Hn : Hid (bits .or .i64 ((codeN n (x.take k) : Nat) : Int) (wrap64 (2 ^ (n - 1 - x[k]).toNat)) = ((codeN n (x.take (k + 1)) : Nat) : Int)) := by
          unfold Hid; rw [code_or hcl (by omega), codeN_take hlt]
        clear hcl
        go_wp2
        go_roundw
        case rel => exact ⟨k + 1, by omega, by go_num, by rw [← Hn.out], by trivial⟩
        case measure => simp [intOf]; omega
      · have e : k = x.length := by omega
        subst e
        go_wp2
        go_ret
        exact ⟨by rw [List.take_length]; rfl, by (repeat (first | (with_reducible exact (Below.refl _ _)) | (with_reducible refine bel_alloc ?_ _) | (with_reducible refine Below.drew ?_) | (with_reducible refine bel_drewN ?_ _) | (with_reducible refine Below.setCell ?_ (by simp) _)))⟩

/-- Nothing below has turned; three boxes are there. -/
def H3 (w : World) (v0 v1 u0 u1 r0 r1 : Value) (W : World) : Prop := Below w.heap.size w W ∧ Bx W w.heap.size v0 v1 25 ∧ Bx W (w.heap.size + 1) u0 u1 25 ∧ Bx W (w.heap.size + 2) r0 r1 25
theorem H3.keeps (w : World) (v0 v1 u0 u1 r0 r1 : Value) : Keeps (H3 w v0 v1 u0 u1 r0 r1) := fun _ _ h b => ⟨bel_step h.1 b h.1.size, h.2.1.below b h.2.1.lt, h.2.2.1.below b h.2.2.1.lt, h.2.2.2.below b h.2.2.2.lt⟩

set_option maxHeartbeats 1000000 in
theorem implLater (n : Int) (u : Value) (x : List Int) (v : Value) (y : List Int) (w : World) (hx : Rok n x) (hy : Rok n y) (hu : Ints w w.heap.size u x) (hv : Ints w w.heap.size v y) :
    Calls Try.prog 106 #[.agg #[.int .i64 n, u], .agg #[.int .i64 n, v]] w fun e w' => e = .returned (.agg #[.int .i64 n, if codeN n x < codeN n y then v else u]) ∧ Below w.heap.size w w' := by
  have hu' := hu
  have hv' := hv
  obtain ⟨a, cap, rfl, -⟩ := hu
  obtain ⟨a', cap', rfl, -⟩ := hv
  have cx := codeN_ltR hx
  have cy := codeN_ltR hy
  by_cases hlt : codeN n x < codeN n y
  all_goals
    first
      | rw [if_pos hlt]
      | rw [if_neg hlt]
    have hlt' := hlt
    rw [← Int.ofNat_lt] at hlt'
    have H0 : Hid (H3 w (.int .i64 n) (.slice a x.length cap) (.int .i64 n) (.slice a' y.length cap') (.int .i64 0) (.slice none 0 0) (((w.alloc (.cells #[.int .i64 n, .slice a x.length cap] 25)).alloc (.cells #[.int .i64 n, .slice a' y.length cap'] 25)).alloc (.cells #[.int .i64 0, .slice none 0 0] 25))) := ⟨by (repeat (first | (with_reducible exact (Below.refl _ _)) | (with_reducible refine bel_alloc ?_ _) | (with_reducible refine Below.drew ?_) | (with_reducible refine bel_drewN ?_ _) | (with_reducible refine Below.setCell ?_ (by simp) _))), by (repeat (first | (with_reducible refine Bx.newAt _ _ _ _ ?_; simp; done) | (with_reducible refine Bx.alloc ?_ _) | (with_reducible refine Bx.drew ?_) | (with_reducible refine Bx.drewN ?_ _))), by (repeat (first | (with_reducible refine Bx.newAt _ _ _ _ ?_; simp; done) | (with_reducible refine Bx.alloc ?_ _) | (with_reducible refine Bx.drew ?_) | (with_reducible refine Bx.drewN ?_ _))), by (repeat (first | (with_reducible refine Bx.newAt _ _ _ _ ?_; simp; done) | (with_reducible refine Bx.alloc ?_ _) | (with_reducible refine Bx.drew ?_) | (with_reducible refine Bx.drewN ?_ _)))⟩
    go_enter Try.func106, Try.ntmps106
    go_wp2_with fail
    refine region_held (H3 w (.int .i64 n) (.slice a x.length cap) (.int .i64 n) (.slice a' y.length cap') (.int .i64 0) (.slice none 0 0)) (by kernel_rfl) (by kernel_rfl) ⟨H0.out.1.drew, H0.out.2⟩ (H3.keeps _ _ _ _ _ _ _) fun U val hne hval hcall => ?_
    have HC := Lib.hid hcall
    have z0 : ∀ u, (val u).cell? ⟨w.heap.size, 0, none⟩ = some (.int .i64 n) := fun u => (hval u).2.1.c0
    have z1 : ∀ u, (val u).cell? ⟨w.heap.size, 1, none⟩ = some (.slice a x.length cap) := fun u => (hval u).2.1.c1
    have z2 : ∀ u, (val u).cell? ⟨w.heap.size + 1, 0, none⟩ = some (.int .i64 n) := fun u => (hval u).2.2.1.c0
    have z3 : ∀ u, (val u).cell? ⟨w.heap.size + 1, 1, none⟩ = some (.slice a' y.length cap') := fun u => (hval u).2.2.1.c1
    have HV := Lib.hid hval
    clear hval hcall
    repeat (go_big_quiet_step ((first | (go_at_call_of 111 (Value.agg #[Value.int IntKind.i64 n, Value.slice a x.length cap]); exact HC.out _ _ _ _ (implCode _ _ x _ hx (Ints.ofBelow hu' (HV.out _).1))) | (go_at_call_of 111 (Value.agg #[Value.int IntKind.i64 n, Value.slice a' y.length cap']); exact HC.out _ _ _ _ (implCode _ _ y _ hy (Ints.ofBelow hv' (HV.out _).1))))))
    refine wpQuiet_nil ?_
    rintro _ ⟨t, rfl⟩
    have hH := HV.out t
    have HB := Lib.hid hH.1
    have p0 := hH.2.2.2.c0
    have p1 := hH.2.2.2.c1
    have f0 := hH.2.2.2.f 0
    have f1 := hH.2.2.2.f 1
    have HR := Lib.hid hH.2.2.2
    clear hH
    go_wp2
  · have hfin := (HR.out.set0 (.int .i64 n)).set1 (.slice a' y.length cap')
    have r0 := hfin.c0
    have r1 := hfin.c1
    refine bodyPost_ret (v := .agg #[.int .i64 n, .slice a' y.length cap']) ?_ rfl ?_
    · simp [results, Try.results106, go_sem, r0, r1]
    · exact ⟨rfl, (HB.out.setCell (by (first | omega | (simp; done) | (simp; omega))) _).setCell (by (first | omega | (simp; done) | (simp; omega))) _⟩
  · have hfin := (HR.out.set0 (.int .i64 n)).set1 (.slice a x.length cap)
    have r0 := hfin.c0
    have r1 := hfin.c1
    refine bodyPost_ret (v := .agg #[.int .i64 n, .slice a x.length cap]) ?_ rfl ?_
    · simp [results, Try.results106, go_sem, r0, r1]
    · exact ⟨rfl, (HB.out.setCell (by (first | omega | (simp; done) | (simp; omega))) _).setCell (by (first | omega | (simp; done) | (simp; omega))) _⟩

set_option maxHeartbeats 800000 in
theorem specL04After (n : Int) (u : Value) (x : List Int) (v : Value) (y : List Int) (w : World) (h1 : 1 ≤ n) (h2 : n ≤ 24) (hu : Ints w w.heap.size u x) (hv : Ints w w.heap.size v y) :
    Calls Try.prog 125 #[.agg #[.int .i64 n, u], .agg #[.int .i64 n, v]] w fun e w' => e = .returned (.bool (aft n x y)) ∧ Below w.heap.size w w' := by
  have HU := Lib.hid ((hu.alloc (Nat.le_refl _) (.cells #[.int .i64 n, u] 25)).alloc (by simp) (.cells #[.int .i64 n, v] 25))
  have HV := Lib.hid ((hv.alloc (Nat.le_refl _) (.cells #[.int .i64 n, u] 25)).alloc (by simp) (.cells #[.int .i64 n, v] 25))
  obtain ⟨a, cap, rfl, -⟩ := hu
  obtain ⟨a', cap', rfl, -⟩ := hv
  go_enter Try.func125, Try.ntmps125
  go_wp2
  go_loopw [5] (fun i wr => ∃ p : Nat, (p : Int) ≤ n ∧ i = .int .i64 p ∧ aftGo n x y (n - p).toNat p = aft n x y ∧ wr = (w.alloc (.cells #[.int .i64 n, .slice a x.length cap] 25)).alloc (.cells #[.int .i64 n, .slice a' y.length cap'] 25)) (fun i _ => (n - intOf i).toNat)
  case atStart => exact ⟨0, by omega, rfl, by unfold aft; simp, rfl⟩
  case round =>
    obtain ⟨p, hp, rfl, hgo, rfl⟩ := hrel
    have HG := Lib.hid hgo
    clear hgo
    by_cases hlt : (p : Int) < n
    · have harm : True := trivial
      cases hx : hasL x (p : Int) with
      | true =>
        have Hx := Lib.hid hx
        cases hy : hasL y (p : Int) with
        | true =>
          have Hy := Lib.hid hy
          have Hn : Hid (aftGo n x y (n - ((p + 1 : Nat) : Int)).toNat ((p + 1 : Nat) : Int) = aft n x y) := by unfold Hid; rw [← HG.out, aftGo_same hlt (by rw [hx, hy])]; rfl
          clear hx hy
          go_wp2_with fail
          refine (specL02Has _ x _ _ _ HU.out).mono ?_
          rintro e w' ⟨rfl, rfl⟩
          rw [Hx.out]
          go_wp2_with fail
          refine (specL02Has _ y _ _ _ HV.out).mono ?_
          rintro e w' ⟨rfl, rfl⟩
          rw [Hy.out]
          go_wp2_with fail
          go_roundw
          case rel => exact ⟨p + 1, by omega, by go_num, Hn.out, by trivial⟩
          case measure => simp [intOf]; omega
        | false =>
          have Hy := Lib.hid hy
          have Hf : Hid (aft n x y = true) := by unfold Hid; rw [← HG.out, aftGo_diff hlt (by rw [hx, hy]; simp), hx]
          clear hx hy
          go_wp2_with fail
          refine (specL02Has _ x _ _ _ HU.out).mono ?_
          rintro e w' ⟨rfl, rfl⟩
          rw [Hx.out]
          go_wp2_with fail
          refine (specL02Has _ y _ _ _ HV.out).mono ?_
          rintro e w' ⟨rfl, rfl⟩
          rw [Hy.out]
          go_wp2
          go_ret
          exact ⟨ret_bool Hf.out.symm, by (repeat (first | (with_reducible exact (Below.refl _ _)) | (with_reducible refine bel_alloc ?_ _) | (with_reducible refine Below.drew ?_) | (with_reducible refine bel_drewN ?_ _) | (with_reducible refine Below.setCell ?_ (by simp) _)))⟩
      | false =>
        have Hx := Lib.hid hx
        cases hy : hasL y (p : Int) with
        | true =>
          have Hy := Lib.hid hy
          have Hf : Hid (aft n x y = false) := by unfold Hid; rw [← HG.out, aftGo_diff hlt (by rw [hx, hy]; simp), hx]
          clear hx hy
          go_wp2_with fail
          refine (specL02Has _ x _ _ _ HU.out).mono ?_
          rintro e w' ⟨rfl, rfl⟩
          rw [Hx.out]
          go_wp2_with fail
          refine (specL02Has _ y _ _ _ HV.out).mono ?_
          rintro e w' ⟨rfl, rfl⟩
          rw [Hy.out]
          go_wp2
          go_ret
          exact ⟨ret_bool Hf.out.symm, by (repeat (first | (with_reducible exact (Below.refl _ _)) | (with_reducible refine bel_alloc ?_ _) | (with_reducible refine Below.drew ?_) | (with_reducible refine bel_drewN ?_ _) | (with_reducible refine Below.setCell ?_ (by simp) _)))⟩
        | false =>
          have Hy := Lib.hid hy
          have Hn : Hid (aftGo n x y (n - ((p + 1 : Nat) : Int)).toNat ((p + 1 : Nat) : Int) = aft n x y) := by unfold Hid; rw [← HG.out, aftGo_same hlt (by rw [hx, hy])]; rfl
          clear hx hy
          go_wp2_with fail
          refine (specL02Has _ x _ _ _ HU.out).mono ?_
          rintro e w' ⟨rfl, rfl⟩
          rw [Hx.out]
          go_wp2_with fail
          refine (specL02Has _ y _ _ _ HV.out).mono ?_
          rintro e w' ⟨rfl, rfl⟩
          rw [Hy.out]
          go_wp2_with fail
          go_roundw
          case rel => exact ⟨p + 1, by omega, by go_num, Hn.out, by trivial⟩
          case measure => simp [intOf]; omega
    · have Hf : Hid (aft n x y = false) := by unfold Hid; rw [← HG.out, aftGo_end hlt]
      go_wp2
      go_ret
      exact ⟨ret_bool Hf.out.symm, by (repeat (first | (with_reducible exact (Below.refl _ _)) | (with_reducible refine bel_alloc ?_ _) | (with_reducible refine Below.drew ?_) | (with_reducible refine bel_drewN ?_ _) | (with_reducible refine Below.setCell ?_ (by simp) _)))⟩
end Go.Proofs.Ytopfenhphnmfkaa
