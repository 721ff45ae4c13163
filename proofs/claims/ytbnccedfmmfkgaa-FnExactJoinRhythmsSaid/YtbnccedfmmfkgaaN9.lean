/-
  Contracts of the number of a rhythm's text and of the rotation with the last text, in the program and in the reference.
  Conditions: valid rhythms whose beats lie in memory.
-/
import Derived.Test.YtbnccedfmmfkgaaN2
import Derived.Test.YtbnccedfmmfkgaaN4
import Derived.Test.YtbnccedfmmfkgaaM15
import Derived.Laws.BitsLemmas
set_option linter.unusedVariables false
set_option linter.unusedSimpArgs false
namespace Go.Proofs.Ytbnccedfmmfkgaa
open Go.RowKit

theorem code_or {c e : Nat} (hc : c < 16777216) (he : e < 24) : bits .or .i64 (c : Int) (wrap64 (2 ^ e)) = ((c ||| 2 ^ e : Nat) : Int) := by
  have hp : 2 ^ e < 2 ^ 24 := Nat.pow_lt_pow_right (by decide) he
  have h0 : (((2 ^ e : Nat)) : Int) = (2 : Int) ^ e := by simp
  have hp' : 2 ^ e < 16777216 := hp
  have h1 : (((2 ^ e : Nat)) : Int) < 16777216 := Int.ofNat_lt.2 hp'
  have h2 : (0 : Int) ≤ ((2 ^ e : Nat) : Int) := Int.natCast_nonneg _
  rw [h0] at h1 h2
  rw [IntWalk.wrap64_in _ ⟨by omega, by omega⟩, ← h0]
  exact (bits_nat .i64 24 (by decide) (fun n h0 h1 => by rw [IntKind.wrap_i64]; omega) c (2 ^ e) hc hp).2
theorem Rok.bd {n : Int} {x : List Int} (h : Rok n x) : ∀ p ∈ x, 0 ≤ p ∧ p < n := fun p hp => ⟨h.ge p hp, h.lt p hp⟩
theorem codeN_ltR {n : Int} {x : List Int} (h : Rok n x) : codeN n x < 16777216 := codeN_lt h.bd h.hi
/-- A slice of the call's own, a store elsewhere. -/
theorem Own.setOther {w : World} {B : Nat} {v : Value} {xs : List Int} (h : Own w B v xs) {a : Addr} (ha : ∀ k, v.ownBlock = some k → k ≠ a.block) (u : Value) : Own (w.setCell a u) B v xs := by
  refine ⟨h.1, ?_⟩
  rcases h.2 with hn | ⟨g, cap, cur, rfl, hB, hg, rest⟩
  · exact .inl hn
  · exact .inr ⟨g, cap, cur, rfl, hB, by rw [Below.heap_setCell _ _ _ _ (ha g rfl)]; exact hg, rest⟩

theorem implCode (n : Int) (v : Value) (x : List Int) (w : World) (hR : Rok n x) (h : Ints w w.heap.size v x) :
    Calls Try.prog 73 #[.agg #[.int .i64 n, v]] w fun e w' => e = .returned (.int .i64 (codeN n x : Nat)) ∧ Below w.heap.size w w' := by
  have h1 := hR.lo
  have h2 := hR.hi
  have hlen := hR.len24
  have Hge := Lib.hid hR.ge
  have Hlt := Lib.hid hR.lt
  rcases h.open with ⟨rfl, a, cap, rfl⟩ | ⟨b, o, cap, rfl, hm, hpos, hB, hlt0, hc⟩
  · go_enter Try.func73, Try.ntmps73
    go_wp2
    refine wp_loop_rounds 1 ?_; rw [rounds_succ]
    go_wp2
    go_ret
    exact ⟨rfl, by (repeat (first | (with_reducible exact (Below.refl _ _)) | (with_reducible refine bel_alloc ?_ _) | (with_reducible refine Below.drew ?_) | (with_reducible refine bel_drewN ?_ _) | (with_reducible refine Below.setCell ?_ (by simp) _)))⟩
  · go_enter Try.func73, Try.ntmps73
    go_wp2
    go_loopw [3, 9] (fun s i wr => ∃ k : Nat, k ≤ x.length ∧ i = .int .i64 k ∧ s = .int .i64 (codeN n (x.take k) : Nat) ∧ wr = w.alloc (.cells #[.int .i64 n, .slice (some ⟨b, o, none⟩) x.length cap] 27)) (fun _ i _ => x.length - (intOf i).toNat)
    case atStart => exact ⟨0, Nat.zero_le _, rfl, rfl, rfl⟩
    case round =>
      obtain ⟨k, hk, rfl, rfl, rfl⟩ := hrel
      by_cases hlt : k < x.length
      · have hc1 := hc k hlt
        rw [getD_get hlt] at hc1
        have y1 := Hge.out _ (List.getElem_mem hlt)
        have y2 := Hlt.out _ (List.getElem_mem hlt)
        have hcl : codeN n (x.take k) < 16777216 := codeN_lt (fun p hp => ⟨Hge.out p (List.mem_of_mem_take hp), Hlt.out p (List.mem_of_mem_take hp)⟩) h2
        have Hn : Hid (bits .or .i64 ((codeN n (x.take k) : Nat) : Int) (wrap64 (2 ^ (n - 1 - x[k]).toNat)) = ((codeN n (x.take (k + 1)) : Nat) : Int)) := by
          unfold Hid; rw [code_or hcl (by omega), codeN_take hlt]
        clear hcl
        go_wp2
        go_roundw
        case rel => exact ⟨k + 1, by omega, by go_num, by rw [← Hn.out], by trivial⟩
        case measure => simp [intOf]; omega
      · have e : k = x.length := by omega
        subst e
        go_wp2
        go_ret
        exact ⟨by rw [List.take_length]; rfl, by (repeat (first | (with_reducible exact (Below.refl _ _)) | (with_reducible refine bel_alloc ?_ _) | (with_reducible refine Below.drew ?_) | (with_reducible refine bel_drewN ?_ _) | (with_reducible refine Below.setCell ?_ (by simp) _)))⟩

/-- Nothing below has turned; three boxes are there. -/
def H3 (w : World) (v0 v1 u0 u1 r0 r1 : Value) (W : World) : Prop := Below w.heap.size w W ∧ Bx W w.heap.size v0 v1 27 ∧ Bx W (w.heap.size + 1) u0 u1 27 ∧ Bx W (w.heap.size + 2) r0 r1 27
theorem H3.keeps (w : World) (v0 v1 u0 u1 r0 r1 : Value) : Keeps (H3 w v0 v1 u0 u1 r0 r1) := fun _ _ h b => ⟨bel_step h.1 b h.1.size, h.2.1.below b h.2.1.lt, h.2.2.1.below b h.2.2.1.lt, h.2.2.2.below b h.2.2.2.lt⟩


end Go.Proofs.Ytbnccedfmmfkgaa
