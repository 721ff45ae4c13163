/-
  How the arguments of the laws are opened: integers, slices of integers, rhythms.
  No condition.
-/
import Derived.Test.YtcgpmdfcdngnlaaDoorB0
import Derived.ProofKit
import Derived.OpenShut
import Derived.ShutString
import Derived.ChangeOld
import Derived.Lib.SmallJoins
set_option linter.unusedVariables false
set_option linter.unusedSimpArgs false
namespace Go.Proofs.YtcgpmdfcdngnlaaDoor
open Go.RowKit Go.ChangeShapes Go.WideShapes Go.ChangeAt Go.Joins
set_option maxRecDepth 8000


theorem mem_getD {xs : List Int} {P : Int → Prop} (h : ∀ x ∈ xs, P x) {i : Nat} (hi : i < xs.length) : P (xs.getD i 0) := by
  rw [List.getD_eq_getElem?_getD, List.getElem?_eq_getElem hi]; exact h _ (List.getElem_mem hi)

theorem openInts1 {H : Type} {enc : TypeId × Value → H} {W : World} {fuel : Nat} {v : Value} {x : DataW H × List MemPlace}
    (hf : DataW.trod enc Tryd.prog W 0 (fun _ => true) true fuel 29 [v] = some x) : ∃ xs, Ints W W.heap.size v xs ∧ ∀ n ∈ xs, I64 n := by
  rcases open_ints Tryd.underlying29 Tryd.underlying3 (by kernel_rfl) hf with ⟨hcs, _⟩ | ⟨a, l, c, zs, hcs, _, hl, hm, hz, _, hcell, hwz⟩
  · simp at hcs
    subst hcs
    exact ⟨[], ⟨none, 0, rfl, Nat.le_refl _, Nat.zero_le _, .inl rfl⟩, fun n hn => by cases hn⟩
  · simp at hcs
    subst hcs
    have hzl : zs.length = c := by simpa using hz
    have hl' : (zs.take l).length = l := by simp; omega
    refine ⟨zs.take l, ⟨some a, c, by rw [hl'], by rw [hl']; exact hl, hm, ?_⟩, fun n hn => bounds_i64 (hwz n (List.mem_of_mem_take hn))⟩
    by_cases h0 : l = 0
    · left; simp [h0]
    · right
      obtain ⟨b, o, rfl, hc⟩ := ints_at hcell (by omega)
      refine ⟨b, o, rfl, World.block_lt_of_cell? W ⟨b, o + 0, none⟩ (hc 0 (by omega)), fun i hi => ?_⟩
      rw [hl'] at hi
      rw [hc i (by omega)]
      simp [List.getD_eq_getElem?_getD, List.getElem?_take, hi]

theorem openInts {H : Type} {enc : TypeId × Value → H} {W : World} {base : Nat} {v : Value} {d : DataW H} {p : List MemPlace}
    (hval : Value.okWide Tryd.prog W .any base 29 v) (h : DataW.Trod enc Tryd.prog W 0 (fun _ => true) true 29 v d p) : ∃ xs, Ints W W.heap.size v xs ∧ ∀ n ∈ xs, I64 n := by
  obtain ⟨a, l, c, rfl⟩ := okWide_slice Tryd.underlying29 hval
  obtain ⟨fuel, hf⟩ := h
  exact openInts1 (by simpa [Value.cells] using hf)

theorem openRhythm {H : Type} {enc : TypeId × Value → H} {W : World} {base : Nat} {v : Value} {d : DataW H} {p : List MemPlace}
    (hval : Value.okWide Tryd.prog W .any base 38 v) (h : DataW.Trod enc Tryd.prog W 0 (fun _ => true) true 38 v d p) :
    ∃ n u xs, v = .agg #[.int .i64 n, u] ∧ I64 n ∧ Ints W W.heap.size u xs ∧ ∀ n ∈ xs, I64 n := by
  obtain ⟨c0, c1, y0, y1, m, rfl, rfl, rfl, hy0, hy1⟩ := open_agg2 Tryd.underlying38 (by kernel_rfl) (by kernel_rfl) hval h
  obtain ⟨a, e0, rfl, wa⟩ := DataW.trod_int Tryd.underlying3 hy0
  simp at e0
  subst e0
  obtain ⟨xs, h1, h2⟩ := openInts1 hy1
  exact ⟨a, c1, xs, rfl, bounds_i64 wa, h1, h2⟩
end Go.Proofs.YtcgpmdfcdngnlaaDoor
