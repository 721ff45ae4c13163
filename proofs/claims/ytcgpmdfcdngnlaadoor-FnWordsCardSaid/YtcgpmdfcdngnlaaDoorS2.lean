/-
  How an argument that is a slice of bytes is opened.
  No condition.
-/
import Derived.Test.YtcgpmdfcdngnlaaDoorS1
import Derived.Test.YtcgpmdfcdngnlaaDoorD2
set_option linter.unusedVariables false
set_option linter.unusedSimpArgs false
namespace Go.Proofs.YtcgpmdfcdngnlaaDoor
open Go.RowKit Go.ChangeShapes Go.WideShapes Go.ChangeAt Go.Joins
set_option maxRecDepth 8000

theorem bounds_u8 {n : Int} (h : (Lit.int .u8 n).wf = true) : 0 ≤ n ∧ n ≤ 255 := by
  have e1 : IntKind.u8.min = 0 := rfl
  have e2 : IntKind.u8.max = 255 := rfl
  simp [Lit.wf, e1, e2] at h
  omega
theorem bytes_at {w : World} {a : Addr} {zs : List Int} (h : ∀ i, i < zs.length → w.cell? (a.add i) = some (.int .u8 (zs.getD i 0))) (hp : 0 < zs.length) :
    ∃ b off, a = ⟨b, off, none⟩ ∧ ∀ j, j < zs.length → w.cell? ⟨b, off + j, none⟩ = some (.int .u8 (zs.getD j 0)) := by
  obtain ⟨b, off, spot⟩ := a
  have hspot : spot = none := by simpa [Addr.add] using World.cell?_spot (h 0 hp)
  subst hspot
  exact ⟨b, off, rfl, fun j hj => by rw [← Go.WideShapes.add_plain]; exact h j hj⟩
theorem openBytes1 {H : Type} {enc : TypeId × Value → H} {W : World} {fuel : Nat} {v : Value} {x : DataW H × List MemPlace}
    (hf : DataW.trod enc Tryd.prog W 0 (fun _ => true) true fuel 43 [v] = some x) : ∃ m, Bytes W W.heap.size v m := by
  rcases open_ints Tryd.underlying43 Tryd.underlying5 (by kernel_rfl) hf with ⟨hcs, _⟩ | ⟨a, l, c, zs, hcs, _, hl, hm, hz, _, hcell, hwz⟩
  · simp at hcs
    subst hcs
    exact ⟨0, none, 0, rfl, Nat.le_refl _, Nat.zero_le _, .inl rfl⟩
  · simp at hcs
    subst hcs
    have hzl : zs.length = c := by simpa using hz
    refine ⟨l, some a, c, rfl, hl, hm, ?_⟩
    by_cases h0 : l = 0
    · left; exact h0
    · right
      obtain ⟨b, o, rfl, hc⟩ := bytes_at hcell (by omega)
      refine ⟨b, o, rfl, World.block_lt_of_cell? W ⟨b, o + 0, none⟩ (hc 0 (by omega)), fun i hi => ?_⟩
      have hw := bounds_u8 (hwz (zs.getD i 0) (by rw [List.getD_eq_getElem?_getD, List.getElem?_eq_getElem (by omega)]; exact List.getElem_mem _))
      exact ⟨(zs.getD i 0).toNat, by omega, by rw [hc i (by omega), show (((zs.getD i 0).toNat : Nat) : Int) = zs.getD i 0 by omega]⟩
theorem openBytes {H : Type} {enc : TypeId × Value → H} {W : World} {base : Nat} {v : Value} {d : DataW H} {p : List MemPlace}
    (hval : Value.okWide Tryd.prog W .any base 43 v) (h : DataW.Trod enc Tryd.prog W 0 (fun _ => true) true 43 v d p) : ∃ m, Bytes W W.heap.size v m := by
  obtain ⟨a, l, c, rfl⟩ := okWide_slice Tryd.underlying43 hval
  obtain ⟨fuel, hf⟩ := h
  exact openBytes1 (by simpa [Value.cells] using hf)
end Go.Proofs.YtcgpmdfcdngnlaaDoor
