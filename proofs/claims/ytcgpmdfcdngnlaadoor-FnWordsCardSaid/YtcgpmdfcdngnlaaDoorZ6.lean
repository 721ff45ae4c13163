/-
  Slices of texts that the call itself has made, and where they lie.
  No condition beyond each statement.
-/
import Derived.Test.YtcgpmdfcdngnlaaDoorZ1
import Derived.Test.YtcgpmdfcdngnlaaDoorZ3
set_option linter.unusedVariables false
set_option linter.unusedSimpArgs false
namespace Go.Proofs.YtcgpmdfcdngnlaaDoor
open Go.RowKit

def SegS (w : World) (lo hi : Nat) (v : Value) (xs : List ByteArray) : Prop := OwnS w lo v xs ∧ ∀ k, v.ownBlock = some k → k < hi
theorem SegS.own {w : World} {lo hi : Nat} {v : Value} {xs : List ByteArray} (h : SegS w lo hi v xs) : OwnS w lo v xs := h.1
theorem SegS.strs {w : World} {lo hi : Nat} {v : Value} {xs : List ByteArray} (h : SegS w lo hi v xs) : Strs w w.heap.size v xs := h.1.strs
theorem SegS.mk' {w : World} {lo : Nat} {v : Value} {xs : List ByteArray} (h : OwnS w lo v xs) : SegS w lo w.heap.size v xs := ⟨h, fun k hk => (h.lt k hk).2⟩
theorem SegS.alloc {w : World} {lo hi : Nat} {v : Value} {xs : List ByteArray} (h : SegS w lo hi v xs) (o : Obj) : SegS (w.alloc o) lo hi v xs := ⟨h.1.alloc o, h.2⟩
theorem SegS.drew {w : World} {lo hi : Nat} {v : Value} {xs : List ByteArray} (h : SegS w lo hi v xs) : SegS w.drew lo hi v xs := h
theorem SegS.drewN {w : World} {lo hi : Nat} {v : Value} {xs : List ByteArray} (h : SegS w lo hi v xs) (n : Nat) : SegS (w.drewN n) lo hi v xs := h
theorem SegS.after {X w1 : World} {lo hi : Nat} {v : Value} {xs : List ByteArray} (h : SegS X lo hi v xs) (b : Below X.heap.size X w1) : SegS w1 lo hi v xs := ⟨h.1.below b, h.2⟩
theorem SegS.outside {X w1 : World} {lo hi lo' hi' : Nat} {v : Value} {xs : List ByteArray} (h : SegS X lo hi v xs) (b : Outside lo' hi' X w1) (hd : hi ≤ lo' ∨ hi' ≤ lo) : SegS w1 lo hi v xs := by
  refine ⟨⟨h.1.1, ?_⟩, h.2⟩
  rcases h.1.2 with hn | ⟨g, cap, cur, hv, hB, hg, rest⟩
  · exact .inl hn
  · have hlt : g < X.heap.size := (Array.getElem?_eq_some_iff.1 hg).1
    have hgh : g < hi := h.2 g (by rw [hv]; rfl)
    exact .inr ⟨g, cap, cur, hv, hB, by rw [b.block g hlt (by omega)]; exact hg, rest⟩
theorem Strs.outside {X w1 : World} {lo hi B : Nat} {v : Value} {xs : List ByteArray} (h : Strs X B v xs) (b : Outside lo hi X w1) (hB : B ≤ lo) (hX : B ≤ X.heap.size) : Strs w1 B v xs := by
  obtain ⟨a, cap, rfl, hl, hm, h⟩ := h
  refine ⟨a, cap, rfl, hl, hm, ?_⟩
  rcases h with h | ⟨bl, o, rfl, hlt, h⟩
  · exact .inl h
  · exact .inr ⟨bl, o, rfl, hlt, fun i hi => by rw [World.cell?_of_block (w := X) (w' := w1) (a := ⟨bl, o + i, none⟩) (b.block bl (by omega) (by omega))]; exact h i hi⟩
/-- A slice that reads, out of any world with the same old blocks. -/
theorem Strs.ofBelow {w X : World} {v : Value} {xs : List ByteArray} (h : Strs w w.heap.size v xs) (hB : Below w.heap.size w X) : Strs X X.heap.size v xs := (h.below hB).mono hB.size


theorem mem_sumS {xs : List ByteArray} {x : ByteArray} (h : x ∈ xs) : x.size ≤ sumS xs := by
  induction xs with
  | nil => cases h
  | cons y ys ih =>
    rcases List.mem_cons.1 h with rfl | h
    · simp [sumS]
    · have := ih h; simp only [sumS]; omega
theorem szS_le {left : Int} {xs : List ByteArray} (h : 0 ≤ left) {m : Int} (hm : left ≤ m) : szS left xs ≤ m := by
  rcases szS_sum (xs := xs) h with h1 | ⟨h1, h2⟩
  · omega
  · unfold szS at h1 ⊢
    split
    · omega
    · rcases szGo_sum xs (left - xs.length) (by omega) with h3 | ⟨h3, h4⟩ <;> omega
theorem lawEqStringS' (u v : Value) (xs ys : List ByteArray) (w : World) (he : xs = ys) (hu : Strs w w.heap.size u xs) (hv : Strs w w.heap.size v ys) :
    Calls Tryd.prog 13 #[u, v] w fun e w' => e = .returned (.bool (eqS xs ys)) ∧ Below w.heap.size w w' :=
  (lawEqStringS u v xs ys w _ _ he hu hv).mono fun e w' h => ⟨h.1, by obtain ⟨n, hn⟩ := h.2; rw [hn]; exact bel_drewN (Below.refl _ _) n⟩
end Go.Proofs.YtcgpmdfcdngnlaaDoor
