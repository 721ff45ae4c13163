/-
  Slices of texts in memory, in the manner of slices of integers.
  No condition beyond each statement.
-/
import Derived.Test.YtcgpmdfcdngnlaaDoorB0
set_option linter.unusedVariables false
set_option linter.unusedSimpArgs false
namespace Go.Proofs.YtcgpmdfcdngnlaaDoor
open Go.RowKit

def Strs (w : World) (B : Nat) (v : Value) (xs : List ByteArray) : Prop :=
  ∃ a cap, v = .slice a xs.length cap ∧ xs.length ≤ cap ∧ cap ≤ maxLen ∧
    (xs = [] ∨ ∃ b o, a = some ⟨b, o, none⟩ ∧ b < B ∧ ∀ i, i < xs.length → w.cell? ⟨b, o + i, none⟩ = some (.string (xs.getD i ByteArray.empty)))

theorem Strs.below {w w' : World} {B : Nat} {v : Value} {xs : List ByteArray} (h : Strs w B v xs) (hb : Below B w w') : Strs w' B v xs := by
  obtain ⟨a, cap, rfl, hl, hm, h⟩ := h
  refine ⟨a, cap, rfl, hl, hm, ?_⟩
  rcases h with h | ⟨b, o, rfl, hB, h⟩
  · exact .inl h
  · exact .inr ⟨b, o, rfl, hB, fun i hi => by rw [(bcell hb).1 _ _ hB]; exact h i hi⟩
theorem Strs.after {X w1 : World} {B : Nat} {v : Value} {xs : List ByteArray} (h : Strs X B v xs) (b : Below X.heap.size X w1) (hB : B ≤ X.heap.size) : Strs w1 B v xs := h.below (b.mono hB)
theorem Strs.mono {w : World} {B B' : Nat} {v : Value} {xs : List ByteArray} (h : Strs w B v xs) (hB : B ≤ B') : Strs w B' v xs := by
  obtain ⟨a, cap, rfl, hl, hm, h⟩ := h
  refine ⟨a, cap, rfl, hl, hm, ?_⟩
  rcases h with h | ⟨b, o, rfl, hB, h⟩
  · exact .inl h
  · exact .inr ⟨b, o, rfl, by omega, h⟩
theorem Strs.cap {w : World} {B : Nat} {v : Value} {xs : List ByteArray} (h : Strs w B v xs) : xs.length ≤ maxLen := by
  obtain ⟨a, cap, rfl, hl, hm, h⟩ := h; omega
theorem Strs.alloc {w : World} {B : Nat} {v : Value} {xs : List ByteArray} (h : Strs w B v xs) (hB : B ≤ w.heap.size) (o : Obj) : Strs (w.alloc o) B v xs :=
  h.below ((Below.refl _ _).alloc hB o)
theorem Strs.drewN {w : World} {B : Nat} {v : Value} {xs : List ByteArray} (h : Strs w B v xs) (n : Nat) : Strs (w.drewN n) B v xs := h
theorem Strs.drew {w : World} {B : Nat} {v : Value} {xs : List ByteArray} (h : Strs w B v xs) : Strs w.drew B v xs := h
/-- Opened, for the walk. -/
theorem Strs.open {w : World} {B : Nat} {v : Value} {xs : List ByteArray} (h : Strs w B v xs) :
    (xs = [] ∧ ∃ a cap, v = .slice a 0 cap) ∨
    ∃ b o cap, v = .slice (some ⟨b, o, none⟩) xs.length cap ∧ xs.length ≤ 9223372036854775807 ∧ 0 < xs.length ∧ b < B ∧ b < w.heap.size ∧ ∀ i, i < xs.length → w.cell? ⟨b, o + i, none⟩ = some (.string (xs.getD i ByteArray.empty)) := by
  obtain ⟨a, cap, rfl, hl, hm, h⟩ := h
  unfold maxLen at hm
  rcases h with rfl | ⟨b, o, rfl, hB, h⟩
  · exact .inl ⟨rfl, a, cap, rfl⟩
  · by_cases h0 : xs.length = 0
    · have : xs = [] := List.eq_nil_of_length_eq_zero h0
      subst this
      exact .inl ⟨rfl, _, cap, rfl⟩
    · exact .inr ⟨b, o, cap, rfl, by omega, by omega, hB, World.block_lt_of_cell? w ⟨b, o + 0, none⟩ (h 0 (by omega)), h⟩

/-- The value v is a slice of integers in a block of the call's own, from B on. -/
def OwnS (w : World) (B : Nat) (v : Value) (xs : List ByteArray) : Prop := w.ownsRow B 9 1 v xs.length (xs.map (Value.string))

theorem OwnS.nil (w : World) (B : Nat) : OwnS w B (.slice none 0 0) [] := World.ownsRow_nil _ _ _ _
theorem OwnS.below {w w' : World} {B : Nat} {v : Value} {xs : List ByteArray} (h : OwnS w B v xs) (hb : Below w.heap.size w w') : OwnS w' B v xs := by
  refine ⟨h.1, ?_⟩
  rcases h.2 with hn | ⟨g, cap, cur, rfl, hB, hg, rest⟩
  · exact .inl hn
  · exact .inr ⟨g, cap, cur, rfl, hB, by rw [hb.block g (Array.getElem?_eq_some_iff.1 hg).1]; exact hg, rest⟩
theorem OwnS.alloc {w : World} {B : Nat} {v : Value} {xs : List ByteArray} (h : OwnS w B v xs) (o : Obj) : OwnS (w.alloc o) B v xs := World.ownsRow.alloc h o
theorem OwnS.drew {w : World} {B : Nat} {v : Value} {xs : List ByteArray} (h : OwnS w B v xs) : OwnS w.drew B v xs := h
theorem OwnS.drewN {w : World} {B : Nat} {v : Value} {xs : List ByteArray} (h : OwnS w B v xs) (n : Nat) : OwnS (w.drewN n) B v xs := h
theorem OwnS.mono {w : World} {B B' : Nat} {v : Value} {xs : List ByteArray} (h : OwnS w B v xs) (hB : B' ≤ B) : OwnS w B' v xs := by
  refine ⟨h.1, ?_⟩
  rcases h.2 with hn | ⟨g, cap, cur, rfl, hB0, rest⟩
  · exact .inl hn
  · exact .inr ⟨g, cap, cur, rfl, by omega, rest⟩
theorem OwnS.strs {w : World} {B : Nat} {v : Value} {xs : List ByteArray} (h : OwnS w B v xs) : Strs w w.heap.size v xs := by
  rcases h.2 with ⟨rfl, h0⟩ | ⟨g, cap, cur, rfl, hB, hg, hl, hm, hs, ht⟩
  · have : xs = [] := List.eq_nil_of_length_eq_zero h0
    subst this
    exact ⟨none, 0, rfl, Nat.le_refl _, Nat.zero_le _, .inl rfl⟩
  · refine ⟨_, cap, rfl, hl, hm, .inr ⟨g, 0, rfl, (Array.getElem?_eq_some_iff.1 hg).1, fun i hi => ?_⟩⟩
    have := World.ownsRow.cellAt h i (by omega)
    rw [Nat.zero_add, this]
    simp [List.getD_eq_getElem?_getD, List.getElem?_eq_getElem hi]
theorem OwnS.lt {w : World} {B : Nat} {v : Value} {xs : List ByteArray} (h : OwnS w B v xs) : ∀ k, v.ownBlock = some k → B ≤ k ∧ k < w.heap.size := World.ownsRow.lt h
/-- Opened: nil, or the head of a row. -/
theorem OwnS.open {w : World} {B : Nat} {v : Value} {xs : List ByteArray} (h : OwnS w B v xs) :
    (xs = [] ∧ v = .slice none 0 0) ∨ ∃ g cap, v = .slice (some ⟨g, 0, none⟩) xs.length cap ∧ B ≤ g ∧ g < w.heap.size ∧ xs.length ≤ 9223372036854775807 := by
  rcases h.2 with ⟨rfl, h0⟩ | ⟨g, cap, cur, rfl, hB, hg, hl, hm, hs, ht⟩
  · exact .inl ⟨List.eq_nil_of_length_eq_zero h0, rfl⟩
  · unfold maxLen at hm
    exact .inr ⟨g, cap, rfl, hB, (Array.getElem?_eq_some_iff.1 hg).1, by omega⟩

theorem OwnS.setc {w : World} {B : Nat} {v : Value} {xs : List ByteArray} (h : OwnS w B v xs) {a : Addr} (ha : a.block < B) (u : Value) : OwnS (w.setCell a u) B v xs := ownsRow_setCell_below h ha u
theorem OwnS.shape {w : World} {B : Nat} {v : Value} {xs : List ByteArray} (h : OwnS w B v xs) : ∃ a c, v = .slice a xs.length c := by
  rcases h.open with ⟨rfl, rfl⟩ | ⟨g, cap, rfl, _⟩
  · exact ⟨_, _, rfl⟩
  · exact ⟨_, _, rfl⟩
/-- What a function that makes a slice of integers leaves: the slice is its own, and of what was there nothing has turned. -/
def RetOwnS (w : World) (xs : List ByteArray) (e : Ending) (w' : World) : Prop :=
  ∃ a c, e = .returned (.slice a xs.length c) ∧ OwnS w' w.heap.size (.slice a xs.length c) xs ∧ Below w.heap.size w w'
theorem RetOwnS.mk {w w' : World} {xs : List ByteArray} {e : Ending} {v : Value} (he : e = .returned v) (ho : OwnS w' w.heap.size v xs) (hb : Below w.heap.size w w') : RetOwnS w xs e w' := by
  obtain ⟨a, c, rfl⟩ := ho.shape
  exact ⟨a, c, he, ho, hb⟩
theorem infoStr : (Tryd.prog.info? 9).map (fun i => (i.zero, i.size, i.bytes)) = some (some (.string ByteArray.empty), 1, 16) := by kernel_rfl
/-- make([]int, n). -/
theorem wpMakeStr {wr : World} {ops : Array Oper} {rest : List Oper} {o : Oper} {a : Act} {Q : Exit → Act → World → Prop} (hgd : o.guard = none) (l c : Operand)
    (ho : o.op = Op.makeSlice 24 l c) (B n : Nat) (hl : a.eval l = .int .i64 (n : Int)) (hc : a.eval c = .int .i64 (n : Int)) (hn : n ≤ 1099511627776) (hbase : B ≤ wr.heap.size)
    (h : ∀ w', OwnS w' B (.slice (some ⟨wr.heap.size, 0, none⟩) n n) (List.replicate n ByteArray.empty) → Below B wr w' → wr.heap.size < w'.heap.size → wpList Tryd.prog ops Q rest (a.put o.dst (.slice (some ⟨wr.heap.size, 0, none⟩) n n)) w') : wpList Tryd.prog ops Q (o :: rest) a wr := by
  obtain ⟨i0, hi, hz0, hz1, hz2⟩ := info_parts infoStr
  refine wpList_make_full _ hgd l c 24 ho B 9 i0 (.string ByteArray.empty) 1 Tryd.underlying24 hi hz0 hz1 .i64 .i64 _ _ n hl hc rfl rfl ?_ ?_ hbase ?_
  · rw [hz2]; omega
  · unfold maxLen; omega
  · intro w' h1 h2
    have h3 : OwnS w' B (.slice (some ⟨wr.heap.size, 0, none⟩) n n) (List.replicate n ByteArray.empty) := by
      unfold OwnS
      rw [List.length_replicate, List.map_replicate]
      have e : (madeCells (Value.string ByteArray.empty).cells (n * 1)).toList = List.replicate n (Value.string ByteArray.empty) := by
        rw [Nat.mul_one]; exact toList_madeCells_one _ _
      rw [e] at h1; exact h1
    refine h w' h3 ?_ (h3.lt _ rfl).2
    exact (Below.refl _ _).grown h2 hbase (fun k hk => by cases hk)

/-- v[k] = y in a slice of the call's own. -/
theorem OwnS.store {w : World} {B g cap : Nat} {xs : List ByteArray} (n : Nat) (h : OwnS w B (.slice (some ⟨g, 0, none⟩) n cap) xs) (k : Nat) (y : ByteArray) :
    OwnS (w.setCell ⟨g, k, none⟩ (.string y)) B (.slice (some ⟨g, 0, none⟩) n cap) (xs.set k y) := by
  have hn : n = xs.length := by
    rcases h.2 with ⟨h0, _⟩ | ⟨_, _, _, h0, _⟩
    · cases h0
    · cases h0; rfl
  subst hn
  unfold OwnS
  rw [List.length_set, List.map_set]
  exact (World.ownsRow.stored h k (.string y)).1
theorem OwnS.cell {w : World} {B g cap n : Nat} {xs : List ByteArray} (h : OwnS w B (.slice (some ⟨g, 0, none⟩) n cap) xs) {k : Nat} (hk : k < xs.length) :
    w.cell? ⟨g, k, none⟩ = some (.string (xs.getD k ByteArray.empty)) := by
  have hn : n = xs.length := by
    rcases h.2 with ⟨h0, _⟩ | ⟨_, _, _, h0, _⟩
    · cases h0
    · cases h0; rfl
  subst hn
  rw [World.ownsRow.cellAt h k (by omega)]
  simp [List.getD_eq_getElem?_getD, List.getElem?_eq_getElem hk]
theorem OwnS.free {w : World} {B g cap n : Nat} {xs : List ByteArray} (h : OwnS w B (.slice (some ⟨g, 0, none⟩) n cap) xs) (k : Nat) : w.frozen? ⟨g, k, none⟩ = false := by
  have hn : n = xs.length := by
    rcases h.2 with ⟨h0, _⟩ | ⟨_, _, _, h0, _⟩
    · cases h0
    · cases h0; rfl
  subst hn
  exact World.ownsRow.frozenAt h k
end Go.Proofs.YtcgpmdfcdngnlaaDoor
