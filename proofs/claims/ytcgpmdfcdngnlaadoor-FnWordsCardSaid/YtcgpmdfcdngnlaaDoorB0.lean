/-
  How a slice of integers lies in memory (one that is read, one that the call itself has made), and the laws of append and make for such slices.
  Conditions: lengths are below two to the fortieth.
-/
import Derived.Test.YtcgpmdfcdngnlaaDoorChecked
import Derived.WalkKit
import Derived.WalkLawsBesides
import Derived.WalkSpells
import Derived.Lib.Hide
set_option linter.unusedVariables false
set_option linter.unusedSimpArgs false
namespace Go.Proofs.YtcgpmdfcdngnlaaDoor
open Go.RowKit

/-- An integer of 64 bits. -/
def I64 (n : Int) : Prop := -9223372036854775808 ≤ n ∧ n ≤ 9223372036854775807
theorem ret_bool {a b : Bool} (h : a = b) : Ending.returned (.bool a) = .returned (.bool b) := by rw [h]
theorem ret_int {k : IntKind} {a b : Int} (h : a = b) : Ending.returned (.int k a) = .returned (.int k b) := by rw [h]

/-- What was below block B reads as before: for the walk, which takes the two as rules. -/
theorem bcell {B : Nat} {W w1 : World} (hb : Below B W w1) : (∀ b o, b < B → w1.cell? ⟨b, o, none⟩ = W.cell? ⟨b, o, none⟩) ∧ (∀ b o, b < B → w1.frozen? ⟨b, o, none⟩ = W.frozen? ⟨b, o, none⟩) :=
  ⟨fun b o h => hb.cell (p := ⟨b, o, none⟩) h, fun b o h => hb.frozen (p := ⟨b, o, none⟩) h⟩
theorem bel_drewN {B : Nat} {a w : World} (h : Below B a w) (n : Nat) : Below B a (w.drewN n) := ⟨h.os, h.tape, h.output, h.size, h.block⟩

theorem cellAfter {X w1 : World} {p o : Nat} {v : Value} (b : Below X.heap.size X w1) (hX : X.cell? ⟨p, o, none⟩ = some v) : w1.cell? ⟨p, o, none⟩ = some v := by
  have := World.block_lt_of_cell? X _ hX
  rw [(bcell b).1 _ _ this]; exact hX
theorem cellAlloc {X : World} {p i : Nat} {v : Value} (o : Obj) (hX : X.cell? ⟨p, i, none⟩ = some v) : (X.alloc o).cell? ⟨p, i, none⟩ = some v :=
  cellAfter ((Below.refl _ _).alloc (Nat.le_refl _) o) hX
theorem cellNew (X : World) (c : Array Value) (t : TypeId) (i : Nat) {v : Value} (h : c[i]? = some v) : (X.alloc (.cells c t)).cell? ⟨X.heap.size, i, none⟩ = some v := by
  rw [World.cell?_alloc_at _ _ _ _ rfl]; exact h
theorem cellNewAt (X : World) (c : Array Value) (t : TypeId) (i : Nat) {p : Nat} {v : Value} (hp : p = X.heap.size) (h : c[i]? = some v) : (X.alloc (.cells c t)).cell? ⟨p, i, none⟩ = some v := by
  subst hp; exact cellNew X c t i h
/-- The world of a call under a name of its own. -/
theorem withWorld {P : Program} {f : FuncId} {args : Array Value} {w : World} {R : Ending → World → Prop} (h : ∀ X, X = w → Calls P f args X R) : Calls P f args w R := h w rfl
theorem withWorldC {P : Program} {c : Code} {Q : Exit → Act → World → Prop} {a : Act} {w : World} (h : ∀ X, X = w → c.wp P Q a X) : c.wp P Q a w := h w rfl
/-- One call more: of what was below B nothing has turned. -/
theorem bel_step {B : Nat} {w X w1 : World} (h : Below B w X) (b : Below X.heap.size X w1) (hB : B ≤ X.heap.size) : Below B w w1 := h.trans (b.mono hB)
/-- The value v is a slice of values that reads as xs; its cells lie below block B. -/
def Vals (w : World) (B : Nat) (v : Value) (xs : List Value) : Prop :=
  ∃ a cap, v = .slice a xs.length cap ∧ xs.length ≤ cap ∧ cap ≤ maxLen ∧
    (xs = [] ∨ ∃ b o, a = some ⟨b, o, none⟩ ∧ b < B ∧ ∀ i, i < xs.length → w.cell? ⟨b, o + i, none⟩ = xs[i]?)
/-- .. of integers. -/
def Ints (w : World) (B : Nat) (v : Value) (xs : List Int) : Prop :=
  ∃ a cap, v = .slice a xs.length cap ∧ xs.length ≤ cap ∧ cap ≤ maxLen ∧
    (xs = [] ∨ ∃ b o, a = some ⟨b, o, none⟩ ∧ b < B ∧ ∀ i, i < xs.length → w.cell? ⟨b, o + i, none⟩ = some (.int .i64 (xs.getD i 0)))

theorem Ints.below {w w' : World} {B : Nat} {v : Value} {xs : List Int} (h : Ints w B v xs) (hb : Below B w w') : Ints w' B v xs := by
  obtain ⟨a, cap, rfl, hl, hm, h⟩ := h
  refine ⟨a, cap, rfl, hl, hm, ?_⟩
  rcases h with h | ⟨b, o, rfl, hB, h⟩
  · exact .inl h
  · exact .inr ⟨b, o, rfl, hB, fun i hi => by rw [(bcell hb).1 _ _ hB]; exact h i hi⟩
theorem Ints.after {X w1 : World} {B : Nat} {v : Value} {xs : List Int} (h : Ints X B v xs) (b : Below X.heap.size X w1) (hB : B ≤ X.heap.size) : Ints w1 B v xs := h.below (b.mono hB)
theorem Ints.mono {w : World} {B B' : Nat} {v : Value} {xs : List Int} (h : Ints w B v xs) (hB : B ≤ B') : Ints w B' v xs := by
  obtain ⟨a, cap, rfl, hl, hm, h⟩ := h
  refine ⟨a, cap, rfl, hl, hm, ?_⟩
  rcases h with h | ⟨b, o, rfl, hB, h⟩
  · exact .inl h
  · exact .inr ⟨b, o, rfl, by omega, h⟩
theorem Ints.cap {w : World} {B : Nat} {v : Value} {xs : List Int} (h : Ints w B v xs) : xs.length ≤ maxLen := by
  obtain ⟨a, cap, rfl, hl, hm, h⟩ := h; omega
theorem Ints.alloc {w : World} {B : Nat} {v : Value} {xs : List Int} (h : Ints w B v xs) (hB : B ≤ w.heap.size) (o : Obj) : Ints (w.alloc o) B v xs :=
  h.below ((Below.refl _ _).alloc hB o)
theorem Ints.drewN {w : World} {B : Nat} {v : Value} {xs : List Int} (h : Ints w B v xs) (n : Nat) : Ints (w.drewN n) B v xs := h
theorem Ints.drew {w : World} {B : Nat} {v : Value} {xs : List Int} (h : Ints w B v xs) : Ints w.drew B v xs := h
/-- Opened, for the walk. -/
theorem Ints.open {w : World} {B : Nat} {v : Value} {xs : List Int} (h : Ints w B v xs) :
    (xs = [] ∧ ∃ a cap, v = .slice a 0 cap) ∨
    ∃ b o cap, v = .slice (some ⟨b, o, none⟩) xs.length cap ∧ xs.length ≤ 9223372036854775807 ∧ 0 < xs.length ∧ b < B ∧ b < w.heap.size ∧ ∀ i, i < xs.length → w.cell? ⟨b, o + i, none⟩ = some (.int .i64 (xs.getD i 0)) := by
  obtain ⟨a, cap, rfl, hl, hm, h⟩ := h
  unfold maxLen at hm
  rcases h with rfl | ⟨b, o, rfl, hB, h⟩
  · exact .inl ⟨rfl, a, cap, rfl⟩
  · by_cases h0 : xs.length = 0
    · have : xs = [] := List.eq_nil_of_length_eq_zero h0
      subst this
      exact .inl ⟨rfl, _, cap, rfl⟩
    · exact .inr ⟨b, o, cap, rfl, by omega, by omega, hB, World.block_lt_of_cell? w ⟨b, o + 0, none⟩ (h 0 (by omega)), h⟩

/-- The value v is a slice of integers in a block of the call's own, from B on. -/
def Own (w : World) (B : Nat) (v : Value) (xs : List Int) : Prop := w.ownsRow B 3 1 v xs.length (xs.map (Value.int .i64))

theorem Own.nil (w : World) (B : Nat) : Own w B (.slice none 0 0) [] := World.ownsRow_nil _ _ _ _
theorem Own.below {w w' : World} {B : Nat} {v : Value} {xs : List Int} (h : Own w B v xs) (hb : Below w.heap.size w w') : Own w' B v xs := by
  refine ⟨h.1, ?_⟩
  rcases h.2 with hn | ⟨g, cap, cur, rfl, hB, hg, rest⟩
  · exact .inl hn
  · exact .inr ⟨g, cap, cur, rfl, hB, by rw [hb.block g (Array.getElem?_eq_some_iff.1 hg).1]; exact hg, rest⟩
theorem Own.alloc {w : World} {B : Nat} {v : Value} {xs : List Int} (h : Own w B v xs) (o : Obj) : Own (w.alloc o) B v xs := World.ownsRow.alloc h o
theorem Own.drew {w : World} {B : Nat} {v : Value} {xs : List Int} (h : Own w B v xs) : Own w.drew B v xs := h
theorem Own.drewN {w : World} {B : Nat} {v : Value} {xs : List Int} (h : Own w B v xs) (n : Nat) : Own (w.drewN n) B v xs := h
theorem Own.mono {w : World} {B B' : Nat} {v : Value} {xs : List Int} (h : Own w B v xs) (hB : B' ≤ B) : Own w B' v xs := by
  refine ⟨h.1, ?_⟩
  rcases h.2 with hn | ⟨g, cap, cur, rfl, hB0, rest⟩
  · exact .inl hn
  · exact .inr ⟨g, cap, cur, rfl, by omega, rest⟩
theorem Own.ints {w : World} {B : Nat} {v : Value} {xs : List Int} (h : Own w B v xs) : Ints w w.heap.size v xs := by
  rcases h.2 with ⟨rfl, h0⟩ | ⟨g, cap, cur, rfl, hB, hg, hl, hm, hs, ht⟩
  · have : xs = [] := List.eq_nil_of_length_eq_zero h0
    subst this
    exact ⟨none, 0, rfl, Nat.le_refl _, Nat.zero_le _, .inl rfl⟩
  · refine ⟨_, cap, rfl, hl, hm, .inr ⟨g, 0, rfl, (Array.getElem?_eq_some_iff.1 hg).1, fun i hi => ?_⟩⟩
    have := World.ownsRow.cellAt h i (by omega)
    rw [Nat.zero_add, this]
    simp [List.getD_eq_getElem?_getD, List.getElem?_eq_getElem hi]
theorem Own.lt {w : World} {B : Nat} {v : Value} {xs : List Int} (h : Own w B v xs) : ∀ k, v.ownBlock = some k → B ≤ k ∧ k < w.heap.size := World.ownsRow.lt h
/-- Opened: nil, or the head of a row. -/
theorem Own.open {w : World} {B : Nat} {v : Value} {xs : List Int} (h : Own w B v xs) :
    (xs = [] ∧ v = .slice none 0 0) ∨ ∃ g cap, v = .slice (some ⟨g, 0, none⟩) xs.length cap ∧ B ≤ g ∧ g < w.heap.size ∧ xs.length ≤ 9223372036854775807 := by
  rcases h.2 with ⟨rfl, h0⟩ | ⟨g, cap, cur, rfl, hB, hg, hl, hm, hs, ht⟩
  · exact .inl ⟨List.eq_nil_of_length_eq_zero h0, rfl⟩
  · unfold maxLen at hm
    exact .inr ⟨g, cap, rfl, hB, (Array.getElem?_eq_some_iff.1 hg).1, by omega⟩

theorem Own.setc {w : World} {B : Nat} {v : Value} {xs : List Int} (h : Own w B v xs) {a : Addr} (ha : a.block < B) (u : Value) : Own (w.setCell a u) B v xs := ownsRow_setCell_below h ha u
theorem Own.shape {w : World} {B : Nat} {v : Value} {xs : List Int} (h : Own w B v xs) : ∃ a c, v = .slice a xs.length c := by
  rcases h.open with ⟨rfl, rfl⟩ | ⟨g, cap, rfl, _⟩
  · exact ⟨_, _, rfl⟩
  · exact ⟨_, _, rfl⟩
/-- What a function that makes a slice of integers leaves: the slice is its own, and of what was there nothing has turned. -/
def RetOwn (w : World) (xs : List Int) (e : Ending) (w' : World) : Prop :=
  ∃ a c, e = .returned (.slice a xs.length c) ∧ Own w' w.heap.size (.slice a xs.length c) xs ∧ Below w.heap.size w w'
theorem RetOwn.mk {w w' : World} {xs : List Int} {e : Ending} {v : Value} (he : e = .returned v) (ho : Own w' w.heap.size v xs) (hb : Below w.heap.size w w') : RetOwn w xs e w' := by
  obtain ⟨a, c, rfl⟩ := ho.shape
  exact ⟨a, c, he, ho, hb⟩
/-- .. a rhythm. -/
def RetRhythm (w : World) (n : Int) (xs : List Int) (e : Ending) (w' : World) : Prop :=
  ∃ a c, e = .returned (.agg #[.int .i64 n, .slice a xs.length c]) ∧ Own w' w.heap.size (.slice a xs.length c) xs ∧ Below w.heap.size w w'
/-- .. a rhythm and whether there is one. -/
def RetRhythm2 (w : World) (n : Int) (xs : List Int) (ok : Bool) (e : Ending) (w' : World) : Prop :=
  ∃ a c, e = .returned (.tuple #[.agg #[.int .i64 n, .slice a xs.length c], .bool ok]) ∧ Own w' w.heap.size (.slice a xs.length c) xs ∧ Below w.heap.size w w'

/-! ### segments: an owned slice and where its block lies -/
/-- The slice is owned, its block lies from lo on and below hi. -/
def Seg (w : World) (lo hi : Nat) (v : Value) (xs : List Int) : Prop := Own w lo v xs ∧ ∀ k, v.ownBlock = some k → k < hi
/-- Outside of the blocks from lo on and below hi nothing that was there has turned. -/
structure Outside (lo hi : Nat) (w w' : World) : Prop where
  os : w'.os = w.os
  tape : w'.tape = w.tape
  output : w'.output = w.output
  size : w.heap.size ≤ w'.heap.size
  block : ∀ k, k < w.heap.size → k < lo ∨ hi ≤ k → w'.heap[k]? = w.heap[k]?
theorem Seg.own {w : World} {lo hi : Nat} {v : Value} {xs : List Int} (h : Seg w lo hi v xs) : Own w lo v xs := h.1
theorem Seg.ints {w : World} {lo hi : Nat} {v : Value} {xs : List Int} (h : Seg w lo hi v xs) : Ints w w.heap.size v xs := h.1.ints
theorem Seg.mk' {w : World} {lo : Nat} {v : Value} {xs : List Int} (h : Own w lo v xs) : Seg w lo w.heap.size v xs := ⟨h, fun k hk => (h.lt k hk).2⟩
theorem Seg.alloc {w : World} {lo hi : Nat} {v : Value} {xs : List Int} (h : Seg w lo hi v xs) (o : Obj) : Seg (w.alloc o) lo hi v xs := ⟨h.1.alloc o, h.2⟩
theorem Seg.drew {w : World} {lo hi : Nat} {v : Value} {xs : List Int} (h : Seg w lo hi v xs) : Seg w.drew lo hi v xs := h
theorem Seg.drewN {w : World} {lo hi : Nat} {v : Value} {xs : List Int} (h : Seg w lo hi v xs) (n : Nat) : Seg (w.drewN n) lo hi v xs := h
theorem Seg.after {X w1 : World} {lo hi : Nat} {v : Value} {xs : List Int} (h : Seg X lo hi v xs) (b : Below X.heap.size X w1) : Seg w1 lo hi v xs := ⟨h.1.below b, h.2⟩
theorem Seg.outside {X w1 : World} {lo hi lo' hi' : Nat} {v : Value} {xs : List Int} (h : Seg X lo hi v xs) (b : Outside lo' hi' X w1) (hd : hi ≤ lo' ∨ hi' ≤ lo) : Seg w1 lo hi v xs := by
  refine ⟨⟨h.1.1, ?_⟩, h.2⟩
  rcases h.1.2 with hn | ⟨g, cap, cur, hv, hB, hg, rest⟩
  · exact .inl hn
  · have hlt : g < X.heap.size := (Array.getElem?_eq_some_iff.1 hg).1
    have hgh : g < hi := h.2 g (by rw [hv]; rfl)
    exact .inr ⟨g, cap, cur, hv, hB, by rw [b.block g hlt (by omega)]; exact hg, rest⟩
theorem Ints.outside {X w1 : World} {lo hi B : Nat} {v : Value} {xs : List Int} (h : Ints X B v xs) (b : Outside lo hi X w1) (hB : B ≤ lo) (hX : B ≤ X.heap.size) : Ints w1 B v xs := by
  obtain ⟨a, cap, rfl, hl, hm, h⟩ := h
  refine ⟨a, cap, rfl, hl, hm, ?_⟩
  rcases h with h | ⟨bl, o, rfl, hlt, h⟩
  · exact .inl h
  · exact .inr ⟨bl, o, rfl, hlt, fun i hi => by rw [World.cell?_of_block (w := X) (w' := w1) (a := ⟨bl, o + i, none⟩) (b.block bl (by omega) (by omega))]; exact h i hi⟩
theorem cellOutside {X w1 : World} {lo hi p o : Nat} {v : Value} (hX : X.cell? ⟨p, o, none⟩ = some v) (b : Outside lo hi X w1) (hd : p < lo ∨ hi ≤ p) : w1.cell? ⟨p, o, none⟩ = some v := by
  have := World.block_lt_of_cell? X _ hX
  rw [World.cell?_of_block (w := X) (w' := w1) (a := ⟨p, o, none⟩) (b.block p this hd)]; exact hX
theorem bel_outside {B lo hi : Nat} {w X w1 : World} (h : Below B w X) (b : Outside lo hi X w1) (hB : B ≤ lo) (hX : B ≤ X.heap.size) : Below B w w1 :=
  h.trans ⟨b.os, b.tape, b.output, b.size, fun k hk => b.block k (by omega) (by omega)⟩
theorem cellDrew {X : World} {p i : Nat} {v : Value} (hX : X.cell? ⟨p, i, none⟩ = some v) : X.drew.cell? ⟨p, i, none⟩ = some v := hX
theorem cellDrewN {X : World} {p i n : Nat} {v : Value} (hX : X.cell? ⟨p, i, none⟩ = some v) : (X.drewN n).cell? ⟨p, i, none⟩ = some v := hX
theorem Ints.allocW {w X : World} {v : Value} {xs : List Int} (h : Ints X w.heap.size v xs) (hB : Below w.heap.size w X) (o : Obj) : Ints (X.alloc o) w.heap.size v xs := h.alloc hB.size o
theorem bel_alloc {w X : World} (h : Below w.heap.size w X) (o : Obj) : Below w.heap.size w (X.alloc o) := h.alloc h.size o
theorem size_step {a b c : Nat} (h : a ≤ b) (h' : b ≤ c) : a ≤ c := Nat.le_trans h h'
/-- A slice that reads, out of any world with the same old blocks. -/
theorem Ints.ofBelow {w X : World} {v : Value} {xs : List Int} (h : Ints w w.heap.size v xs) (hB : Below w.heap.size w X) : Ints X X.heap.size v xs := (h.below hB).mono hB.size

theorem infoInt : (Tryd.prog.info? 3).map (fun i => (i.zero, i.size, i.bytes)) = some (some (.int .i64 0), 1, 8) := by kernel_rfl

/-- append(v, y), y laid in a new block of one cell first. -/
theorem wpAppInt {wr : World} {ops : Array Oper} {rest : List Oper} {o : Oper} {a : Act} {Q : Exit → Act → World → Prop} (hgd : o.guard = none) (s x : Operand)
    (ho : o.op = .call { callee := .builtin .append, args := #[s, x], argTypes := #[29, 29] })
    (B : Nat) (a0 : Option Addr) (n c0 : Nat) (xs : List Int) (y : Int) (hs : a.eval s = .slice a0 n c0) (hx : a.eval x = .slice (some ⟨wr.heap.size, 0, none⟩) 1 1)
    (hown : Own wr B (.slice a0 n c0) xs) (hn : xs.length = n) (hlen : n ≤ 1099511627776) (hbase : B ≤ wr.heap.size)
    (h : ∀ a' c' w', Own w' B (.slice a' (n + 1) c') (xs ++ [y]) → Below B wr w' → wpList Tryd.prog ops Q rest (a.put o.dst (.slice a' (n + 1) c')) w') : wpList Tryd.prog ops Q (o :: rest) a (wr.alloc (.cells #[.int .i64 y] 3)) := by
  subst hn
  obtain ⟨i0, hi, hz0, hz1, hz2⟩ := info_parts infoInt
  refine wpList_append_own _ hgd s x 29 ho B 3 i0 (.int .i64 0) 1 8 Tryd.underlying29 hi hz0 hz1 hz2 rfl (by decide) _ _ _ hs (World.ownsRow.alloc hown _) ⟨wr.heap.size, 0, none⟩ 1 1 [.int .i64 y] hx rfl ?_ ?_ ?_ ?_ ?_ ?_
  · intro j u hj
    match j, hj with
    | 0, hj => simp at hj; subst hj; simp [Addr.add]
  · intro u hu; simp at hu; subst hu; rfl
  · unfold maxLen; omega
  · omega
  · simp; omega
  · intro v' w' h1 h2 _
    have h3 : Own w' B v' (xs ++ [y]) := by unfold Own; rw [List.length_append, List.map_append]; exact h1
    obtain ⟨a', c', hv'⟩ := h3.shape
    rw [List.length_append] at hv'
    rw [hv'] at h3 ⊢
    exact h a' c' w' h3 (((Below.refl _ _).alloc hbase _).grown h2 (by simp; omega) (fun k hk => (hown.lt k hk).1))
/-- The same as one step of a region whose order is open. -/
theorem stepAppInt {wr : World} {ops : Array Oper} {o : Oper} {a : Act} {K : Act → World → Prop} {Q : Exit → Act → World → Prop} {E : Prop} (hgd : o.guard = none) (s x : Operand)
    (ho : o.op = .call { callee := .builtin .append, args := #[s, x], argTypes := #[29, 29] })
    (B : Nat) (a0 : Option Addr) (n c0 : Nat) (xs : List Int) (y : Int) (hs : a.eval s = .slice a0 n c0) (hx : a.eval x = .slice (some ⟨wr.heap.size, 0, none⟩) 1 1)
    (hown : Own wr B (.slice a0 n c0) xs) (hn : xs.length = n) (hlen : n ≤ 1099511627776) (hbase : B ≤ wr.heap.size)
    {W : World} (hW : W = wr.alloc (.cells #[.int .i64 y] 3) ∨ ∃ q, W = (wr.alloc (.cells #[.int .i64 y] 3)).drewN q)
    (h : ∀ a' c' w', Own w' B (.slice a' (n + 1) c') (xs ++ [y]) → Below B wr w' → K (a.put o.dst (.slice a' (n + 1) c')) w') :
    if Region.wanted o (yielded ops a.tmps) = true then Oper.wp Tryd.prog o a W K Q else E := by
  have hw : Region.wanted o (yielded ops a.tmps) = true := by simp [Region.wanted, hgd]
  rw [if_pos hw]
  subst hn
  obtain ⟨i0, hi, hz0, hz1, hz2⟩ := info_parts infoInt
  have hWB : Below B wr W ∧ W.ownsRow B 3 1 (.slice a0 xs.length c0) xs.length (xs.map (Value.int .i64)) ∧ W.cell? ⟨wr.heap.size, 0, none⟩ = some (.int .i64 y) ∧ B ≤ W.heap.size := by
    rcases hW with rfl | ⟨q, rfl⟩
    · exact ⟨(Below.refl _ _).alloc hbase _, World.ownsRow.alloc hown _, cellNew _ _ _ 0 rfl, by simp; omega⟩
    · exact ⟨bel_drewN ((Below.refl _ _).alloc hbase _) q, World.ownsRow.alloc hown _, cellNew _ _ _ 0 rfl, by simp; omega⟩
  obtain ⟨hb, ho1, hc, hs1⟩ := hWB
  refine wp_append_own W s x 29 ho B 3 i0 (.int .i64 0) 1 8 Tryd.underlying29 hi hz0 hz1 hz2 rfl (by decide) _ _ _ hs ho1 ⟨wr.heap.size, 0, none⟩ 1 1 [.int .i64 y] hx rfl ?_ ?_ ?_ ?_ hs1 ?_
  · intro j u hj
    match j, hj with
    | 0, hj => simp at hj; subst hj; simpa [Addr.add] using hc
  · intro u hu; simp at hu; subst hu; rfl
  · unfold maxLen; omega
  · omega
  · intro v' w' h1 h2 _
    have h3 : Own w' B v' (xs ++ [y]) := by unfold Own; rw [List.length_append, List.map_append]; exact h1
    obtain ⟨a', c', hv'⟩ := h3.shape
    rw [List.length_append] at hv'
    rw [hv'] at h3 ⊢
    exact h a' c' w' h3 (hb.grown h2 hs1 (fun k hk => (hown.lt k hk).1))

/-! ### a box of two cells, as a whole block -/
def Bx (w : World) (p : Nat) (v0 v1 : Value) (t : TypeId) : Prop := w.heap[p]? = some (.cells #[v0, v1] t (0, 0))
theorem Bx.c0 {w : World} {p : Nat} {v0 v1 : Value} {t : TypeId} (h : Bx w p v0 v1 t) : w.cell? ⟨p, 0, none⟩ = some v0 := by rw [cell_of_row w p 0 _ t (0, 0) h]; rfl
theorem Bx.c1 {w : World} {p : Nat} {v0 v1 : Value} {t : TypeId} (h : Bx w p v0 v1 t) : w.cell? ⟨p, 1, none⟩ = some v1 := by rw [cell_of_row w p 1 _ t (0, 0) h]; rfl
theorem Bx.f {w : World} {p : Nat} {v0 v1 : Value} {t : TypeId} (h : Bx w p v0 v1 t) (o : Nat) : w.frozen? ⟨p, o, none⟩ = false := frozen_of_row w p o _ t h
theorem Bx.lt {w : World} {p : Nat} {v0 v1 : Value} {t : TypeId} (h : Bx w p v0 v1 t) : p < w.heap.size := (Array.getElem?_eq_some_iff.1 h).1
theorem Bx.below {w w' : World} {B p : Nat} {v0 v1 : Value} {t : TypeId} (h : Bx w p v0 v1 t) (hb : Below B w w') (hp : p < B) : Bx w' p v0 v1 t := (hb.block p hp).trans h
theorem Bx.new (w : World) (v0 v1 : Value) (t : TypeId) : Bx (w.alloc (.cells #[v0, v1] t)) w.heap.size v0 v1 t := heap_alloc_new w _
theorem Bx.newAt (w : World) (v0 v1 : Value) (t : TypeId) {p : Nat} (hp : p = w.heap.size) : Bx (w.alloc (.cells #[v0, v1] t)) p v0 v1 t := by subst hp; exact heap_alloc_new w _
theorem Bx.alloc {w : World} {p : Nat} {v0 v1 : Value} {t : TypeId} (h : Bx w p v0 v1 t) (o : Obj) : Bx (w.alloc o) p v0 v1 t := (Below.heap_alloc w o p h.lt).trans h
theorem Bx.drew {w : World} {p : Nat} {v0 v1 : Value} {t : TypeId} (h : Bx w p v0 v1 t) : Bx w.drew p v0 v1 t := h
theorem Bx.drewN {w : World} {p : Nat} {v0 v1 : Value} {t : TypeId} (h : Bx w p v0 v1 t) (n : Nat) : Bx (w.drewN n) p v0 v1 t := h
theorem Bx.set1 {w : World} {p : Nat} {v0 v1 : Value} {t : TypeId} (h : Bx w p v0 v1 t) (u : Value) : Bx (w.setCell ⟨p, 1, none⟩ u) p v0 u t := by
  have := heap_setCell_same w p 1 _ t u h
  simpa [Bx] using this
theorem Bx.set0 {w : World} {p : Nat} {v0 v1 : Value} {t : TypeId} (h : Bx w p v0 v1 t) (u : Value) : Bx (w.setCell ⟨p, 0, none⟩ u) p u v1 t := by
  have := heap_setCell_same w p 0 _ t u h
  simpa [Bx] using this
theorem Bx.set_other {w : World} {p : Nat} {v0 v1 : Value} {t : TypeId} (h : Bx w p v0 v1 t) {a : Addr} (ha : p ≠ a.block) (u : Value) : Bx (w.setCell a u) p v0 v1 t := (Below.heap_setCell w a u p ha).trans h

/-- make([]int, n). -/
theorem wpMakeInt {wr : World} {ops : Array Oper} {rest : List Oper} {o : Oper} {a : Act} {Q : Exit → Act → World → Prop} (hgd : o.guard = none) (l c : Operand)
    (ho : o.op = Op.makeSlice 29 l c) (B n : Nat) (hl : a.eval l = .int .i64 (n : Int)) (hc : a.eval c = .int .i64 (n : Int)) (hn : n ≤ 1099511627776) (hbase : B ≤ wr.heap.size)
    (h : ∀ w', Own w' B (.slice (some ⟨wr.heap.size, 0, none⟩) n n) (List.replicate n 0) → Below B wr w' → wr.heap.size < w'.heap.size → wpList Tryd.prog ops Q rest (a.put o.dst (.slice (some ⟨wr.heap.size, 0, none⟩) n n)) w') : wpList Tryd.prog ops Q (o :: rest) a wr := by
  obtain ⟨i0, hi, hz0, hz1, hz2⟩ := info_parts infoInt
  refine wpList_make_full _ hgd l c 29 ho B 3 i0 (.int .i64 0) 1 Tryd.underlying29 hi hz0 hz1 .i64 .i64 _ _ n hl hc rfl rfl ?_ ?_ hbase ?_
  · rw [hz2]; omega
  · unfold maxLen; omega
  · intro w' h1 h2
    have h3 : Own w' B (.slice (some ⟨wr.heap.size, 0, none⟩) n n) (List.replicate n 0) := by
      unfold Own
      rw [List.length_replicate, List.map_replicate]
      have e : (madeCells (Value.int .i64 0).cells (n * 1)).toList = List.replicate n (Value.int .i64 0) := by
        rw [Nat.mul_one]; exact toList_madeCells_one _ _
      rw [e] at h1; exact h1
    refine h w' h3 ?_ (h3.lt _ rfl).2
    exact (Below.refl _ _).grown h2 hbase (fun k hk => by cases hk)

/-- v[k] = y in a slice of the call's own. -/
theorem Own.store {w : World} {B g cap : Nat} {xs : List Int} (n : Nat) (h : Own w B (.slice (some ⟨g, 0, none⟩) n cap) xs) (k : Nat) (y : Int) :
    Own (w.setCell ⟨g, k, none⟩ (.int .i64 y)) B (.slice (some ⟨g, 0, none⟩) n cap) (xs.set k y) := by
  have hn : n = xs.length := by
    rcases h.2 with ⟨h0, _⟩ | ⟨_, _, _, h0, _⟩
    · cases h0
    · cases h0; rfl
  subst hn
  unfold Own
  rw [List.length_set, List.map_set]
  exact (World.ownsRow.stored h k (.int .i64 y)).1
theorem Own.cell {w : World} {B g cap n : Nat} {xs : List Int} (h : Own w B (.slice (some ⟨g, 0, none⟩) n cap) xs) {k : Nat} (hk : k < xs.length) :
    w.cell? ⟨g, k, none⟩ = some (.int .i64 (xs.getD k 0)) := by
  have hn : n = xs.length := by
    rcases h.2 with ⟨h0, _⟩ | ⟨_, _, _, h0, _⟩
    · cases h0
    · cases h0; rfl
  subst hn
  rw [World.ownsRow.cellAt h k (by omega)]
  simp [List.getD_eq_getElem?_getD, List.getElem?_eq_getElem hk]
theorem Own.free {w : World} {B g cap n : Nat} {xs : List Int} (h : Own w B (.slice (some ⟨g, 0, none⟩) n cap) xs) (k : Nat) : w.frozen? ⟨g, k, none⟩ = false := by
  have hn : n = xs.length := by
    rcases h.2 with ⟨h0, _⟩ | ⟨_, _, _, h0, _⟩
    · cases h0
    · cases h0; rfl
  subst hn
  exact World.ownsRow.frozenAt h k
end Go.Proofs.YtcgpmdfcdngnlaaDoor
