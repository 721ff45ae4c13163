/-
  The law of append of a whole slice of integers onto a slice of the call's own; the beginning and the end of such a slice.
  Conditions: lengths are below two to the fortieth.
-/
import Derived.Test.YtopfenhphnmfkaaB0
import Derived.Deep.RegionLaw
import Derived.Maps.AppendAt
set_option linter.unusedVariables false
set_option linter.unusedSimpArgs false
namespace Go.Proofs.Ytopfenhphnmfkaa
open Go.RowKit

theorem infoSlInt : ∃ i0, Try.prog.info? 3 = some i0 ∧ i0.zero = some (.int .i64 0) ∧ i0.size = 1 ∧ i0.bytes = 8 := info_parts infoInt
theorem runAppNil {W : World} {B : Nat} {v : Value} {xs : List Int} (hown : Own W B v xs) (ty : TypeId) (c : Nat) : (Builtin.append_ #[23, 23] ty #[v, .slice none 0 c]).run Try.prog W = .ok v W := by
  obtain ⟨i0, hi, -⟩ := infoSlInt
  rcases hown.2 with ⟨rfl, h0⟩ | ⟨g, cap, cur, rfl, hB, hg, hl, hm, hs, ht⟩
  · simp [Builtin.append_, run_underlying Try.underlying23, sizeOf, typeInfo, hi, Builtin.lenOf, Builtin.firstCells]
  · have hnc : ¬ cap < xs.length := by omega
    simp [Builtin.append_, run_underlying Try.underlying23, sizeOf, typeInfo, hi, Builtin.lenOf, Builtin.firstCells, hnc, storeCells]

/-- append(v, u...). -/
theorem wAppInts {W : World} {o : Oper} {a : Act} {K : Act → World → Prop} {Q : Exit → Act → World → Prop} (s x : Operand)
    (ho : o.op = .call { callee := .builtin .append, args := #[s, x], argTypes := #[23, 23] })
    (B : Nat) (v u : Value) (xs ys : List Int) (hs : a.eval s = v) (hx : a.eval x = u)
    (hown : Own W B v xs) (hu : ∃ C, Ints W C u ys) (hlen : xs.length + ys.length ≤ 1099511627776) (hbase : B ≤ W.heap.size)
    (h : ∀ v' w', Own w' B v' (xs ++ ys) → Below B W w' → K (a.put o.dst v') w') : Oper.wp Try.prog o a W K Q := by
  obtain ⟨C, hu⟩ := hu
  obtain ⟨i0, hi, hz0, hz1, hz2⟩ := infoSlInt
  rcases hu.open with ⟨rfl, A, cap, rfl⟩ | ⟨b, off, cap, rfl, hm, h0, hB, hb, hc⟩
  · cases A with
    | none =>
      have hrun := runAppNil hown o.type cap
      unfold Oper.wp
      have := h v W (by simpa using hown) (Below.refl _ _)
      simpa [execOp, ho, resolve, invoke, builtin, hs, hx, hrun, Result.andThen, Oper.upon] using this
    | some A =>
      refine wp_append_own W s x 23 ho B 3 i0 (.int .i64 0) 1 8 Try.underlying23 hi hz0 hz1 hz2 rfl (by decide) _ _ _ hs hown A 0 cap [] hx rfl (by intro j u hj; simp at hj) (by intro u hu; cases hu) (by unfold maxLen; simp at hlen; omega) (by simp at hlen; omega) hbase ?_
      intro v' w' h1 h2 _
      refine h v' w' ?_ ((Below.refl B W).grown h2 hbase (fun k hk => (hown.lt k hk).1))
      simpa [Own] using h1
  · refine wp_append_own W s x 23 ho B 3 i0 (.int .i64 0) 1 8 Try.underlying23 hi hz0 hz1 hz2 rfl (by decide) _ _ _ hs hown ⟨b, off, none⟩ ys.length cap (ys.map (Value.int .i64)) hx (by simp) ?_ (by intro u hu; obtain ⟨y, _, rfl⟩ := List.mem_map.1 hu; rfl) (by unfold maxLen; omega) (by omega) hbase ?_
    · intro j u hj
      have hjl : j < ys.length := by have := (List.getElem?_eq_some_iff.1 hj).1; simpa using this
      have := hc j hjl
      rw [List.getElem?_map, List.getElem?_eq_getElem hjl] at hj
      simp only [Option.map_some, Option.some.injEq] at hj
      rw [← hj]
      rw [Addr.add_lit]
      simpa [List.getD_eq_getElem?_getD, List.getElem?_eq_getElem hjl] using this
    · intro v' w' h1 h2 _
      refine h v' w' ?_ ((Below.refl B W).grown h2 hbase (fun k hk => (hown.lt k hk).1))
      unfold Own
      rw [List.length_append, List.map_append]; exact h1
theorem wpAppInts {W : World} {ops : Array Oper} {rest : List Oper} {o : Oper} {a : Act} {Q : Exit → Act → World → Prop} (hgd : o.guard = none) (s x : Operand)
    (ho : o.op = .call { callee := .builtin .append, args := #[s, x], argTypes := #[23, 23] })
    (B : Nat) (v u : Value) (xs ys : List Int) (hs : a.eval s = v) (hx : a.eval x = u)
    (hown : Own W B v xs) (hu : ∃ C, Ints W C u ys) (hlen : xs.length + ys.length ≤ 1099511627776) (hbase : B ≤ W.heap.size)
    (h : ∀ a' c' w', Own w' B (.slice a' (xs ++ ys).length c') (xs ++ ys) → Below B W w' → wpList Try.prog ops Q rest (a.put o.dst (.slice a' (xs ++ ys).length c')) w') : wpList Try.prog ops Q (o :: rest) a W :=
  wpList_plain hgd fun _ hK => wAppInts s x ho B v u xs ys hs hx hown hu hlen hbase fun v' w' h1 h2 => by
    obtain ⟨a', c', rfl⟩ := h1.shape
    exact hK _ _ (h a' c' w' h1 h2)
/-- .. as one step of a region whose order is open. -/
theorem stepAppInts {W : World} {ops : Array Oper} {o : Oper} {a : Act} {K : Act → World → Prop} {Q : Exit → Act → World → Prop} {E : Prop} (hgd : o.guard = none) (s x : Operand)
    (ho : o.op = .call { callee := .builtin .append, args := #[s, x], argTypes := #[23, 23] })
    (B : Nat) (v u : Value) (xs ys : List Int) (hs : a.eval s = v) (hx : a.eval x = u)
    (hown : Own W B v xs) (hu : ∃ C, Ints W C u ys) (hlen : xs.length + ys.length ≤ 1099511627776) (hbase : B ≤ W.heap.size)
    (h : ∀ a' c' w', Own w' B (.slice a' (xs ++ ys).length c') (xs ++ ys) → Below B W w' → K (a.put o.dst (.slice a' (xs ++ ys).length c')) w') :
    if Region.wanted o (yielded ops a.tmps) = true then Oper.wp Try.prog o a W K Q else E := by
  have hw : Region.wanted o (yielded ops a.tmps) = true := by simp [Region.wanted, hgd]
  rw [if_pos hw]
  exact wAppInts s x ho B v u xs ys hs hx hown hu hlen hbase fun v' w' h1 h2 => by
    obtain ⟨a', c', rfl⟩ := h1.shape
    exact h a' c' w' h1 h2

/-- append(v, y), y laid in a new block of one cell first: no other old block turns, and where the row lies behind it. -/
theorem wpAppIntG {wr : World} {ops : Array Oper} {rest : List Oper} {o : Oper} {a : Act} {Q : Exit → Act → World → Prop} (hgd : o.guard = none) (s x : Operand)
    (ho : o.op = .call { callee := .builtin .append, args := #[s, x], argTypes := #[23, 23] })
    (B : Nat) (a0 : Option Addr) (n c0 : Nat) (xs : List Int) (y : Int) (hs : a.eval s = .slice a0 n c0) (hx : a.eval x = .slice (some ⟨wr.heap.size, 0, none⟩) 1 1)
    (hown : Own wr B (.slice a0 n c0) xs) (hn : xs.length = n) (hlen : n ≤ 1099511627776) (hbase : B ≤ wr.heap.size)
    (h : ∀ a' c' w', Own w' B (.slice a' (n + 1) c') (xs ++ [y]) → Below B wr w' → (∀ k, k < wr.heap.size → (Value.slice a0 n c0).ownBlock ≠ some k → w'.heap[k]? = wr.heap[k]?) → (∀ k, (Value.slice a' (n + 1) c').ownBlock = some k → (Value.slice a0 n c0).ownBlock = some k ∨ wr.heap.size ≤ k) →
      wpList Try.prog ops Q rest (a.put o.dst (.slice a' (n + 1) c')) w') : wpList Try.prog ops Q (o :: rest) a (wr.alloc (.cells #[.int .i64 y] 3)) := by
  subst hn
  obtain ⟨i0, hi, hz0, hz1, hz2⟩ := infoSlInt
  refine wpList_append_own_at _ hgd s x 23 ho B 3 i0 (.int .i64 0) 1 8 Try.underlying23 hi hz0 hz1 hz2 rfl (by decide) _ _ _ hs (World.ownsRow.alloc hown _) ⟨wr.heap.size, 0, none⟩ 1 1 [.int .i64 y] hx rfl ?_ ?_ ?_ ?_ ?_ ?_
  · intro j u hj
    match j, hj with
    | 0, hj => simp at hj; subst hj; simp [Addr.add]
  · intro u hu; simp at hu; subst hu; rfl
  · unfold maxLen; omega
  · omega
  · simp; omega
  · intro v' w' h1 h2 _ h4
    have h3 : Own w' B v' (xs ++ [y]) := by unfold Own; rw [List.length_append, List.map_append]; exact h1
    obtain ⟨a', c', hv'⟩ := h3.shape
    rw [List.length_append] at hv'
    subst hv'
    refine h a' c' w' h3 (((Below.refl _ _).alloc hbase _).grown h2 (by simp; omega) (fun k hk => (hown.lt k hk).1)) ?_ ?_
    · intro k hk hne
      rw [h2.block k (by simp; omega) (fun e => hne e.symm)]
      exact Below.heap_alloc _ _ _ hk
    · intro k hk
      rcases h4 with h4 | h4
      · exact .inl (h4 ▸ hk)
      · have := Option.some.inj (hk.symm.trans h4)
        right
        rw [this]; simp
/-- A slice of the call's own whose block has not turned. -/
theorem Own.frame {W W' : World} {B g m c : Nat} {xs : List Int} (h : Own W B (.slice (some ⟨g, 0, none⟩) m c) xs) (hb : W'.heap[g]? = W.heap[g]?) : Own W' B (.slice (some ⟨g, 0, none⟩) m c) xs := by
  refine ⟨h.1, ?_⟩
  rcases h.2 with ⟨h0, _⟩ | ⟨g', cap, cur, h0, hB, hg, rest⟩
  · cases h0
  · cases h0
    exact .inr ⟨g, c, cur, rfl, hB, by rw [hb]; exact hg, rest⟩

/-- The first k elements. -/
theorem Own.pre {W : World} {B g m c : Nat} {xs : List Int} (h : Own W B (.slice (some ⟨g, 0, none⟩) m c) xs) {k : Nat} (hk : k ≤ xs.length) : ∃ C, Ints W C (.slice (some ⟨g, 0, none⟩) k c) (xs.take k) := by
  have hl : (xs.take k).length = k := by simp; omega
  rcases h.2 with ⟨h0, _⟩ | ⟨g', cap, cur, h0, hB, hg, h1, h2, hs, ht⟩
  · cases h0
  · cases h0
    refine ⟨W.heap.size, some ⟨g, 0, none⟩, c, by rw [hl], by rw [hl]; omega, h2, ?_⟩
    by_cases hz : k = 0
    · left; subst hz; rfl
    · right
      refine ⟨g, 0, rfl, (Array.getElem?_eq_some_iff.1 hg).1, fun i hi => ?_⟩
      have := h.cell (k := i) (by omega)
      rw [Nat.zero_add, this]
      congr 2
      simp only [List.getD_eq_getElem?_getD, List.getElem?_take]
      rw [if_pos (by omega)]
/-- The elements from k on. -/
theorem Own.suf {W : World} {B g m c : Nat} {xs : List Int} (h : Own W B (.slice (some ⟨g, 0, none⟩) m c) xs) {k : Nat} (hk : k < xs.length) : ∃ C, Ints W C (.slice (some ⟨g, k, none⟩) (m - k) (c - k)) (xs.drop k) := by
  rcases h.2 with ⟨h0, _⟩ | ⟨g', cap, cur, h0, hB, hg, h1, h2, hs, ht⟩
  · cases h0
  · cases h0
    refine ⟨W.heap.size, some ⟨g, k, none⟩, c - k, by rw [List.length_drop], by rw [List.length_drop]; omega, by omega, .inr ⟨g, k, rfl, (Array.getElem?_eq_some_iff.1 hg).1, fun i hi => ?_⟩⟩
    rw [List.length_drop] at hi
    have := h.cell (k := k + i) (by omega)
    rw [this]
    congr 2
    simp only [List.getD_eq_getElem?_getD, List.getElem?_drop]
theorem Ints.nilAny (W : World) (a : Option Addr) (c : Nat) (hc : c ≤ maxLen) : ∃ C, Ints W C (.slice a 0 c) [] := ⟨0, a, c, rfl, Nat.zero_le _, hc, .inl rfl⟩
/-- A slice that is not empty lies at the head of a row. -/
theorem Own.head {W : World} {B : Nat} {v : Value} {xs : List Int} (h : Own W B v xs) (hx : xs ≠ []) : ∃ g c, v = .slice (some ⟨g, 0, none⟩) xs.length c ∧ B ≤ g ∧ g < W.heap.size ∧ xs.length ≤ 9223372036854775807 ∧ xs.length ≤ c ∧ c ≤ 9223372036854775807 := by
  rcases h.2 with ⟨rfl, h0⟩ | ⟨g, cap, cur, rfl, hB, hg, hl, hm, hs, ht⟩
  · exact absurd (List.eq_nil_of_length_eq_zero h0) hx
  · unfold maxLen at hm
    exact ⟨g, cap, rfl, hB, (Array.getElem?_eq_some_iff.1 hg).1, by omega, hl, by omega⟩
theorem Own.lit (w : World) {B : Nat} (hB : B ≤ w.heap.size) : Own (w.alloc (.cells #[] 3)) B (.slice (some ⟨w.heap.size, 0, none⟩) 0 0) [] :=
  World.ownsRow_lit (e := 3) (size := 1) w #[] 0 hB (Nat.zero_le _) rfl
end Go.Proofs.Ytopfenhphnmfkaa
