/-
  Slices of rhythms in memory that the call itself has made: their cells, the blocks of their beats, and the law of append.
  Conditions: lengths are below two to the fortieth.
-/
import Derived.Test.YtopfenhphnmfkaaC3
set_option linter.unusedVariables false
set_option linter.unusedSimpArgs false
namespace Go.Proofs.Ytopfenhphnmfkaa
open Go.RowKit

/-- The cells of n rhythms. -/
def rcF (n : Nat) (f : Nat → Int) (g : Nat → Value) : List Value := (List.range n).flatMap fun i => [.int .i64 (f i), g i]
theorem rcF_succ (n : Nat) (f : Nat → Int) (g : Nat → Value) : rcF (n + 1) f g = rcF n f g ++ [.int .i64 (f n), g n] := by
  simp [rcF, List.range_succ, List.flatMap_append]
theorem rcF_len (f : Nat → Int) (g : Nat → Value) : ∀ n, (rcF n f g).length = n * 2
  | 0 => rfl
  | n + 1 => by rw [rcF_succ, List.length_append, rcF_len f g n]; simp; omega
theorem rcF_get (f : Nat → Int) (g : Nat → Value) : ∀ n i, i < n → (rcF n f g)[2 * i]? = some (.int .i64 (f i)) ∧ (rcF n f g)[2 * i + 1]? = some (g i)
  | 0, i, h => by omega
  | n + 1, i, h => by
    rw [rcF_succ]
    by_cases e : i < n
    · rw [List.getElem?_append_left (by rw [rcF_len]; omega), List.getElem?_append_left (by rw [rcF_len]; omega)]
      exact rcF_get f g n i e
    · have : i = n := by omega
      subst this
      rw [List.getElem?_append_right (by rw [rcF_len]; omega), List.getElem?_append_right (by rw [rcF_len]; omega), rcF_len]
      have e1 : 2 * i - i * 2 = 0 := by omega
      have e2 : 2 * i + 1 - i * 2 = 1 := by omega
      rw [e1, e2]; exact ⟨rfl, rfl⟩
theorem rcF_congr {n : Nat} {f f' : Nat → Int} {g g' : Nat → Value} (hf : ∀ i, i < n → f i = f' i) (hg : ∀ i, i < n → g i = g' i) : rcF n f g = rcF n f' g' := by
  induction n with
  | zero => rfl
  | succ n ih => rw [rcF_succ, rcF_succ, ih (fun i hi => hf i (by omega)) (fun i hi => hg i (by omega)), hf n (by omega), hg n (by omega)]
theorem rcF_set (f : Nat → Int) (g : Nat → Value) (n i : Nat) (hi : i < n) (y : Int) : (rcF n f g).set (2 * i) (.int .i64 y) = rcF n (fun j => if j = i then y else f j) g := by
  apply List.ext_getElem?
  intro j
  rw [List.getElem?_set]
  by_cases hj : j < n * 2
  · obtain ⟨q, h | h⟩ : ∃ q, j = 2 * q ∨ j = 2 * q + 1 := ⟨j / 2, by omega⟩
    · subst h
      rw [(rcF_get (fun j => if j = i then y else f j) g n q (by omega)).1, (rcF_get f g n q (by omega)).1]
      by_cases e : q = i
      · subst e; simp [rcF_len, hi]; omega
      · have : ¬ 2 * i = 2 * q := by omega
        simp [e, this]
    · subst h
      rw [(rcF_get (fun j => if j = i then y else f j) g n q (by omega)).2, (rcF_get f g n q (by omega)).2]
      have : ¬ 2 * i = 2 * q + 1 := by omega
      rw [if_neg this]
  · have e1 : (rcF n f g)[j]? = none := List.getElem?_eq_none (by rw [rcF_len]; omega)
    have e2 : (rcF n (fun j => if j = i then y else f j) g)[j]? = none := List.getElem?_eq_none (by rw [rcF_len]; omega)
    rw [if_neg (by omega), e1, e2]

abbrev Rh := Int × List Int
def rhN (rs : List Rh) (i : Nat) : Int := (rs.getD i (0, [])).1
def rhX (rs : List Rh) (i : Nat) : List Int := (rs.getD i (0, [])).2

/-- The value v is a slice of rhythms of the call's own; it and the rhythms' beats lie in blocks from lo on and below hi, each in one of its own. -/
def SegR (w : World) (lo hi : Nat) (v : Value) (rs : List Rh) : Prop :=
  ∃ g : Nat → Value, w.ownsRow lo 25 2 v rs.length (rcF rs.length (rhN rs) g) ∧ (∀ k, v.ownBlock = some k → k < hi) ∧
    (∀ i, i < rs.length → Seg w lo hi (g i) (rhX rs i)) ∧ (∀ i j k, i < j → j < rs.length → (g i).ownBlock = some k → (g j).ownBlock ≠ some k)

theorem typeSep {w : World} {B B' : Nat} {v u : Value} {n : Nat} {cs : List Value} {xs : List Int} (hv : w.ownsRow B 25 2 v n cs) (hu : Own w B' u xs) {k : Nat} (h : u.ownBlock = some k) : v.ownBlock ≠ some k := by
  intro hk
  rcases hv.2 with ⟨rfl, _⟩ | ⟨g, cap, cur, rfl, _, hg, _⟩
  · cases hk
  · rcases hu.2 with ⟨rfl, _⟩ | ⟨g', cap', cur', rfl, _, hg', _⟩
    · cases h
    · simp [Value.ownBlock] at hk h
      subst hk; subst h
      rw [hg] at hg'
      simp at hg'
theorem ownR_below {w w' : World} {B : Nat} {v : Value} {n : Nat} {cs : List Value} (h : w.ownsRow B 25 2 v n cs) (hb : Below w.heap.size w w') : w'.ownsRow B 25 2 v n cs := by
  refine ⟨h.1, ?_⟩
  rcases h.2 with hn | ⟨g, cap, cur, rfl, hB, hg, rest⟩
  · exact .inl hn
  · exact .inr ⟨g, cap, cur, rfl, hB, by rw [hb.block g (Array.getElem?_eq_some_iff.1 hg).1]; exact hg, rest⟩
theorem ownR_mono {w : World} {B B' : Nat} {v : Value} {n : Nat} {cs : List Value} (h : w.ownsRow B 25 2 v n cs) (hB : B' ≤ B) : w.ownsRow B' 25 2 v n cs := by
  refine ⟨h.1, ?_⟩
  rcases h.2 with hn | ⟨g, cap, cur, rfl, hB0, rest⟩
  · exact .inl hn
  · exact .inr ⟨g, cap, cur, rfl, by omega, rest⟩
theorem ownR_outside {X w1 : World} {lo hi lo' hi' : Nat} {v : Value} {n : Nat} {cs : List Value} (h : X.ownsRow lo 25 2 v n cs) (hv : ∀ k, v.ownBlock = some k → k < hi) (b : Outside lo' hi' X w1) (hd : hi ≤ lo' ∨ hi' ≤ lo) : w1.ownsRow lo 25 2 v n cs := by
  refine ⟨h.1, ?_⟩
  rcases h.2 with hn | ⟨g, cap, cur, rfl, hB, hg, rest⟩
  · exact .inl hn
  · have hlt : g < X.heap.size := (Array.getElem?_eq_some_iff.1 hg).1
    have hgh : g < hi := hv g rfl
    exact .inr ⟨g, cap, cur, rfl, hB, by rw [b.block g hlt (by omega)]; exact hg, rest⟩
theorem SegR.alloc {w : World} {lo hi : Nat} {v : Value} {rs : List Rh} (h : SegR w lo hi v rs) (o : Obj) : SegR (w.alloc o) lo hi v rs := by
  obtain ⟨g, h1, h2, h3, h4⟩ := h
  exact ⟨g, World.ownsRow.alloc h1 o, h2, fun i hi => (h3 i hi).alloc o, h4⟩
theorem SegR.drew {w : World} {lo hi : Nat} {v : Value} {rs : List Rh} (h : SegR w lo hi v rs) : SegR w.drew lo hi v rs := h
theorem SegR.drewN {w : World} {lo hi : Nat} {v : Value} {rs : List Rh} (h : SegR w lo hi v rs) (n : Nat) : SegR (w.drewN n) lo hi v rs := h
theorem SegR.after {X w1 : World} {lo hi : Nat} {v : Value} {rs : List Rh} (h : SegR X lo hi v rs) (b : Below X.heap.size X w1) : SegR w1 lo hi v rs := by
  obtain ⟨g, h1, h2, h3, h4⟩ := h
  exact ⟨g, ownR_below h1 b, h2, fun i hi => (h3 i hi).after b, h4⟩
theorem SegR.outside {X w1 : World} {lo hi lo' hi' : Nat} {v : Value} {rs : List Rh} (h : SegR X lo hi v rs) (b : Outside lo' hi' X w1) (hd : hi ≤ lo' ∨ hi' ≤ lo) : SegR w1 lo hi v rs := by
  obtain ⟨g, h1, h2, h3, h4⟩ := h
  exact ⟨g, ownR_outside h1 h2 b hd, h2, fun i hi => (h3 i hi).outside b hd, h4⟩
theorem Seg.low {w : World} {lo lo' hi hi' : Nat} {v : Value} {xs : List Int} (h : Seg w lo hi v xs) (h1 : lo' ≤ lo) (h2 : hi ≤ hi') : Seg w lo' hi' v xs := ⟨h.1.mono h1, fun k hk => Nat.lt_of_lt_of_le (h.2 k hk) h2⟩
theorem SegR.low {w : World} {lo lo' hi hi' : Nat} {v : Value} {rs : List Rh} (h : SegR w lo hi v rs) (e1 : lo' ≤ lo) (e2 : hi ≤ hi') : SegR w lo' hi' v rs := by
  obtain ⟨g, h1, h2, h3, h4⟩ := h
  exact ⟨g, ownR_mono h1 e1, fun k hk => Nat.lt_of_lt_of_le (h2 k hk) e2, fun i hi => (h3 i hi).low e1 e2, h4⟩
theorem SegR.shape {w : World} {lo hi : Nat} {v : Value} {rs : List Rh} (h : SegR w lo hi v rs) : ∃ a c, v = .slice a rs.length c := by
  obtain ⟨g, h1, _⟩ := h
  rcases h1.2 with ⟨rfl, h0⟩ | ⟨g, cap, cur, rfl, _⟩
  · exact ⟨none, 0, by rw [h0]⟩
  · exact ⟨_, _, rfl⟩
theorem SegR.nil (w : World) (lo hi : Nat) : SegR w lo hi (.slice none 0 0) [] :=
  ⟨fun _ => .slice none 0 0, World.ownsRow_nil _ _ _ _, fun k hk => (by cases hk), fun i hi => absurd hi (Nat.not_lt_zero _), fun i j k hij hj => absurd hj (Nat.not_lt_zero _)⟩
theorem SegR.lit (w : World) {lo hi : Nat} (h1 : lo ≤ w.heap.size) (h2 : w.heap.size < hi) : SegR (w.alloc (.cells #[] 25)) lo hi (.slice (some ⟨w.heap.size, 0, none⟩) 0 0) [] :=
  ⟨fun _ => .slice none 0 0, World.ownsRow_lit w #[] 0 h1 (Nat.zero_le _) rfl, fun k hk => (by simp [Value.ownBlock] at hk; omega), fun i hi => absurd hi (Nat.not_lt_zero _), fun i j k hij hj => absurd hj (Nat.not_lt_zero _)⟩
/-- What a function that makes a slice of rhythms leaves. -/
def RetSegR (w : World) (rs : List Rh) (e : Ending) (w' : World) : Prop :=
  ∃ a c, e = .returned (.slice a rs.length c) ∧ SegR w' w.heap.size w'.heap.size (.slice a rs.length c) rs ∧ Below w.heap.size w w'
theorem RetSegR.mk {w w' : World} {rs : List Rh} {e : Ending} {v : Value} (he : e = .returned v) (ho : SegR w' w.heap.size w'.heap.size v rs) (hb : Below w.heap.size w w') : RetSegR w rs e w' := by
  obtain ⟨a, c, rfl⟩ := ho.shape
  exact ⟨a, c, he, ho, hb⟩
theorem rhN_snoc (rs : List Rh) (n : Int) (x : List Int) : rhN (rs ++ [(n, x)]) rs.length = n := by simp [rhN, List.getD_eq_getElem?_getD]
theorem rhX_snoc (rs : List Rh) (n : Int) (x : List Int) : rhX (rs ++ [(n, x)]) rs.length = x := by simp [rhX, List.getD_eq_getElem?_getD]
theorem rhN_old (rs : List Rh) (p : Rh) {i : Nat} (h : i < rs.length) : rhN (rs ++ [p]) i = rhN rs i := by simp [rhN, List.getD_eq_getElem?_getD, List.getElem?_append_left h]
theorem rhX_old (rs : List Rh) (p : Rh) {i : Nat} (h : i < rs.length) : rhX (rs ++ [p]) i = rhX rs i := by simp [rhX, List.getD_eq_getElem?_getD, List.getElem?_append_left h]
theorem infoRh : (Try.prog.info? 25).map (fun i => (i.zero, i.size, i.bytes)) = some (some (.agg #[.int .i64 0, .slice none 0 0]), 2, 32) := by kernel_rfl
def snocF (g : Nat → Value) (k : Nat) (u : Value) (i : Nat) : Value := if i = k then u else g i
theorem snocF_at (g : Nat → Value) (k : Nat) (u : Value) : snocF g k u k = u := if_pos rfl
theorem snocF_old (g : Nat → Value) (u : Value) {k i : Nat} (h : i ≠ k) : snocF g k u i = g i := if_neg h
/-- One rhythm more, whose beats lie behind all of them. -/
theorem SegR.snoc {X w w' : World} {lo hi : Nat} {a0 : Option Addr} {c0 : Nat} {rs : List Rh} (h : SegR w lo hi (.slice a0 rs.length c0) rs) {n : Int} {u : Value} {x : List Int} (hu : Seg w hi w.heap.size u x) {v' : Value} (hlo : lo ≤ hi) (hhi : hi ≤ w.heap.size)
    (h1 : ∀ g : Nat → Value, w.ownsRow lo 25 2 (.slice a0 rs.length c0) rs.length (rcF rs.length (rhN rs) g) → w'.ownsRow lo 25 2 v' (rs.length + 1) (rcF rs.length (rhN rs) g ++ [.int .i64 n, u]))
    (h2 : w.grownBy w' (Value.slice a0 rs.length c0).ownBlock) : SegR w' lo w'.heap.size v' (rs ++ [(n, x)]) := by
  obtain ⟨g, o1, o2, o3, o4⟩ := h
  have o5 := h1 g o1
  have keep : ∀ {lo' hi' : Nat} {y : Value} {xs : List Int}, Seg w lo' hi' y xs → Seg w' lo' w'.heap.size y xs := fun {lo' hi' y xs} hs => by
    have : Own w' lo' y xs := by
      refine World.ownsRow.kept hs.1 h2 ?_
      cases hb : y.ownBlock with
      | none => exact .inl rfl
      | some k => exact .inr fun e => typeSep o1 hs.1 hb e.symm
    exact ⟨this, fun k hk => (this.lt k hk).2⟩
  refine ⟨snocF g rs.length u, ?_, fun k hk => (World.ownsRow.lt o5 k hk).2, ?_, ?_⟩
  · rw [List.length_append, List.length_singleton, rcF_succ]
    rw [snocF_at, rhN_snoc, rcF_congr (f' := rhN rs) (g' := g) (fun i hi => rhN_old rs _ hi) (fun i hi => snocF_old _ _ (by omega))]
    exact o5
  · intro i hi
    rw [List.length_append, List.length_singleton] at hi
    by_cases e : i = rs.length
    · subst e
      rw [snocF_at, rhX_snoc]
      exact (keep hu).low hlo (Nat.le_refl _)
    · rw [snocF_old _ _ e, rhX_old _ _ (by omega)]
      exact keep (o3 i (by omega))
  · intro i j k hij hj hk
    rw [List.length_append, List.length_singleton] at hj
    by_cases e : j = rs.length
    · subst e
      rw [snocF_at]
      rw [snocF_old _ _ (by omega)] at hk
      have h5 := (o3 i (by omega)).2 k hk
      intro h6
      have := (hu.1.lt k h6).1
      omega
    · rw [snocF_old _ _ (by omega)] at hk
      rw [snocF_old _ _ e]
      exact o4 i j k hij (by omega) hk

/-- append(out, r), r laid in a new block first; r's beats lie behind all that out holds. -/
theorem wpAppRh {wr : World} {ops : Array Oper} {rest : List Oper} {o : Oper} {a : Act} {Q : Exit → Act → World → Prop} (hgd : o.guard = none) (s x : Operand)
    (ho : o.op = .call { callee := .builtin .append, args := #[s, x], argTypes := #[32, 32] })
    (lo hi : Nat) (a0 : Option Addr) (n c0 : Nat) (rs : List Rh) (m : Int) (u : Value) (y : List Int) (hs : a.eval s = .slice a0 n c0) (hx : a.eval x = .slice (some ⟨wr.heap.size, 0, none⟩) 1 1)
    (hseg : SegR wr lo hi (.slice a0 n c0) rs) (hu : Seg wr hi wr.heap.size u y) (h1c : u.oneCell' = true) (hn : rs.length = n) (hlen : n ≤ 1099511627776) (hlo : lo ≤ hi) (hhi : hi ≤ wr.heap.size)
    (h : ∀ a' c' w', SegR w' lo w'.heap.size (.slice a' (n + 1) c') (rs ++ [(m, y)]) → Below lo wr w' → wpList Try.prog ops Q rest (a.put o.dst (.slice a' (n + 1) c')) w') : wpList Try.prog ops Q (o :: rest) a (wr.alloc (.cells #[.int .i64 m, u] 25)) := by
  subst hn
  obtain ⟨i0, hi0, hz0, hz1, hz2⟩ := info_parts infoRh
  have hseg2 := hseg.alloc (.cells #[.int .i64 m, u] 25)
  have hu2 : Seg (wr.alloc (.cells #[.int .i64 m, u] 25)) hi (wr.alloc (.cells #[.int .i64 m, u] 25)).heap.size u y := ⟨hu.1.alloc _, fun k hk => by have := hu.2 k hk; simp; omega⟩
  have hseg3 := hseg2
  obtain ⟨g, o1, o2, o3, o4⟩ := hseg3
  refine wpList_append_own _ hgd s x 32 ho lo 25 i0 (.agg #[.int .i64 0, .slice none 0 0]) 2 32 Try.underlying32 hi0 hz0 hz1 hz2 rfl (by decide) _ _ _ hs o1 ⟨wr.heap.size, 0, none⟩ 1 1 [.int .i64 m, u] hx rfl ?_ ?_ ?_ ?_ ?_ ?_
  · intro j z hj
    match j, hj with
    | 0, hj => simp at hj; subst hj; simp [Addr.add]
    | 1, hj => simp at hj; subst hj; simp [Addr.add]
  · intro z hz; simp at hz; rcases hz with rfl | rfl
    · rfl
    · exact h1c
  · unfold maxLen; omega
  · omega
  · simp; omega
  · intro v' w' h1 h2 _
    have h3 : SegR w' lo w'.heap.size v' (rs ++ [(m, y)]) := by
      obtain ⟨g', p1, p2, p3, p4⟩ := hseg2
      have h4 := hu2
      refine SegR.snoc (X := wr) ⟨g, o1, o2, o3, o4⟩ h4 hlo (by simp; omega) (fun g'' o1' => ?_) h2
      have e : rcF rs.length (rhN rs) g'' = rcF rs.length (rhN rs) g := by
        rcases o1'.2 with ⟨q1, q2⟩ | ⟨b, cap, cur, q1, _, q3, q4, q5, q6, q7⟩
        · rw [q2]; rfl
        · rcases o1.2 with ⟨r1, r2⟩ | ⟨b', cap', cur', r1, _, r3, r4, r5, r6, r7⟩
          · rw [r1] at q1; cases q1
          · rw [r1] at q1
            cases q1
            rw [r3] at q3
            have : cur' = cur := by simpa using q3
            subst this
            rw [← q7, ← r7]
      rw [e]; exact h1
    obtain ⟨a', c', hv'⟩ := h3.shape
    rw [List.length_append] at hv'
    rw [hv'] at h3 ⊢
    exact h a' c' w' h3 (((Below.refl _ _).alloc (by omega) _).grown h2 (by simp; omega) (fun k hk => by
      have := World.ownsRow.lt o1 k hk; omega))
end Go.Proofs.Ytopfenhphnmfkaa
