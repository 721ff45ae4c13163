/-
  The laws' comparison, marking and look at the marks of slices of rhythms.
  Conditions: lengths and marks are below two to the thirtieth.
-/
import Derived.Test.YtopfenhphnmfkaaR1
import Derived.Deep.RegionHeld3
import Derived.Deep.RegionWith
set_option linter.unusedVariables false
set_option linter.unusedSimpArgs false
namespace Go.Proofs.Ytopfenhphnmfkaa
open Go.RowKit

theorem SegR.open {w : World} {lo hi : Nat} {v : Value} {rs : List Rh} (h : SegR w lo hi v rs) :
    (rs = [] ∧ v = .slice none 0 0) ∨ ∃ b cap g, v = .slice (some ⟨b, 0, none⟩) rs.length cap ∧ lo ≤ b ∧ b < hi ∧ b < w.heap.size ∧ rs.length ≤ 9223372036854775807 ∧
      w.ownsRow lo 25 2 (.slice (some ⟨b, 0, none⟩) rs.length cap) rs.length (rcF rs.length (rhN rs) g) ∧
      (∀ i, i < rs.length → Seg w lo hi (g i) (rhX rs i)) ∧ (∀ i j k, i < j → j < rs.length → (g i).ownBlock = some k → (g j).ownBlock ≠ some k) := by
  obtain ⟨g, h1, h2, h3, h4⟩ := h
  have h1' := h1
  rcases h1.2 with ⟨rfl, h0⟩ | ⟨b, cap, cur, rfl, hB, hg, hl, hm, hs, ht⟩
  · exact .inl ⟨List.eq_nil_of_length_eq_zero h0, rfl⟩
  · unfold maxLen at hm
    exact .inr ⟨b, cap, g, rfl, hB, h2 b rfl, (Array.getElem?_eq_some_iff.1 hg).1, by omega, h1', h3, h4⟩
theorem rowCells {w : World} {lo b n cap : Nat} {f : Nat → Int} {g : Nat → Value} (h : w.ownsRow lo 25 2 (.slice (some ⟨b, 0, none⟩) n cap) n (rcF n f g)) {i : Nat} (hi : i < n) :
    w.cell? ⟨b, i * 2, none⟩ = some (.int .i64 (f i)) ∧ w.cell? ⟨b, i * 2 + 1, none⟩ = some (g i) := by
  have e := rcF_get f g n i hi
  rw [World.ownsRow.cellAt h (i * 2) (by omega), World.ownsRow.cellAt h (i * 2 + 1) (by omega), show i * 2 = 2 * i by omega]
  exact e

set_option maxRecDepth 20000 in
set_option maxHeartbeats 1600000 in
theorem lawEqRhythmS (u v : Value) (rs ts : List Rh) (w : World) (lo hi lo' hi' : Nat) (he : rs = ts) (hu : SegR w lo hi u rs) (hv : SegR w lo' hi' v ts) :
    Calls Try.prog 39 #[u, v] w fun e w' => e = .returned (.bool true) ∧ Below w.heap.size w w' := by
  subst he
  rcases hu.open with ⟨rfl, rfl⟩ | ⟨b, cap, g, rfl, hlo, hhi, hb, hm, ho, hseg, -⟩
  · obtain ⟨a, c, rfl⟩ := hv.shape
    go_enter Try.func39, Try.ntmps39
    go_wp2
    refine wp_loop_rounds 1 ?_; rw [rounds_succ]
    go_wp2
    go_ret
    exact ⟨rfl, Below.refl _ _⟩
  · rcases hv.open with ⟨rfl, rfl⟩ | ⟨b', cap', g', rfl, hlo', hhi', hb', hm', ho', hseg', -⟩
    · go_enter Try.func39, Try.ntmps39
      go_wp2
      refine wp_loop_rounds 1 ?_; rw [rounds_succ]
      go_wp2
      go_ret
      exact ⟨rfl, Below.refl _ _⟩
    · have HO := Lib.hid ho
      have HO' := Lib.hid ho'
      have HS := Lib.hid hseg
      have HS' := Lib.hid hseg'
      clear hu hv ho ho' hseg hseg'
      go_enter Try.func39, Try.ntmps39
      go_wp2
      go_loopw [5] (fun i wr => ∃ j : Nat, j ≤ rs.length ∧ i = .int .i64 j ∧ Below w.heap.size w wr) (fun i _ => rs.length - (intOf i).toNat)
      case atStart => exact ⟨0, Nat.zero_le _, rfl, Below.refl _ _⟩
      case round =>
        obtain ⟨j, hj, rfl, hbel⟩ := hrel
        have HB := Lib.hid hbel
        clear hbel
        by_cases hlt : j < rs.length
        · have ⟨c0, c1⟩ := rowCells HO.out hlt
          have ⟨d0, d1⟩ := rowCells HO'.out hlt
          have p0 := ((bcell HB.out).1 _ _ hb).trans c0
          have p1 := ((bcell HB.out).1 _ _ hb).trans c1
          have q0 := ((bcell HB.out).1 _ _ hb').trans d0
          have q1 := ((bcell HB.out).1 _ _ hb').trans d1
          obtain ⟨a1, k1, s1⟩ := (HS.out j hlt).1.shape
          obtain ⟨a2, k2, s2⟩ := (HS'.out j hlt).1.shape
          rw [s1] at p1
          rw [s2] at q1
          have I1 : Hid (Ints wr wr.heap.size (.slice a1 (rhX rs j).length k1) (rhX rs j)) := by
            have := (HS.out j hlt).1.ints.ofBelow HB.out
            rw [s1] at this; exact this
          have I2 : Hid (Ints wr wr.heap.size (.slice a2 (rhX rs j).length k2) (rhX rs j)) := by
            have := (HS'.out j hlt).1.ints.ofBelow HB.out
            rw [s2] at this; exact this
          clear c0 c1 d0 d1 s1 s2
          generalize rhN rs j = M at *
          generalize rhX rs j = X at *
          go_wp2_with fail
          go_region_held3 (fun w' => w'.cell? ⟨b, j * 2, none⟩ = some (.int .i64 M) ∧ w'.cell? ⟨b, j * 2 + 1, none⟩ = some (.slice a1 X.length k1) ∧ w'.cell? ⟨b', j * 2, none⟩ = some (.int .i64 M) ∧ w'.cell? ⟨b', j * 2 + 1, none⟩ = some (.slice a2 X.length k2)) (first | exact ⟨p0, p1, q0, q1⟩) (first | (go_at_call 32; refine withWorld fun Y hY => ?_; have gB : Below wr.heap.size wr Y := (by rw [hY]; repeat (first | (with_reducible exact (Below.refl _ _)) | (with_reducible refine bel_alloc ?_ _) | (with_reducible refine Below.drew ?_) | (with_reducible refine bel_drewN ?_ _))); clear hY; refine (lawEqRhythm _ _ _ _ X X _ (I1.out.ofBelow gB) (I2.out.ofBelow gB)).mono ?_; rintro e w1 ⟨rfl, hbel⟩; have b1 := bel_step gB hbel gB.size; have p0 := cellAfter b1 p0; have p1 := cellAfter b1 p1; have q0 := cellAfter b1 q0; have q1 := cellAfter b1 q1; have HB2 := Lib.hid (HB.out.trans (b1.mono HB.out.size)); clear hbel gB b1; rw [eqR_self]))
          all_goals
            go_wp2
            go_roundw
            case rel => exact ⟨j + 1, by omega, by go_num, by first | exact HB2.out | exact bel_drewN HB2.out _⟩
            case measure => simp [intOf]; omega
        · go_wp2
          go_ret
          exact ⟨rfl, HB.out⟩

/-! ### marks -/
def mkAt (k : Int) (rs : List Rh) : Nat → Int
  | 0 => k
  | i + 1 => mkAt k rs i + 1 + ((rhX rs i).length : Int)
def mkX (k : Int) (rs : List Rh) (i : Nat) : List Int := marks (mkAt k rs i + 1) (rhX rs i).length
def markR (k : Int) (rs : List Rh) : List Rh := (List.range rs.length).map fun i => (mkAt k rs i, mkX k rs i)
theorem markR_len (k : Int) (rs : List Rh) : (markR k rs).length = rs.length := by simp [markR]
theorem markR_N (k : Int) (rs : List Rh) {i : Nat} (h : i < rs.length) : rhN (markR k rs) i = mkAt k rs i := by
  simp [rhN, markR, List.getD_eq_getElem?_getD, h]
theorem markR_X (k : Int) (rs : List Rh) {i : Nat} (h : i < rs.length) : rhX (markR k rs) i = mkX k rs i := by
  simp [rhX, markR, List.getD_eq_getElem?_getD, h]
theorem mkAt_bd {k : Int} {rs : List Rh} (hx : ∀ i, i < rs.length → (rhX rs i).length ≤ 24) : ∀ i, i ≤ rs.length → k + i ≤ mkAt k rs i ∧ mkAt k rs i ≤ k + 25 * (i : Int)
  | 0, _ => by simp [mkAt]
  | i + 1, h => by
    have := mkAt_bd (k := k) hx i (by omega)
    have := hx i (by omega)
    simp only [mkAt]; omega
def fN (k : Int) (rs : List Rh) (j i : Nat) : Int := if i < j then mkAt k rs i else rhN rs i
def fX (k : Int) (rs : List Rh) (j i : Nat) : List Int := if i < j then mkX k rs i else rhX rs i
theorem fX_at (k : Int) (rs : List Rh) (j : Nat) : fX k rs j j = rhX rs j := if_neg (Nat.lt_irrefl _)
theorem fX_next (k : Int) (rs : List Rh) (j : Nat) : fX k rs (j + 1) j = mkX k rs j := if_pos (Nat.lt_succ_self _)
theorem fX_other (k : Int) (rs : List Rh) {j i : Nat} (h : i ≠ j) : fX k rs (j + 1) i = fX k rs j i := by
  unfold fX
  by_cases e : i < j
  · rw [if_pos e, if_pos (by omega)]
  · rw [if_neg e, if_neg (by omega)]
theorem rcF_mark (k : Int) (rs : List Rh) (g : Nat → Value) {j : Nat} (hj : j < rs.length) : (rcF rs.length (fN k rs j) g).set (j * 2) (.int .i64 (mkAt k rs j)) = rcF rs.length (fN k rs (j + 1)) g := by
  rw [Nat.mul_comm j 2, rcF_set _ _ _ _ hj]
  refine rcF_congr (fun i hi => ?_) fun _ _ => rfl
  unfold fN
  by_cases e : i = j
  · subst e; rw [if_pos rfl, if_pos (by omega)]
  · rw [if_neg e]
    by_cases e2 : i < j
    · rw [if_pos e2, if_pos (by omega)]
    · rw [if_neg e2, if_neg (by omega)]
/-- A segment lies in a block of its own. -/
theorem Seg.tight {w : World} {lo hi : Nat} {u : Value} {xs : List Int} (h : Seg w lo hi u xs) (hlh : lo ≤ hi) : ∃ l m, lo ≤ l ∧ m ≤ hi ∧ Seg w l m u xs ∧ ∀ k, l ≤ k → k < m → u.ownBlock = some k := by
  rcases h.1.open with ⟨rfl, rfl⟩ | ⟨b, cap, rfl, hB, hb, hm⟩
  · exact ⟨lo, lo, Nat.le_refl _, hlh, ⟨h.1, fun k hk => by cases hk⟩, fun k h1 h2 => by omega⟩
  · refine ⟨b, b + 1, hB, h.2 b rfl, ⟨?_, fun k hk => by simp [Value.ownBlock] at hk; omega⟩, fun k h1 h2 => by simp [Value.ownBlock]; omega⟩
    refine ⟨h.1.1, ?_⟩
    rcases h.1.2 with ⟨hn, _⟩ | ⟨g, cap', cur, hv, hB', rest⟩
    · cases hn
    · cases hv
      exact .inr ⟨b, cap, cur, rfl, Nat.le_refl _, rest⟩
theorem Seg.apart {X w1 : World} {lo hi l m : Nat} {v : Value} {xs : List Int} (h : Seg X lo hi v xs) (b : Outside l m X w1) (hd : ∀ k, v.ownBlock = some k → k < l ∨ m ≤ k) : Seg w1 lo hi v xs := by
  refine ⟨⟨h.1.1, ?_⟩, h.2⟩
  rcases h.1.2 with hn | ⟨g, cap, cur, hv, hB, hg, rest⟩
  · exact .inl hn
  · have hlt : g < X.heap.size := (Array.getElem?_eq_some_iff.1 hg).1
    exact .inr ⟨g, cap, cur, hv, hB, by rw [b.block g hlt (hd g (by rw [hv]; rfl))]; exact hg, rest⟩
theorem rowApart {X w1 : World} {lo l m : Nat} {v : Value} {n : Nat} {cs : List Value} (h : X.ownsRow lo 25 2 v n cs) (b : Outside l m X w1) (hd : ∀ k, v.ownBlock = some k → k < l ∨ m ≤ k) : w1.ownsRow lo 25 2 v n cs := by
  refine ⟨h.1, ?_⟩
  rcases h.2 with hn | ⟨g, cap, cur, rfl, hB, hg, rest⟩
  · exact .inl hn
  · have hlt : g < X.heap.size := (Array.getElem?_eq_some_iff.1 hg).1
    exact .inr ⟨g, cap, cur, rfl, hB, by rw [b.block g hlt (hd g rfl)]; exact hg, rest⟩
theorem Seg.setc {w : World} {lo hi : Nat} {v : Value} {xs : List Int} (h : Seg w lo hi v xs) {a : Addr} (ha : v.ownBlock ≠ some a.block) (u : Value) : Seg (w.setCell a u) lo hi v xs := by
  refine ⟨⟨h.1.1, ?_⟩, h.2⟩
  rcases h.1.2 with hn | ⟨g, cap, cur, hv, hB, hg, rest⟩
  · exact .inl hn
  · refine .inr ⟨g, cap, cur, hv, hB, ?_, rest⟩
    rw [Below.heap_setCell _ _ _ _ (fun e => ha (by rw [hv, ← e]; rfl))]; exact hg
theorem Outside.refl (lo hi : Nat) (w : World) : Outside lo hi w w := ⟨rfl, rfl, rfl, Nat.le_refl _, fun _ _ _ => rfl⟩
theorem Outside.setc {lo hi : Nat} {w X : World} (h : Outside lo hi w X) {a : Addr} (h1 : lo ≤ a.block) (h2 : a.block < hi) (u : Value) : Outside lo hi w (X.setCell a u) :=
  ⟨h.os, h.tape, h.output, by simpa [World.setCell] using h.size, fun b hb1 hb2 => by rw [Below.heap_setCell _ _ _ _ (show b ≠ a.block by omega)]; exact h.block b hb1 hb2⟩
theorem Outside.trans {lo hi l m : Nat} {w X Y : World} (h : Outside lo hi w X) (h' : Outside l m X Y) (h1 : lo ≤ l) (h2 : m ≤ hi) : Outside lo hi w Y :=
  ⟨h'.os.trans h.os, h'.tape.trans h.tape, h'.output.trans h.output, Nat.le_trans h.size h'.size, fun b hb1 hb2 => (h'.block b (Nat.lt_of_lt_of_le hb1 h.size) (by omega)).trans (h.block b hb1 hb2)⟩

set_option maxRecDepth 20000 in
set_option maxHeartbeats 1600000 in
theorem lawMarkRhythmS (v : Value) (rs : List Rh) (k : Int) (w : World) (lo hi : Nat) (hl : rs.length ≤ 1048576) (hx : ∀ i, i < rs.length → (rhX rs i).length ≤ 24) (h0 : 0 ≤ k) (h1 : k ≤ 1048576) (hv : SegR w lo hi v rs) :
    Calls Try.prog 40 #[v, .int .i64 k] w fun e w' => e = .returned (.int .i64 (mkAt k rs rs.length)) ∧ SegR w' lo hi v (markR k rs) ∧ Outside lo hi w w' := by
  rcases hv.open with ⟨rfl, rfl⟩ | ⟨b, cap, g, rfl, hlo, hhi, hb, hm, ho, hseg, hdis⟩
  · go_enter Try.func40, Try.ntmps40
    go_wp2
    refine wp_loop_rounds 1 ?_; rw [rounds_succ]
    go_wp2
    go_ret
    exact ⟨rfl, hv, Outside.refl _ _ _⟩
  · have HD := Lib.hid hdis
    have HX := Lib.hid hx
    have HK := Lib.hid (fun i => mkAt_bd (k := k) hx i)
    clear hv hdis hx
    go_enter Try.func40, Try.ntmps40
    go_wp2
    go_loopw [1, 5] (fun q i wr => ∃ j : Nat, j ≤ rs.length ∧ i = .int .i64 j ∧ q = .int .i64 (mkAt k rs j) ∧ wr.ownsRow lo 25 2 (.slice (some ⟨b, 0, none⟩) rs.length cap) rs.length (rcF rs.length (fN k rs j) g) ∧ (∀ i, i < rs.length → Seg wr lo hi (g i) (fX k rs j i)) ∧ Outside lo hi w wr) (fun _ i _ => rs.length - (intOf i).toNat)
    case atStart => exact ⟨0, Nat.zero_le _, rfl, rfl, by rw [rcF_congr (f := fN k rs 0) (f' := rhN rs) (g' := g) (fun i hi => if_neg (Nat.not_lt_zero _)) (fun _ _ => rfl)]; exact ho, fun i hi => by unfold fX; rw [if_neg (Nat.not_lt_zero _)]; exact hseg i hi, Outside.refl _ _ _⟩
    case round =>
      obtain ⟨j, hj, rfl, rfl, hown, hsg, hout⟩ := hrel
      have hk := HK.out j hj
      by_cases hlt : j < rs.length
      · have hxl := HX.out j hlt
        have ⟨c0, c1⟩ := rowCells hown hlt
        have hf : wr.frozen? ⟨b, j * 2, none⟩ = false := World.ownsRow.frozenAt hown _
        have hst := (World.ownsRow.stored hown (j * 2) (.int .i64 (mkAt k rs j))).1
        rw [rcF_mark k rs g hlt] at hst
        have hsep : ∀ i, i < rs.length → (g i).ownBlock ≠ some b := fun i hi e => typeSep hown (hsg i hi).1 e rfl
        have hsg2 : ∀ i, i < rs.length → Seg (wr.setCell ⟨b, j * 2, none⟩ (.int .i64 (mkAt k rs j))) lo hi (g i) (fX k rs j i) := fun i hi => (hsg i hi).setc (hsep i hi) _
        have hout2 : Outside lo hi w (wr.setCell ⟨b, j * 2, none⟩ (.int .i64 (mkAt k rs j))) := hout.setc hlo hhi _
        have HT := Lib.hid hst
        have HG := Lib.hid hsg2
        have HU := Lib.hid hout2
        have HP := Lib.hid hsep
        have c1' : (wr.setCell ⟨b, j * 2, none⟩ (.int .i64 (mkAt k rs j))).cell? ⟨b, j * 2 + 1, none⟩ = some (g j) := (rowCells HT.out hlt).2
        clear hown hsg hout hst hsg2 hout2 hsep c1
        obtain ⟨l, m, hl1, hm1, hts, hob⟩ := (HG.out j hlt).tight (by omega)
        have HOB := Lib.hid hob
        obtain ⟨a1, k1, s1⟩ := (HG.out j hlt).1.shape
        rw [fX_at] at s1 hts
        have HS1 := Lib.hid s1
        rw [s1] at c1' hts
        have HTS := Lib.hid hts
        clear s1 hts hob
        have HMX : Hid (mkX k rs j = marks (mkAt k rs j + 1) (rhX rs j).length) := rfl
        have HNX : Hid (mkAt k rs (j + 1) = mkAt k rs j + 1 + ((rhX rs j).length : Int)) := rfl
        generalize hA : mkAt k rs j = A at *
        clear hA
        go_wp2_with fail
        refine (lawMarkIntS2 _ (rhX rs j) _ _ l m (by omega) (by omega) (by omega) HTS.out).mono ?_
        rintro e w1 ⟨rfl, hs1, ho1⟩
        have R1 : Hid (w1.ownsRow lo 25 2 (.slice (some ⟨b, 0, none⟩) rs.length cap) rs.length (rcF rs.length (fN k rs (j + 1)) g)) := by
          refine rowApart HT.out ho1 fun q hq => ?_
          simp [Value.ownBlock] at hq
          subst hq
          by_cases h2 : l ≤ b ∧ b < m
          · exact absurd (HOB.out b h2.1 h2.2) (HP.out j hlt)
          · omega
        have R2 : Hid (∀ i, i < rs.length → Seg w1 lo hi (g i) (fX k rs (j + 1) i)) := fun i hi' => by
          by_cases e : i = j
          · subst e
            rw [fX_next, HS1.out, HMX.out]
            exact hs1.low hl1 hm1
          · rw [fX_other _ _ e]
            refine (HG.out i hi').apart ho1 fun q hq => ?_
            by_cases h2 : l ≤ q ∧ q < m
            · have h3 := HOB.out q h2.1 h2.2
              rcases Nat.lt_or_gt_of_ne e with h4 | h4
              · exact absurd h3 (HD.out i j q h4 hlt hq)
              · exact absurd hq (HD.out j i q h4 hi' h3)
            · omega
        have R3 := Lib.hid (HU.out.trans ho1 hl1 hm1)
        clear hs1 ho1
        go_wp2
        go_roundw
        case rel => exact ⟨j + 1, by omega, by go_num, by rw [HNX.out], R1.out, R2.out, R3.out⟩
        case measure => simp [intOf]; omega
      · have e : j = rs.length := by omega
        subst e
        have R1 := Lib.hid hown
        have R2 := Lib.hid hsg
        have R3 := Lib.hid hout
        clear hown hsg hout
        go_wp2
        go_ret
        refine ⟨rfl, ⟨g, ?_, fun q hq => by simp [Value.ownBlock] at hq; omega, ?_, ?_⟩, R3.out⟩
        · rw [markR_len, rcF_congr (f' := fN k rs rs.length) (g' := g) (fun i hi => by rw [markR_N _ _ hi]; unfold fN; rw [if_pos hi]) (fun _ _ => rfl)]
          exact R1.out
        · intro i hi'
          rw [markR_len] at hi'
          rw [markR_X _ _ hi']
          have := R2.out i hi'
          unfold fX at this
          rwa [if_pos hi'] at this
        · rw [markR_len]; exact HD.out

set_option maxRecDepth 20000 in
set_option maxHeartbeats 1600000 in
theorem lawHeldRhythmS (v : Value) (rs ts : List Rh) (k : Int) (w : World) (lo hi : Nat) (he : ts = markR k rs) (hl : rs.length ≤ 1048576) (hx : ∀ i, i < rs.length → (rhX rs i).length ≤ 24) (h0 : 0 ≤ k) (h1 : k ≤ 1048576) (hv : SegR w lo hi v ts) :
    Calls Try.prog 41 #[v, .int .i64 k] w fun e w' => e = .returned (.int .i64 (mkAt k rs rs.length)) ∧ Below w.heap.size w w' := by
  subst he
  have hlen := markR_len k rs
  rcases hv.open with ⟨hn, rfl⟩ | ⟨b, cap, g, rfl, hlo, hhi, hb, hm, ho, hseg, hdis⟩
  · have h00 : rs.length = 0 := by rw [hn] at hlen; simpa using hlen.symm
    have hf : mkAt k rs rs.length = k := by rw [h00]; rfl
    have HF := Lib.hid hf
    clear hf hlen hn hv h00
    go_enter Try.func41, Try.ntmps41
    go_wp2
    refine wp_loop_rounds 1 ?_; rw [rounds_succ]
    go_wp2
    go_ret
    exact ⟨ret_int HF.out.symm, Below.refl _ _⟩
  · rw [hlen] at ho hm
    have HX := Lib.hid hx
    have HK := Lib.hid (fun i => mkAt_bd (k := k) hx i)
    have HO := Lib.hid ho
    have HG : Hid (∀ i, i < rs.length → Seg w lo hi (g i) (mkX k rs i)) := fun i hi' => by have := hseg i (by rw [hlen]; exact hi'); rwa [markR_X _ _ hi'] at this
    clear hv hdis hx ho hseg
    rw [hlen]
    clear hlen
    go_enter Try.func41, Try.ntmps41
    go_wp2
    go_loopw [1, 5] (fun q i wr => ∃ j : Nat, j ≤ rs.length ∧ i = .int .i64 j ∧ q = .int .i64 (mkAt k rs j) ∧ wr = w) (fun _ i _ => rs.length - (intOf i).toNat)
    case atStart => exact ⟨0, Nat.zero_le _, rfl, rfl, by first | rfl | trivial⟩
    case round =>
      obtain ⟨j, hj, rfl, rfl, rfl⟩ := hrel
      have hk := HK.out j hj
      by_cases hlt : j < rs.length
      · have hxl := HX.out j hlt
        have ⟨c0, c1⟩ := rowCells HO.out hlt
        rw [markR_N _ _ hlt] at c0
        obtain ⟨a1, k1, s1⟩ := (HG.out j hlt).1.shape
        have hI := (HG.out j hlt).1.ints
        rw [s1] at c1 hI
        have hml : (mkX k rs j).length = (rhX rs j).length := marks_len _ _
        have hHe : heldOf (mkX k rs j) (mkAt k rs j + 1) = mkAt k rs (j + 1) := heldOf_marks _ _
        have HHe := Lib.hid hHe
        have HI := Lib.hid hI
        have hk2 := HK.out (j + 1) (by omega)
        clear s1 hI hHe
        rw [hml] at c1 HI
        generalize hA : mkAt k rs j = A at *
        generalize hA2 : mkAt k rs (j + 1) = A2 at *
        clear hA
        have HA2 := Lib.hid hA2
        clear hA2
        have hne : (A != A) = false := by simp
        have h2 : ¬ A2 < 0 := by omega
        go_wp2_with (go_at_call 35; refine (lawHeldIntS _ (mkX k rs j) _ _ _ (by rw [hml]; omega) (by omega) (by omega) HI.out).mono ?_; rintro e w1 ⟨rfl, rfl⟩; rw [HHe.out])
        go_roundw
        case rel => exact ⟨j + 1, by omega, by go_num, by rw [HA2.out], by first | rfl | trivial⟩
        case measure => simp [intOf]; omega
      · have e : j = rs.length := by omega
        subst e
        go_wp2
        go_ret
        exact ⟨rfl, Below.refl _ _⟩
end Go.Proofs.Ytopfenhphnmfkaa
