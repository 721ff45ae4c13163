/-
  Append of one text to a slice of texts, and the laws' text of a mark.
  Conditions: lengths are below two to the fortieth.
-/
import Derived.Test.YtcgpmdfcdngnlaaDoorZ6
set_option linter.unusedVariables false
set_option linter.unusedSimpArgs false
namespace Go.Proofs.YtcgpmdfcdngnlaaDoor
open Go.RowKit

/-- append(v, y), y laid in a new block of one cell first. -/
theorem wpAppStr {wr : World} {ops : Array Oper} {rest : List Oper} {o : Oper} {a : Act} {Q : Exit → Act → World → Prop} (hgd : o.guard = none) (s x : Operand)
    (ho : o.op = .call { callee := .builtin .append, args := #[s, x], argTypes := #[24, 24] })
    (B : Nat) (a0 : Option Addr) (n c0 : Nat) (xs : List ByteArray) (y : ByteArray) (hs : a.eval s = .slice a0 n c0) (hx : a.eval x = .slice (some ⟨wr.heap.size, 0, none⟩) 1 1)
    (hown : OwnS wr B (.slice a0 n c0) xs) (hn : xs.length = n) (hlen : n ≤ 1099511627776) (hbase : B ≤ wr.heap.size)
    (h : ∀ a' c' w', OwnS w' B (.slice a' (n + 1) c') (xs ++ [y]) → Below B wr w' → wpList Tryd.prog ops Q rest (a.put o.dst (.slice a' (n + 1) c')) w') : wpList Tryd.prog ops Q (o :: rest) a (wr.alloc (.cells #[.string y] 9)) := by
  subst hn
  obtain ⟨i0, hi, hz0, hz1, hz2⟩ := info_parts infoStr
  refine wpList_append_own _ hgd s x 24 ho B 9 i0 (.string ByteArray.empty) 1 16 Tryd.underlying24 hi hz0 hz1 hz2 rfl (by decide) _ _ _ hs (World.ownsRow.alloc hown _) ⟨wr.heap.size, 0, none⟩ 1 1 [.string y] hx rfl ?_ ?_ ?_ ?_ ?_ ?_
  · intro j u hj
    match j, hj with
    | 0, hj => simp at hj; subst hj; simp [Addr.add]
  · intro u hu; simp at hu; subst hu; rfl
  · unfold maxLen; omega
  · omega
  · simp; omega
  · intro v' w' h1 h2 _
    have h3 : OwnS w' B v' (xs ++ [y]) := by unfold OwnS; rw [List.length_append, List.map_append]; exact h1
    obtain ⟨a', c', hv'⟩ := h3.shape
    rw [List.length_append] at hv'
    rw [hv'] at h3 ⊢
    exact h a' c' w' h3 (((Below.refl _ _).alloc hbase _).grown h2 (by simp; omega) (fun k hk => (hown.lt k hk).1))
/-- The same as one step of a region whose order is open. -/
theorem stepAppStr {wr : World} {ops : Array Oper} {o : Oper} {a : Act} {K : Act → World → Prop} {Q : Exit → Act → World → Prop} {E : Prop} (hgd : o.guard = none) (s x : Operand)
    (ho : o.op = .call { callee := .builtin .append, args := #[s, x], argTypes := #[24, 24] })
    (B : Nat) (a0 : Option Addr) (n c0 : Nat) (xs : List ByteArray) (y : ByteArray) (hs : a.eval s = .slice a0 n c0) (hx : a.eval x = .slice (some ⟨wr.heap.size, 0, none⟩) 1 1)
    (hown : OwnS wr B (.slice a0 n c0) xs) (hn : xs.length = n) (hlen : n ≤ 1099511627776) (hbase : B ≤ wr.heap.size)
    {W : World} (hW : W = wr.alloc (.cells #[.string y] 9) ∨ ∃ q, W = (wr.alloc (.cells #[.string y] 9)).drewN q)
    (h : ∀ a' c' w', OwnS w' B (.slice a' (n + 1) c') (xs ++ [y]) → Below B wr w' → K (a.put o.dst (.slice a' (n + 1) c')) w') :
    if Region.wanted o (yielded ops a.tmps) = true then Oper.wp Tryd.prog o a W K Q else E := by
  have hw : Region.wanted o (yielded ops a.tmps) = true := by simp [Region.wanted, hgd]
  rw [if_pos hw]
  subst hn
  obtain ⟨i0, hi, hz0, hz1, hz2⟩ := info_parts infoStr
  have hWB : Below B wr W ∧ W.ownsRow B 9 1 (.slice a0 xs.length c0) xs.length (xs.map (Value.string)) ∧ W.cell? ⟨wr.heap.size, 0, none⟩ = some (.string y) ∧ B ≤ W.heap.size := by
    rcases hW with rfl | ⟨q, rfl⟩
    · exact ⟨(Below.refl _ _).alloc hbase _, World.ownsRow.alloc hown _, cellNew _ _ _ 0 rfl, by simp; omega⟩
    · exact ⟨bel_drewN ((Below.refl _ _).alloc hbase _) q, World.ownsRow.alloc hown _, cellNew _ _ _ 0 rfl, by simp; omega⟩
  obtain ⟨hb, ho1, hc, hs1⟩ := hWB
  refine wp_append_own W s x 24 ho B 9 i0 (.string ByteArray.empty) 1 16 Tryd.underlying24 hi hz0 hz1 hz2 rfl (by decide) _ _ _ hs ho1 ⟨wr.heap.size, 0, none⟩ 1 1 [.string y] hx rfl ?_ ?_ ?_ ?_ hs1 ?_
  · intro j u hj
    match j, hj with
    | 0, hj => simp at hj; subst hj; simpa [Addr.add] using hc
  · intro u hu; simp at hu; subst hu; rfl
  · unfold maxLen; omega
  · omega
  · intro v' w' h1 h2 _
    have h3 : OwnS w' B v' (xs ++ [y]) := by unfold OwnS; rw [List.length_append, List.map_append]; exact h1
    obtain ⟨a', c', hv'⟩ := h3.shape
    rw [List.length_append] at hv'
    rw [hv'] at h3 ⊢
    exact h a' c' w' h3 (hb.grown h2 hs1 (fun k hk => (hown.lt k hk).1))

/-! ### the text of a mark -/
def mtB (k : Nat) : ByteArray := ⟨#[UInt8.ofNat (48 + k % 10)]⟩
def mtGo : Nat → Nat → ByteArray → ByteArray
  | 0, _, out => out
  | f + 1, k, out => if k = 0 then out else mtGo f (k / 10) (mtB k ++ out)
def mt (k : Nat) : ByteArray := if k = 0 then ⟨#[109, 48]⟩ else (⟨#[109]⟩ : ByteArray) ++ mtGo k k ⟨#[]⟩

theorem mtB_size (k : Nat) : (mtB k).size = 1 := rfl
theorem mtGo_zero {f : Nat} {out : ByteArray} : mtGo f 0 out = out := by
  cases f with
  | zero => rfl
  | succ f => simp [mtGo]
theorem mtGo_step {f k : Nat} {out : ByteArray} (h : 0 < k) (hf : k ≤ f) : ∃ g, f = g + 1 ∧ k / 10 ≤ g ∧ mtGo f k out = mtGo g (k / 10) (mtB k ++ out) := by
  cases f with
  | zero => omega
  | succ f => exact ⟨f, rfl, by omega, by rw [mtGo, if_neg (by omega)]⟩
theorem convDigit (w : World) (k : Nat) : (convert 43 9 (.slice (some ⟨w.heap.size, 0, none⟩) 1 1)).run Tryd.prog (w.alloc (.cells #[.int .u8 (48 + (k : Int) % 10)] 5)) = .ok (.string (mtB k)) (w.alloc (.cells #[.int .u8 (48 + (k : Int) % 10)] 5)) := by
  refine run_convert_bytes_back (P := Tryd.prog) _ 43 9 5 ⟨w.heap.size, 0, none⟩ 1 [UInt8.ofNat (48 + k % 10)] Tryd.underlying43 Tryd.underlying5 Tryd.underlying9 ?_
  intro j hj
  have : j = 0 := by simpa using hj
  subst this
  refine (cellNewAt w _ _ 0 rfl (v := .int .u8 (48 + (k : Int) % 10)) rfl).trans ?_
  have : ((UInt8.ofNat (48 + k % 10)).toNat : Int) = 48 + (k : Int) % 10 := by
    rw [UInt8.toNat_ofNat']; omega
  simp only [List.getElem_cons_zero]
  rw [this]
theorem ret_strZ {a b : ByteArray} (h : a = b) : Ending.returned (.string a) = Ending.returned (.string b) := by rw [h]

set_option maxRecDepth 20000 in
set_option maxHeartbeats 800000 in
theorem lawMarkText (k : Nat) (hk : k ≤ 1099511627776) (w : World) :
    Calls Tryd.prog 36 #[.int .i64 (k : Int)] w fun e w' => e = .returned (.string (mt k)) ∧ Below w.heap.size w w' := by
  by_cases h0 : (k : Int) ≤ 0
  · go_enter Tryd.func36, Tryd.ntmps36
    go_wp2
    go_ret
    refine ⟨?_, Below.refl _ _⟩
    have : k = 0 := by omega
    subst this
    rfl
  · have Hm : Hid (mt k = (⟨#[109]⟩ : ByteArray) ++ mtGo k k ⟨#[]⟩) := by unfold Hid mt; rw [if_neg (by omega)]
    go_enter Tryd.func36, Tryd.ntmps36
    go_wp2
    go_loopw [0, 3] (fun i u wr => ∃ (j : Nat) (out : ByteArray) (f : Nat), j ≤ k ∧ j ≤ f ∧ i = .int .i64 (j : Int) ∧ u = .string out ∧ out.size + j ≤ k ∧ mtGo f j out = mtGo k k ⟨#[]⟩ ∧ Below w.heap.size w wr) (fun i _ _ => (intOf i).toNat)
    case atStart => exact ⟨k, ⟨#[]⟩, k, Nat.le_refl _, Nat.le_refl _, rfl, rfl, by simp [ByteArray.size], rfl, Below.refl _ _⟩
    case round =>
      obtain ⟨j, out, f, hj, hf, rfl, rfl, hsz, hrec, hb⟩ := hrel
      have Hr := Lib.hid hrec
      have HB := Lib.hid hb
      clear hrec hb
      by_cases hz : (0 : Int) < (j : Int)
      · have hconv := convDigit wr j
        obtain ⟨g, hg, hjg, hstep⟩ := mtGo_step (out := out) (show 0 < j by omega) hf
        have Hs := Lib.hid hstep
        clear hstep hg
        generalize hM : mtB j = M at *
        have hMs : M.size = 1 := by rw [← hM]; rfl
        clear hM
        go_wp2
        go_roundw
        case rel =>
          refine ⟨j / 10, M ++ out, g, by omega, hjg, by go_num, rfl, ?_, by rw [← Hs.out]; exact Hr.out, ?_⟩
          · rw [ByteArray.size_append, hMs]; omega
          · exact HB.out.alloc HB.out.size _
        case measure => simp [intOf]; omega
      · have e : j = 0 := by omega
        subst e
        have Hr2 : Hid (out = mtGo k k ⟨#[]⟩) := by have := Hr.out; rw [mtGo_zero] at this; exact this
        go_wp2
        go_ret
        exact ⟨ret_strZ (by rw [Hm.out, ← Hr2.out]), HB.out⟩
end Go.Proofs.YtcgpmdfcdngnlaaDoor
