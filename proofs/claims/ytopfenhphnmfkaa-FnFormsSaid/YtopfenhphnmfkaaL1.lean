/-
  What the laws of several calls want: their helpers, and the contracts of the program's functions at valid rhythms.
  Conditions: rhythms are valid, their beats lie in memory.
-/
import Derived.Test.YtopfenhphnmfkaaD5
import Derived.Test.YtopfenhphnmfkaaV3
import Derived.Test.YtopfenhphnmfkaaN5
import Derived.Test.YtopfenhphnmfkaaN11
import Derived.Test.YtopfenhphnmfkaaN12
import Derived.Test.YtopfenhphnmfkaaD1
import Derived.Test.YtopfenhphnmfkaaF6
import Derived.Test.YtopfenhphnmfkaaF9
import Derived.Test.YtopfenhphnmfkaaS2
import Derived.Test.YtopfenhphnmfkaaE3
set_option linter.unusedVariables false
set_option linter.unusedSimpArgs false
namespace Go.Proofs.Ytopfenhphnmfkaa
open Go.RowKit

theorem lawSame (u v : Value) (xs ys : List Int) (w : World) (B C : Nat) (hu : Ints w B u xs) (hv : Ints w C v ys) :
    Calls Try.prog 67 #[u, v] w fun e w' => e = .returned (.bool (eqL xs ys)) ∧ w = w' := by
  have hlu := hu.cap
  have hlv := hv.cap
  unfold maxLen at hlu hlv
  by_cases hl : xs.length = ys.length
  · rcases hu.open with ⟨rfl, a, cap, rfl⟩ | ⟨b, o, cap, rfl, hm, h0, hB, hb, hc⟩
    · have hy : ys = [] := List.eq_nil_of_length_eq_zero hl.symm
      subst hy
      obtain ⟨a', cap', rfl, -⟩ := hv
      clear hu hl hlu hlv
      go_enter Try.func67, Try.ntmps67
      go_wp2
      refine wp_loop_rounds 1 ?_; rw [rounds_succ]
      go_wp2
      go_ret
      exact ⟨rfl, rfl⟩
    · rcases hv.open with ⟨rfl, a', cap', rfl⟩ | ⟨b', o', cap', rfl, hm', h0', hB', hb', hc'⟩
      · have : ([] : List Int).length = 0 := rfl
        omega
      · have hne : (((xs.length : Nat) : Int) != ((ys.length : Nat) : Int)) = false := by simp [hl]
        have Hl := Lib.hid hl
        have hle : xs.length ≤ ys.length := by omega
        clear hu hv hl hB hB' h0 h0' hm hm'
        go_enter Try.func67, Try.ntmps67
        go_wp2
        go_loop [5, 6, 14] (fun _ _ i => ∃ k : Nat, k ≤ xs.length ∧ i = .int .i64 k ∧ EqTo xs ys k) (fun _ _ i => xs.length - (intOf i).toNat)
        case atStart => exact ⟨0, Nat.zero_le _, rfl, EqTo.zero _ _⟩
        case round =>
          obtain ⟨k, hk, rfl, heq⟩ := hrel
          by_cases hlt : k < xs.length
          · have hlt' : k < ys.length := by omega
            have hc1 := hc k hlt
            have hc1' := hc' k hlt'
            have e1 : xs.getD k 0 = xs[k] := by simp [List.getD_eq_getElem?_getD, List.getElem?_eq_getElem hlt]
            have e2 : ys.getD k 0 = ys[k] := by simp [List.getD_eq_getElem?_getD, List.getElem?_eq_getElem hlt']
            by_cases hx : xs.getD k 0 = ys.getD k 0
            · have Hn := heq.succ hx
              have hb1 : (xs[k] != ys[k]) = false := by rw [← e1, ← e2, hx]; simp
              clear hx heq e1 e2
              go_wp2
              go_round
              case rel => exact ⟨k + 1, by omega, by go_num, Hn⟩
              case measure => simp [intOf]; omega
            · have Hf := Lib.hid (eqL_bad hx)
              have hb1 : (xs[k] != ys[k]) = true := by rw [← e1, ← e2]; simpa using hx
              clear hx heq e1 e2
              go_wp2
              go_ret
              exact ⟨ret_bool Hf.out.symm, rfl⟩
          · have Hf := Lib.hid (eqL_end Hl.out (by omega) heq)
            clear heq
            go_wp2
            go_ret
            exact ⟨ret_bool Hf.out.symm, rfl⟩
  · have Hf := Lib.hid (eqL_len hl)
    have hne : (((xs.length : Nat) : Int) != ((ys.length : Nat) : Int)) = true := by simp; omega
    obtain ⟨a, cap, rfl, -⟩ := hu
    obtain ⟨a', cap', rfl, -⟩ := hv
    clear hl
    go_enter Try.func67, Try.ntmps67
    go_wp2
    go_ret
    exact ⟨ret_bool Hf.out.symm, rfl⟩

theorem lawGcd (a b : Int) (w : World) (ha : 0 ≤ a) (ha' : a ≤ 1000) (hb : 0 ≤ b) (hb' : b ≤ 1000) :
    Calls Try.prog 47 #[.int .i64 a, .int .i64 b] w fun e w' => e = .returned (.int .i64 (gcdI a b)) ∧ w = w' := by
  go_enter Try.func47, Try.ntmps47
  go_wp2
  go_loopw [0, 1] (fun s t wr => ∃ p q : Nat, s = .int .i64 (p : Int) ∧ t = .int .i64 (q : Int) ∧ p ≤ 1000 ∧ q ≤ 1000 ∧ ((Nat.gcd p q : Nat) : Int) = gcdI a b ∧ wr = w) (fun _ t _ => (intOf t).toNat)
  case atStart =>
    refine ⟨a.toNat, b.toNat, ?_, ?_, by omega, by omega, rfl, rfl⟩
    · have : ((a.toNat : Nat) : Int) = a := by omega
      rw [this]
    · have : ((b.toNat : Nat) : Int) = b := by omega
      rw [this]
  case round =>
    obtain ⟨p, q, rfl, rfl, hp, hq, hg, rfl⟩ := hrel
    have HG := Lib.hid hg
    clear hg
    by_cases hz : q = 0
    · subst hz
      have HF : Hid ((p : Int) = gcdI a b) := by unfold Hid; rw [← HG.out, Nat.gcd_zero_right]
      go_wp2
      go_ret
      exact ⟨ret_int HF.out, rfl⟩
    · have hne2 : (((q : Nat) : Int) == 0) = false := by simp; omega
      have hpos : 0 < q := by omega
      have hmod : p % q < q := Nat.mod_lt _ hpos
      have Hm := Lib.hid hmod
      have Ht : Hid (((p : Nat) : Int).tmod ((q : Nat) : Int) = ((p % q : Nat) : Int)) := by unfold Hid; rw [Int.tmod_eq_emod_of_nonneg (by omega)]; rfl
      have Hs := Lib.hid (gcd_step p q)
      clear hmod
      go_wp2
      go_roundw
      case rel => exact ⟨q, p % q, rfl, by first | rfl | (rw [Ht.out]) | (simp), hq, by have := Hm.out; omega, by rw [Hs.out]; exact HG.out, by trivial⟩
      case measure => simp [intOf]; have := Hm.out; omega

/-- A rhythm in a box. -/
def RH (V : World) (q : Nat) (n : Int) (v : Value) (x : List Int) : Prop := Bx V q (.int .i64 n) v 25 ∧ Ints V V.heap.size v x
theorem RH.after {V V' : World} {q : Nat} {n : Int} {v : Value} {x : List Int} (h : RH V q n v x) (b : Below V.heap.size V V') : RH V' q n v x := ⟨h.1.below b h.1.lt, (h.2.below b).mono b.size⟩
theorem RH.alloc {V : World} {q : Nat} {n : Int} {v : Value} {x : List Int} (h : RH V q n v x) (o : Obj) : RH (V.alloc o) q n v x := h.after ((Below.refl _ _).alloc (Nat.le_refl _) o)
theorem RH.new {w1 : World} {B : Nat} {n : Int} {v : Value} {x : List Int} (h : Own w1 B v x) : RH (w1.alloc (.cells #[.int .i64 n, v] 25)) w1.heap.size n v x := ⟨Bx.new _ _ _ _, (h.alloc _).ints⟩

theorem I64.of24 {n : Int} (h1 : 0 ≤ n) (h2 : n ≤ 100000) : I64 n := ⟨by omega, by omega⟩
theorem rotateY (n : Int) (v : Value) (x : List Int) (k : Int) (w : World) (hR : Rok n x) (hk : -1000 ≤ k) (hk' : k ≤ 1000) (y : List Int) (hy : mapV n x 1 k = y) (h : Ints w w.heap.size v x) :
    Calls Try.prog 23 #[.agg #[.int .i64 n, v], .int .i64 k] w (RetRhythm2 w n y true) := by
  have hlo := hR.lo
  have hhi := hR.hi
  have ho := rotate_yes (rotate_yes2 ((rok_iff n x).2 hR) (inK_iff.2 ⟨hk, hk'⟩))
  have := implRotateRhythmC n v x ⟨by omega, by omega⟩ k ⟨by omega, by omega⟩ w h
  rw [ho.1, ho.2.1, ho.2.2, hy] at this
  exact this
theorem mirrorY (n : Int) (v : Value) (x : List Int) (w : World) (hR : Rok n x) (y : List Int) (hy : mapV n x (-1) 0 = y) (h : Ints w w.heap.size v x) :
    Calls Try.prog 18 #[.agg #[.int .i64 n, v]] w (RetRhythm2 w n y true) := by
  have hlo := hR.lo
  have hhi := hR.hi
  have ho := mirror_yes ((rok_iff n x).2 hR)
  have := implMirrorRhythmC n v x ⟨by omega, by omega⟩ w h
  rw [ho.1, ho.2.1, ho.2.2, hy] at this
  exact this
theorem otherY (n : Int) (v : Value) (x : List Int) (w : World) (hR : Rok n x) (y : List Int) (hy : othTo x n.toNat = y) (h : Ints w w.heap.size v x) :
    Calls Try.prog 42 #[.agg #[.int .i64 n, v]] w (RetRhythm2 w n y true) := by
  have hlo := hR.lo
  have hhi := hR.hi
  have ho := other_yes ((rok_iff n x).2 hR)
  have := implOtherRhythmC n v x ⟨by omega, by omega⟩ w h
  rw [ho.1, ho.2.1, ho.2.2, hy] at this
  exact this
theorem stretchY (n : Int) (v : Value) (x : List Int) (u : Int) (w : World) (hR : Rok n x) (cu : I64 u) (hu : unitB u n = true) (h : Ints w w.heap.size v x) :
    Calls Try.prog 46 #[.agg #[.int .i64 n, v], .int .i64 u] w (RetRhythm2 w n (mapV n x u 0) true) := by
  have hlo := hR.lo
  have hhi := hR.hi
  have ho := stretch_yes (stretch_yes2 ((rok_iff n x).2 hR) hu)
  have := implStretchRhythmC n v x ⟨by omega, by omega⟩ u cu w h
  rw [ho.1, ho.2.1, ho.2.2] at this
  exact this
theorem stretchN (n : Int) (v : Value) (x : List Int) (u : Int) (w : World) (hR : Rok n x) (cu : I64 u) (hu : unitB u n = false) (h : Ints w w.heap.size v x) :
    Calls Try.prog 46 #[.agg #[.int .i64 n, v], .int .i64 u] w (RetRhythm2 w 0 [] false) := by
  have hlo := hR.lo
  have hhi := hR.hi
  have ho := stretch_no (stretch_no2 x hu)
  have := implStretchRhythmC n v x ⟨by omega, by omega⟩ u cu w h
  rw [ho.1, ho.2.1, ho.2.2] at this
  exact this
theorem joinY (n : Int) (u v : Value) (x y : List Int) (w : World) (hx : Rok n x) (hy : Rok n y) (hu : Ints w w.heap.size u x) (hv : Ints w w.heap.size v y) :
    Calls Try.prog 45 #[.agg #[.int .i64 n, u], .agg #[.int .i64 n, v]] w (RetRhythm2 w n (ofMo n (x ++ y)) true) := by
  have hlo := hx.lo
  have hhi := hx.hi
  have ho := join_yes (sameSz_iff.2 ⟨hx, hy, rfl⟩)
  have := implJoinRhythmsC n u x ⟨by omega, by omega⟩ n v y ⟨by omega, by omega⟩ w hu hv
  rw [ho.1, ho.2.1, ho.2.2] at this
  exact this
theorem repeatY (n : Int) (v : Value) (x : List Int) (w : World) (hR : Rok n x) (h2 : 2 * n ≤ 24) (h : Ints w w.heap.size v x) :
    Calls Try.prog 48 #[.agg #[.int .i64 n, v], .int .i64 2] w (RetRhythm2 w (2 * n) (repTo n x 2) true) := by
  have hlo := hR.lo
  have hhi := hR.hi
  have hok := okRepeat_of (k := 2) ((rok_iff n x).2 hR) (by decide) h2
  have ho := repeat_yes hok
  have := implRepeatRhythmC n v x ⟨by omega, by omega⟩ 2 ⟨by decide, by decide⟩ w h
  rw [ho.1, ho.2, hok] at this
  exact this
theorem repeatN (n : Int) (v : Value) (x : List Int) (w : World) (hR : Rok n x) (h2 : 24 < 2 * n) (h : Ints w w.heap.size v x) :
    Calls Try.prog 48 #[.agg #[.int .i64 n, v], .int .i64 2] w (RetRhythm2 w 0 [] false) := by
  have hlo := hR.lo
  have hhi := hR.hi
  have hok := okRepeat_no3 (x := x) h2
  have ho := repeat_no hok
  have := implRepeatRhythmC n v x ⟨by omega, by omega⟩ 2 ⟨by decide, by decide⟩ w h
  rw [ho.1, ho.2, hok] at this
  exact this
theorem countY (n : Int) (v : Value) (x : List Int) (k : Nat) (w : World) (hR : Rok n x) (hk : x.length = k) (h : Ints w w.heap.size v x) :
    Calls Try.prog 43 #[.agg #[.int .i64 n, v]] w fun e w' => e = .returned (.int .i64 (k : Int)) ∧ Below w.heap.size w w' := by
  have hlo := hR.lo
  have hhi := hR.hi
  have := implCountBeatsC n v x ⟨by omega, by omega⟩ w h
  rw [valCountBeats_yes ((rok_iff n x).2 hR), hk] at this
  exact this
theorem hasY (n : Int) (v : Value) (x : List Int) (k : Int) (b : Bool) (w : World) (hR : Rok n x) (ck : I64 k) (hb : hasL x (mo k n) = b) (h : Ints w w.heap.size v x) :
    Calls Try.prog 44 #[.agg #[.int .i64 n, v], .int .i64 k] w fun e w' => e = .returned (.bool b) ∧ Below w.heap.size w w' := by
  have hlo := hR.lo
  have hhi := hR.hi
  have := implHasBeatC n v x ⟨by omega, by omega⟩ k ck w h
  unfold valHasBeat at this
  rw [(rok_iff n x).2 hR, Bool.true_and, hb] at this
  exact this
theorem periodY (n : Int) (v : Value) (x : List Int) (p : Int) (w : World) (hR : Rok n x) (hp : per n x = p) (h : Ints w w.heap.size v x) :
    Calls Try.prog 13 #[.agg #[.int .i64 n, v]] w fun e w' => e = .returned (.int .i64 p) ∧ Below w.heap.size w w' := by
  have hlo := hR.lo
  have hhi := hR.hi
  have := implPeriodOfC n v x ⟨by omega, by omega⟩ w h
  rw [periodOf_yes ((rok_iff n x).2 hR), hp] at this
  exact this
theorem okY (n : Int) (v : Value) (x : List Int) (w : World) (hR : Rok n x) (h : Ints w w.heap.size v x) :
    Calls Try.prog 49 #[.agg #[.int .i64 n, v]] w fun e w' => e = .returned (.bool true) ∧ Below w.heap.size w w' := by
  have hlo := hR.lo
  have hhi := hR.hi
  have := implRhythmOkC n v x ⟨by omega, by omega⟩ w h
  rw [(rok_iff n x).2 hR] at this
  exact this
theorem gcdY (a b g : Int) (w : World) (ha : 0 ≤ a) (ha' : a ≤ 1000) (hb : 0 ≤ b) (hb' : b ≤ 1000) (hg : gcdI a b = g) :
    Calls Try.prog 47 #[.int .i64 a, .int .i64 b] w fun e w' => e = .returned (.int .i64 g) ∧ Below w.heap.size w w' := by
  subst hg
  exact retSame (lawGcd a b w ha ha' hb hb')
theorem has_rot {n : Int} {x : List Int} (hR : Rok n x) (k z : Int) : hasL (mapV n x 1 k) (mo (z + k) n) = hasL x (mo z n) := by
  have h := on_map1 hR k (z + k)
  rw [show z + k - k = z by omega] at h
  unfold On at h
  simp only [hasL, decide_eq_decide]; exact h
theorem has_mir {n : Int} {x : List Int} (hR : Rok n x) (z : Int) : hasL (mapV n x (-1) 0) (mo (-z) n) = hasL x (mo z n) := by
  have h := on_mir hR 0 (-z)
  rw [show 0 - -z = z by omega] at h
  unfold On at h
  simp only [hasL, decide_eq_decide]; exact h
theorem has_oth {n : Int} {x : List Int} (hR : Rok n x) (z : Int) : hasL (othTo x n.toNat) (mo z n) = !hasL x (mo z n) := by
  have h := on_oth hR.lo x z
  unfold On at h
  by_cases e : mo z n ∈ x
  · have : ¬ mo z n ∈ othTo x n.toNat := fun q => h.1 q e
    simp [hasL, e, this]
  · have : mo z n ∈ othTo x n.toNat := h.2 e
    simp [hasL, e, this]
theorem lawRhythmsY (n : Int) (u v : Value) (x y : List Int) (w : World) (hxy : x = y) (hu : Ints w w.heap.size u x) (hv : Ints w w.heap.size v y) :
    Calls Try.prog 21 #[.agg #[.int .i64 n, u], .agg #[.int .i64 n, v]] w fun e w' => e = .returned (.bool true) ∧ Below w.heap.size w w' := by
  subst hxy
  have hu' := (hu.alloc (Nat.le_refl _) (.cells #[.int .i64 n, u] 25)).alloc (by simp) (.cells #[.int .i64 n, v] 25)
  have hv' := (hv.alloc (Nat.le_refl _) (.cells #[.int .i64 n, u] 25)).alloc (by simp) (.cells #[.int .i64 n, v] 25)
  obtain ⟨a, cap, rfl, -⟩ := hu
  obtain ⟨a', cap', rfl, -⟩ := hv
  have hb1 : (n == n) = true := by simp
  go_enter Try.func21, Try.ntmps21
  go_wp2_with (go_at_call 67; refine (lawSame _ _ x x _ _ _ hu' hv').mono ?_; rintro e w1 ⟨rfl, rfl⟩; rw [eqL_self])
  go_ret
  exact ⟨rfl, by (repeat (first | (with_reducible exact (Below.refl _ _)) | (with_reducible refine bel_alloc ?_ _) | (with_reducible refine Below.drew ?_) | (with_reducible refine bel_drewN ?_ _) | (with_reducible refine Below.setCell ?_ (by simp) _)))⟩
end Go.Proofs.Ytopfenhphnmfkaa
