/-
  What the laws of several calls want: their helpers, and contracts at valid rhythms. Conditions: rhythms are valid, their beats lie in memory.
-/
import Derived.Test.YtopfenhphnmfkaaE2
import Derived.Test.YtopfenhphnmfkaaB1
import Derived.Test.YtopfenhphnmfkaaD5
import Derived.Test.YtopfenhphnmfkaaV3
import Derived.Test.YtopfenhphnmfkaaN5
import Derived.Test.YtopfenhphnmfkaaN11
import Derived.Test.YtopfenhphnmfkaaN12
import Derived.Test.YtopfenhphnmfkaaF6
import Derived.Test.YtopfenhphnmfkaaF9
import Derived.Test.YtopfenhphnmfkaaS2
import Derived.Test.YtopfenhphnmfkaaR3
set_option linter.unusedVariables false
set_option linter.unusedSimpArgs false
namespace Go.Proofs.Ytopfenhphnmfkaa
open Go.RowKit

def valHasBeat (n : Int) (x : List Int) (k : Int) : Bool := rok n x && hasL x (mo k n)
theorem valHasBeat_no {n : Int} {x : List Int} (k : Int) (h : rok n x = false) : valHasBeat n x k = false := by simp [valHasBeat, h]
theorem valHasBeat_yes {n : Int} {x : List Int} (k : Int) (h : rok n x = true) : valHasBeat n x k = hasL x (mo k n) := by simp [valHasBeat, h]

theorem implHasBeatC (n : Int) (v : Value) (x : List Int) (c : I64 n) (k : Int) (ck : I64 k) (w : World) (h : Ints w w.heap.size v x) :
    Calls Try.prog 44 #[.agg #[.int .i64 n, v], .int .i64 k] w fun e w' => e = .returned (.bool (valHasBeat n x k)) ∧ Below w.heap.size w w' := by
  have h' := h
  obtain ⟨a, cap, rfl, -⟩ := h'
  cases hr : rok n x with
  | false =>
    have Hr := Lib.hid hr
    have Hf := Lib.hid (valHasBeat_no k hr)
    clear hr
    go_enter Try.func44, Try.ntmps44
    go_wp2_with (go_at_call 49; refine (implRhythmOk _ _ x _ _ c.1 c.2 (h.alloc (Nat.le_refl _) _)).mono ?_; rintro e w' ⟨rfl, rfl⟩; rw [Hr.out])
    go_ret
    exact ⟨ret_bool Hf.out.symm, ((Below.refl _ _).alloc (Nat.le_refl _) _).alloc (by simp) _⟩
  | true =>
    have Hr := Lib.hid hr
    have Hf := Lib.hid (valHasBeat_yes k hr)
    have hR := (rok_iff n x).1 hr
    have hlo := hR.lo
    have hhi := hR.hi
    clear hr hR
    go_enter Try.func44, Try.ntmps44
    go_wp2_with (go_at_call 49; refine (implRhythmOk _ _ x _ _ c.1 c.2 (h.alloc (Nat.le_refl _) _)).mono ?_; rintro e w' ⟨rfl, rfl⟩; rw [Hr.out])
    refine (implHas _ _ x _ _ hlo hhi ck (((h.alloc (Nat.le_refl _) _).alloc (by simp) _).mono (by simp; omega))).mono ?_
    rintro e w1 ⟨rfl, b1⟩
    go_wp2
    go_ret
    exact ⟨ret_bool Hf.out.symm, bel_step (((Below.refl _ _).alloc (Nat.le_refl _) _).alloc (by simp) _) b1 (by simp; omega)⟩

end Go.Proofs.Ytopfenhphnmfkaa

namespace Go.Proofs.Ytopfenhphnmfkaa
open Go.RowKit

def valCountBeats (n : Int) (x : List Int) : Int := if rok n x = true then (x.length : Int) else -1
theorem valCountBeats_yes {n : Int} {x : List Int} (h : rok n x = true) : valCountBeats n x = (x.length : Int) := by simp [valCountBeats, h]
theorem valCountBeats_no {n : Int} {x : List Int} (h : rok n x = false) : valCountBeats n x = -1 := by simp [valCountBeats, h]

theorem implCountBeatsC (n : Int) (v : Value) (x : List Int) (c : I64 n) (w : World) (h : Ints w w.heap.size v x) :
    Calls Try.prog 43 #[.agg #[.int .i64 n, v]] w fun e w' => e = .returned (.int .i64 (valCountBeats n x)) ∧ Below w.heap.size w w' := by
  have h' := h
  obtain ⟨a, cap, rfl, -⟩ := h'
  cases hr : rok n x with
  | false =>
    have Hr := Lib.hid hr
    have Hf := Lib.hid (valCountBeats_no hr)
    clear hr
    go_enter Try.func43, Try.ntmps43
    go_wp2_with (go_at_call 49; refine (implRhythmOk _ _ x _ _ c.1 c.2 (h.alloc (Nat.le_refl _) _)).mono ?_; rintro e w' ⟨rfl, rfl⟩; rw [Hr.out])
    go_ret
    exact ⟨ret_int Hf.out.symm, ((Below.refl _ _).alloc (Nat.le_refl _) _).alloc (by simp) _⟩
  | true =>
    have Hr := Lib.hid hr
    have Hf := Lib.hid (valCountBeats_yes hr)
    clear hr
    go_enter Try.func43, Try.ntmps43
    go_wp2_with (go_at_call 49; refine (implRhythmOk _ _ x _ _ c.1 c.2 (h.alloc (Nat.le_refl _) _)).mono ?_; rintro e w' ⟨rfl, rfl⟩; rw [Hr.out])
    go_ret
    exact ⟨ret_int Hf.out.symm, ((Below.refl _ _).alloc (Nat.le_refl _) _).alloc (by simp) _⟩

end Go.Proofs.Ytopfenhphnmfkaa

namespace Go.Proofs.Ytopfenhphnmfkaa
open Go.RowKit

theorem lawSame (u v : Value) (xs ys : List Int) (w : World) (B C : Nat) (hu : Ints w B u xs) (hv : Ints w C v ys) :
    Calls Try.prog 67 #[u, v] w fun e w' => e = .returned (.bool (eqL xs ys)) ∧ w = w' := by
  have hlu := hu.cap
  have hlv := hv.cap
  unfold maxLen at hlu hlv
  by_cases hl : xs.length = ys.length
  · rcases hu.open with ⟨rfl, a, cap, rfl⟩ | ⟨b, o, cap, rfl, hm, h0, hB, hb, hc⟩
    · have hy : ys = [] := List.eq_nil_of_length_eq_zero hl.symm
      subst hy
      obtain ⟨a', cap', rfl, -⟩ := hv
      clear hu hl hlu hlv
      go_enter Try.func67, Try.ntmps67
      go_wp2
      refine wp_loop_rounds 1 ?_; rw [rounds_succ]
      go_wp2
      go_ret
      exact ⟨rfl, rfl⟩
    · rcases hv.open with ⟨rfl, a', cap', rfl⟩ | ⟨b', o', cap', rfl, hm', h0', hB', hb', hc'⟩
      · have : ([] : List Int).length = 0 := rfl
        omega
      · have hne : (((xs.length : Nat) : Int) != ((ys.length : Nat) : Int)) = false := by simp [hl]
        have Hl := Lib.hid hl
        have hle : xs.length ≤ ys.length := by omega
        clear hu hv hl hB hB' h0 h0' hm hm'
        go_enter Try.func67, Try.ntmps67
        go_wp2
        go_loop [5, 6, 14] (fun _ _ i => ∃ k : Nat, k ≤ xs.length ∧ i = .int .i64 k ∧ EqTo xs ys k) (fun _ _ i => xs.length - (intOf i).toNat)
        case atStart => exact ⟨0, Nat.zero_le _, rfl, EqTo.zero _ _⟩
        case round =>
          obtain ⟨k, hk, rfl, heq⟩ := hrel
          by_cases hlt : k < xs.length
          · have hlt' : k < ys.length := by omega
            have hc1 := hc k hlt
            have hc1' := hc' k hlt'
            have e1 : xs.getD k 0 = xs[k] := by simp [List.getD_eq_getElem?_getD, List.getElem?_eq_getElem hlt]
            have e2 : ys.getD k 0 = ys[k] := by simp [List.getD_eq_getElem?_getD, List.getElem?_eq_getElem hlt']
            by_cases hx : xs.getD k 0 = ys.getD k 0
            · have Hn := heq.succ hx
              have hb1 : (xs[k] != ys[k]) = false := by rw [← e1, ← e2, hx]; simp
              clear hx heq e1 e2
              go_wp2
              go_round
              case rel => exact ⟨k + 1, by omega, by go_num, Hn⟩
              case measure => simp [intOf]; omega
            · have Hf := Lib.hid (eqL_bad hx)
              have hb1 : (xs[k] != ys[k]) = true := by rw [← e1, ← e2]; simpa using hx
              clear hx heq e1 e2
              go_wp2
              go_ret
              exact ⟨ret_bool Hf.out.symm, rfl⟩
          · have Hf := Lib.hid (eqL_end Hl.out (by omega) heq)
            clear heq
            go_wp2
            go_ret
            exact ⟨ret_bool Hf.out.symm, rfl⟩
  · have Hf := Lib.hid (eqL_len hl)
    have hne : (((xs.length : Nat) : Int) != ((ys.length : Nat) : Int)) = true := by simp; omega
    obtain ⟨a, cap, rfl, -⟩ := hu
    obtain ⟨a', cap', rfl, -⟩ := hv
    clear hl
    go_enter Try.func67, Try.ntmps67
    go_wp2
    go_ret
    exact ⟨ret_bool Hf.out.symm, rfl⟩

theorem lawGcd (a b : Int) (w : World) (ha : 0 ≤ a) (ha' : a ≤ 1000) (hb : 0 ≤ b) (hb' : b ≤ 1000) :
    Calls Try.prog 47 #[.int .i64 a, .int .i64 b] w fun e w' => e = .returned (.int .i64 (gcdI a b)) ∧ w = w' := by
  go_enter Try.func47, Try.ntmps47
  go_wp2
  go_loopw [0, 1] (fun s t wr => ∃ p q : Nat, s = .int .i64 (p : Int) ∧ t = .int .i64 (q : Int) ∧ p ≤ 1000 ∧ q ≤ 1000 ∧ ((Nat.gcd p q : Nat) : Int) = gcdI a b ∧ wr = w) (fun _ t _ => (intOf t).toNat)
  case atStart =>
    refine ⟨a.toNat, b.toNat, ?_, ?_, by omega, by omega, rfl, rfl⟩
    · have : ((a.toNat : Nat) : Int) = a := by omega
      rw [this]
    · have : ((b.toNat : Nat) : Int) = b := by omega
      rw [this]
  case round =>
    obtain ⟨p, q, rfl, rfl, hp, hq, hg, rfl⟩ := hrel
    have HG := Lib.hid hg
    clear hg
    by_cases hz : q = 0
    · subst hz
      have HF : Hid ((p : Int) = gcdI a b) := by unfold Hid; rw [← HG.out, Nat.gcd_zero_right]
      go_wp2
      go_ret
      exact ⟨ret_int HF.out, rfl⟩
    · have hne2 : (((q : Nat) : Int) == 0) = false := by simp; omega
      have hpos : 0 < q := by omega
      have hmod : p % q < q := Nat.mod_lt _ hpos
      have Hm := Lib.hid hmod
      have Ht : Hid (((p : Nat) : Int).tmod ((q : Nat) : Int) = ((p % q : Nat) : Int)) := by unfold Hid; rw [Int.tmod_eq_emod_of_nonneg (by omega)]; rfl
      have Hs := Lib.hid (gcd_step p q)
      clear hmod
      go_wp2
      go_roundw
      case rel => exact ⟨q, p % q, rfl, by first | rfl | (rw [Ht.out]) | (simp), hq, by have := Hm.out; omega, by rw [Hs.out]; exact HG.out, by trivial⟩
      case measure => simp [intOf]; have := Hm.out; omega

/-- A rhythm in a box. -/
def RH (V : World) (q : Nat) (n : Int) (v : Value) (x : List Int) : Prop := Bx V q (.int .i64 n) v 25 ∧ Ints V V.heap.size v x
theorem RH.after {V V' : World} {q : Nat} {n : Int} {v : Value} {x : List Int} (h : RH V q n v x) (b : Below V.heap.size V V') : RH V' q n v x := ⟨h.1.below b h.1.lt, (h.2.below b).mono b.size⟩
theorem RH.alloc {V : World} {q : Nat} {n : Int} {v : Value} {x : List Int} (h : RH V q n v x) (o : Obj) : RH (V.alloc o) q n v x := h.after ((Below.refl _ _).alloc (Nat.le_refl _) o)
theorem RH.new {w1 : World} {B : Nat} {n : Int} {v : Value} {x : List Int} (h : Own w1 B v x) : RH (w1.alloc (.cells #[.int .i64 n, v] 25)) w1.heap.size n v x := ⟨Bx.new _ _ _ _, (h.alloc _).ints⟩

theorem I64.of24 {n : Int} (h1 : 0 ≤ n) (h2 : n ≤ 100000) : I64 n := ⟨by omega, by omega⟩
theorem rotateY (n : Int) (v : Value) (x : List Int) (k : Int) (w : World) (hR : Rok n x) (hk : -1000 ≤ k) (hk' : k ≤ 1000) (y : List Int) (hy : mapV n x 1 k = y) (h : Ints w w.heap.size v x) :
    Calls Try.prog 23 #[.agg #[.int .i64 n, v], .int .i64 k] w (RetRhythm2 w n y true) := by
  have hlo := hR.lo
  have hhi := hR.hi
  have ho := rotate_yes (rotate_yes2 ((rok_iff n x).2 hR) (inK_iff.2 ⟨hk, hk'⟩))
  have := implRotateRhythmC n v x ⟨by omega, by omega⟩ k ⟨by omega, by omega⟩ w h
  rw [ho.1, ho.2.1, ho.2.2, hy] at this
  exact this
theorem mirrorY (n : Int) (v : Value) (x : List Int) (w : World) (hR : Rok n x) (y : List Int) (hy : mapV n x (-1) 0 = y) (h : Ints w w.heap.size v x) :
    Calls Try.prog 18 #[.agg #[.int .i64 n, v]] w (RetRhythm2 w n y true) := by
  have hlo := hR.lo
  have hhi := hR.hi
  have ho := mirror_yes ((rok_iff n x).2 hR)
  have := implMirrorRhythmC n v x ⟨by omega, by omega⟩ w h
  rw [ho.1, ho.2.1, ho.2.2, hy] at this
  exact this
theorem otherY (n : Int) (v : Value) (x : List Int) (w : World) (hR : Rok n x) (y : List Int) (hy : othTo x n.toNat = y) (h : Ints w w.heap.size v x) :
    Calls Try.prog 42 #[.agg #[.int .i64 n, v]] w (RetRhythm2 w n y true) := by
  have hlo := hR.lo
  have hhi := hR.hi
  have ho := other_yes ((rok_iff n x).2 hR)
  have := implOtherRhythmC n v x ⟨by omega, by omega⟩ w h
  rw [ho.1, ho.2.1, ho.2.2, hy] at this
  exact this
theorem stretchY (n : Int) (v : Value) (x : List Int) (u : Int) (w : World) (hR : Rok n x) (cu : I64 u) (hu : unitB u n = true) (h : Ints w w.heap.size v x) :
    Calls Try.prog 46 #[.agg #[.int .i64 n, v], .int .i64 u] w (RetRhythm2 w n (mapV n x u 0) true) := by
  have hlo := hR.lo
  have hhi := hR.hi
  have ho := stretch_yes (stretch_yes2 ((rok_iff n x).2 hR) hu)
  have := implStretchRhythmC n v x ⟨by omega, by omega⟩ u cu w h
  rw [ho.1, ho.2.1, ho.2.2] at this
  exact this
theorem stretchN (n : Int) (v : Value) (x : List Int) (u : Int) (w : World) (hR : Rok n x) (cu : I64 u) (hu : unitB u n = false) (h : Ints w w.heap.size v x) :
    Calls Try.prog 46 #[.agg #[.int .i64 n, v], .int .i64 u] w (RetRhythm2 w 0 [] false) := by
  have hlo := hR.lo
  have hhi := hR.hi
  have ho := stretch_no (stretch_no2 x hu)
  have := implStretchRhythmC n v x ⟨by omega, by omega⟩ u cu w h
  rw [ho.1, ho.2.1, ho.2.2] at this
  exact this
theorem joinY (n : Int) (u v : Value) (x y : List Int) (w : World) (hx : Rok n x) (hy : Rok n y) (hu : Ints w w.heap.size u x) (hv : Ints w w.heap.size v y) :
    Calls Try.prog 45 #[.agg #[.int .i64 n, u], .agg #[.int .i64 n, v]] w (RetRhythm2 w n (ofMo n (x ++ y)) true) := by
  have hlo := hx.lo
  have hhi := hx.hi
  have ho := join_yes (sameSz_iff.2 ⟨hx, hy, rfl⟩)
  have := implJoinRhythmsC n u x ⟨by omega, by omega⟩ n v y ⟨by omega, by omega⟩ w hu hv
  rw [ho.1, ho.2.1, ho.2.2] at this
  exact this
theorem repeatY (n : Int) (v : Value) (x : List Int) (w : World) (hR : Rok n x) (h2 : 2 * n ≤ 24) (h : Ints w w.heap.size v x) :
    Calls Try.prog 48 #[.agg #[.int .i64 n, v], .int .i64 2] w (RetRhythm2 w (2 * n) (repTo n x 2) true) := by
  have hlo := hR.lo
  have hhi := hR.hi
  have hok := okRepeat_of (k := 2) ((rok_iff n x).2 hR) (by decide) h2
  have ho := repeat_yes hok
  have := implRepeatRhythmC n v x ⟨by omega, by omega⟩ 2 ⟨by decide, by decide⟩ w h
  rw [ho.1, ho.2, hok] at this
  exact this
theorem repeatN (n : Int) (v : Value) (x : List Int) (w : World) (hR : Rok n x) (h2 : 24 < 2 * n) (h : Ints w w.heap.size v x) :
    Calls Try.prog 48 #[.agg #[.int .i64 n, v], .int .i64 2] w (RetRhythm2 w 0 [] false) := by
  have hlo := hR.lo
  have hhi := hR.hi
  have hok := okRepeat_no3 (x := x) h2
  have ho := repeat_no hok
  have := implRepeatRhythmC n v x ⟨by omega, by omega⟩ 2 ⟨by decide, by decide⟩ w h
  rw [ho.1, ho.2, hok] at this
  exact this
theorem countY (n : Int) (v : Value) (x : List Int) (k : Nat) (w : World) (hR : Rok n x) (hk : x.length = k) (h : Ints w w.heap.size v x) :
    Calls Try.prog 43 #[.agg #[.int .i64 n, v]] w fun e w' => e = .returned (.int .i64 (k : Int)) ∧ Below w.heap.size w w' := by
  have hlo := hR.lo
  have hhi := hR.hi
  have := implCountBeatsC n v x ⟨by omega, by omega⟩ w h
  rw [valCountBeats_yes ((rok_iff n x).2 hR), hk] at this
  exact this
theorem hasY (n : Int) (v : Value) (x : List Int) (k : Int) (b : Bool) (w : World) (hR : Rok n x) (ck : I64 k) (hb : hasL x (mo k n) = b) (h : Ints w w.heap.size v x) :
    Calls Try.prog 44 #[.agg #[.int .i64 n, v], .int .i64 k] w fun e w' => e = .returned (.bool b) ∧ Below w.heap.size w w' := by
  have hlo := hR.lo
  have hhi := hR.hi
  have := implHasBeatC n v x ⟨by omega, by omega⟩ k ck w h
  unfold valHasBeat at this
  rw [(rok_iff n x).2 hR, Bool.true_and, hb] at this
  exact this
theorem periodY (n : Int) (v : Value) (x : List Int) (p : Int) (w : World) (hR : Rok n x) (hp : per n x = p) (h : Ints w w.heap.size v x) :
    Calls Try.prog 13 #[.agg #[.int .i64 n, v]] w fun e w' => e = .returned (.int .i64 p) ∧ Below w.heap.size w w' := by
  have hlo := hR.lo
  have hhi := hR.hi
  have := implPeriodOfC n v x ⟨by omega, by omega⟩ w h
  rw [periodOf_yes ((rok_iff n x).2 hR), hp] at this
  exact this
theorem okY (n : Int) (v : Value) (x : List Int) (w : World) (hR : Rok n x) (h : Ints w w.heap.size v x) :
    Calls Try.prog 49 #[.agg #[.int .i64 n, v]] w fun e w' => e = .returned (.bool true) ∧ Below w.heap.size w w' := by
  have hlo := hR.lo
  have hhi := hR.hi
  have := implRhythmOkC n v x ⟨by omega, by omega⟩ w h
  rw [(rok_iff n x).2 hR] at this
  exact this
theorem gcdY (a b g : Int) (w : World) (ha : 0 ≤ a) (ha' : a ≤ 1000) (hb : 0 ≤ b) (hb' : b ≤ 1000) (hg : gcdI a b = g) :
    Calls Try.prog 47 #[.int .i64 a, .int .i64 b] w fun e w' => e = .returned (.int .i64 g) ∧ Below w.heap.size w w' := by
  subst hg
  exact retSame (lawGcd a b w ha ha' hb hb')
theorem has_rot {n : Int} {x : List Int} (hR : Rok n x) (k z : Int) : hasL (mapV n x 1 k) (mo (z + k) n) = hasL x (mo z n) := by
  have h := on_map1 hR k (z + k)
  rw [show z + k - k = z by omega] at h
  unfold On at h
  simp only [hasL, decide_eq_decide]; exact h
theorem has_mir {n : Int} {x : List Int} (hR : Rok n x) (z : Int) : hasL (mapV n x (-1) 0) (mo (-z) n) = hasL x (mo z n) := by
  have h := on_mir hR 0 (-z)
  rw [show 0 - -z = z by omega] at h
  unfold On at h
  simp only [hasL, decide_eq_decide]; exact h
theorem has_oth {n : Int} {x : List Int} (hR : Rok n x) (z : Int) : hasL (othTo x n.toNat) (mo z n) = !hasL x (mo z n) := by
  have h := on_oth hR.lo x z
  unfold On at h
  by_cases e : mo z n ∈ x
  · have : ¬ mo z n ∈ othTo x n.toNat := fun q => h.1 q e
    simp [hasL, e, this]
  · have : mo z n ∈ othTo x n.toNat := h.2 e
    simp [hasL, e, this]
theorem lawRhythmsY (n : Int) (u v : Value) (x y : List Int) (w : World) (hxy : x = y) (hu : Ints w w.heap.size u x) (hv : Ints w w.heap.size v y) :
    Calls Try.prog 21 #[.agg #[.int .i64 n, u], .agg #[.int .i64 n, v]] w fun e w' => e = .returned (.bool true) ∧ Below w.heap.size w w' := by
  subst hxy
  have hu' := (hu.alloc (Nat.le_refl _) (.cells #[.int .i64 n, u] 25)).alloc (by simp) (.cells #[.int .i64 n, v] 25)
  have hv' := (hv.alloc (Nat.le_refl _) (.cells #[.int .i64 n, u] 25)).alloc (by simp) (.cells #[.int .i64 n, v] 25)
  obtain ⟨a, cap, rfl, -⟩ := hu
  obtain ⟨a', cap', rfl, -⟩ := hv
  have hb1 : (n == n) = true := by simp
  go_enter Try.func21, Try.ntmps21
  go_wp2_with (go_at_call 67; refine (lawSame _ _ x x _ _ _ hu' hv').mono ?_; rintro e w1 ⟨rfl, rfl⟩; rw [eqL_self])
  go_ret
  exact ⟨rfl, by (repeat (first | (with_reducible exact (Below.refl _ _)) | (with_reducible refine bel_alloc ?_ _) | (with_reducible refine Below.drew ?_) | (with_reducible refine bel_drewN ?_ _) | (with_reducible refine Below.setCell ?_ (by simp) _)))⟩
end Go.Proofs.Ytopfenhphnmfkaa

namespace Go.Proofs.Ytopfenhphnmfkaa
open Go.RowKit

theorem repTo_bd {n : Int} {x : List Int} (hR : Rok n x) : ∀ (k : Nat), ∀ z ∈ repTo n x k, 0 ≤ z ∧ z < (k : Int) * n
  | 0, z, hz => by cases hz
  | k + 1, z, hz => by
    have hlo := hR.lo
    have e : ((k + 1 : Nat) : Int) * n = (k : Int) * n + n := by rw [Int.natCast_add, Int.add_mul]; simp
    have h0 : 0 ≤ (k : Int) * n := Int.mul_nonneg (by omega) (by omega)
    rw [e]
    rcases List.mem_append.1 (show z ∈ repTo n x k ++ repIn n k x from hz) with h | h
    · have := repTo_bd hR k z h; omega
    · obtain ⟨p, hp, rfl⟩ := mem_repIn.1 h
      have := hR.ge p hp
      have := hR.lt p hp
      omega
theorem repTo_inc {n : Int} {x : List Int} (hR : Rok n x) : ∀ k : Nat, (repTo n x k).Pairwise (· < ·)
  | 0 => List.Pairwise.nil
  | k + 1 => by
    show (repTo n x k ++ repIn n k x).Pairwise (· < ·)
    rw [List.pairwise_append]
    refine ⟨repTo_inc hR k, ?_, ?_⟩
    · unfold repIn; rw [List.pairwise_map]; exact hR.inc.imp fun h => by omega
    · intro a ha b hb
      obtain ⟨p, hp, rfl⟩ := mem_repIn.1 hb
      have := (repTo_bd hR k a ha).2
      have := hR.ge p hp
      omega
theorem rep_rok {n : Int} {x : List Int} (hR : Rok n x) {k : Int} (hk : 1 ≤ k) (h : k * n ≤ 24) : Rok (k * n) (repTo n x k.toNat) where
  lo := by
    have hlo := hR.lo
    have : 1 * 1 ≤ k * n := Int.mul_le_mul hk hlo (by decide) (by omega)
    omega
  hi := h
  ge := fun z hz => (repTo_bd hR _ z hz).1
  lt := fun z hz => by have := (repTo_bd hR _ z hz).2; rwa [show ((k.toNat : Nat) : Int) = k by omega] at this
  inc := repTo_inc hR _
theorem repeatS (n : Int) (v : Value) (x : List Int) (k : Int) (w : World) (hR : Rok n x) (hk : 1 ≤ k) (hk' : k ≤ 4) (h : Ints w w.heap.size v x) :
    Calls Try.prog 12 #[.agg #[.int .i64 n, v], .int .i64 k] w fun e w' => ∃ (m : Int) (y : List Int) (b : Bool), (b = true → Rok m y) ∧ RetRhythm2 w m y b e w' := by
  have hlo := hR.lo
  have hhi := hR.hi
  have := specRepeatRhythmC n v x ⟨by omega, by omega⟩ k ⟨by omega, by omega⟩ w h
  cases hok : okRepeatRhythm n x k with
  | false =>
    have ho := repeat_no hok
    rw [ho.1, ho.2, hok] at this
    exact this.mono fun e w' h => ⟨0, [], false, fun q => (by cases q), h⟩
  | true =>
    have ho := repeat_yes hok
    rw [ho.1, ho.2, hok] at this
    have h24 : k * n ≤ 24 := by
      simp only [okRepeatRhythm, Bool.and_eq_true, decide_eq_true_eq] at hok
      exact hok.2
    exact this.mono fun e w' h => ⟨_, _, true, fun _ => rep_rok hR hk h24, h⟩
theorem axesY (n : Int) (v : Value) (x : List Int) (al : Nat) (w : World) (hR : Rok n x) (hal : (axTo n x n.toNat).length = al) (h : Ints w w.heap.size v x) :
    Calls Try.prog 14 #[.agg #[.int .i64 n, v]] w fun e w' => (∃ (a : Option Addr) (c : Nat), e = .returned (.slice a al c)) ∧ Below w.heap.size w w' := by
  have hlo := hR.lo
  have hhi := hR.hi
  have := implAxesOfC n v x ⟨by omega, by omega⟩ w h
  rw [axesOf_yes ((rok_iff n x).2 hR)] at this
  subst hal
  exact this.mono fun e w' ⟨a, c, h1, _, h3⟩ => ⟨⟨a, c, h1⟩, h3⟩
theorem rotationsY (n : Int) (v : Value) (x : List Int) (pl : Nat) (w : World) (hR : Rok n x) (hpl : per n x = (pl : Int)) (h : Ints w w.heap.size v x) :
    Calls Try.prog 15 #[.agg #[.int .i64 n, v]] w fun e w' => (∃ (a : Option Addr) (c : Nat), e = .returned (.slice a pl c)) ∧ Below w.heap.size w w' := by
  have hlo := hR.lo
  have hhi := hR.hi
  have := implRotationsOfC n v x ⟨by omega, by omega⟩ w h
  have e : (lstRotationsOf n x).length = pl := by rw [rotations_yes ((rok_iff n x).2 hR), roTo_len, hpl]; omega
  refine this.mono fun e' w' ⟨a, c, h1, _, h3⟩ => ⟨⟨a, c, ?_⟩, h3⟩
  rw [h1, e]
theorem leastRotY (n : Int) (v : Value) (x : List Int) (w : World) (hR : Rok n x) (y : List Int) (hy : leastV n x = y) (h : Ints w w.heap.size v x) :
    Calls Try.prog 16 #[.agg #[.int .i64 n, v]] w (RetRhythm2 w n y true) := by
  have hlo := hR.lo
  have hhi := hR.hi
  have ho := leastRotation_yes ((rok_iff n x).2 hR)
  have := implLeastRotationC n v x ⟨by omega, by omega⟩ w h
  rw [ho.1, ho.2.1, ho.2.2, hy] at this
  exact this
theorem leastFormY (n : Int) (v : Value) (x : List Int) (w : World) (hR : Rok n x) (y : List Int) (hy : formV n x = y) (h : Ints w w.heap.size v x) :
    Calls Try.prog 17 #[.agg #[.int .i64 n, v]] w (RetRhythm2 w n y true) := by
  have hlo := hR.lo
  have hhi := hR.hi
  have ho := leastForm_yes ((rok_iff n x).2 hR)
  have := implLeastFormC n v x ⟨by omega, by omega⟩ w h
  rw [ho.1, ho.2.1, ho.2.2, hy] at this
  exact this
theorem mirroredY (n : Int) (v : Value) (x : List Int) (b : Bool) (w : World) (hR : Rok n x) (hb : decide (0 < (axTo n x n.toNat).length) = b) (h : Ints w w.heap.size v x) :
    Calls Try.prog 19 #[.agg #[.int .i64 n, v]] w fun e w' => e = .returned (.bool b) ∧ Below w.heap.size w w' := by
  have hlo := hR.lo
  have hhi := hR.hi
  have := implIsMirroredC n v x ⟨by omega, by omega⟩ w h
  unfold valIsMirrored at this
  rw [axesOf_yes ((rok_iff n x).2 hR)] at this
  have e : decide (0 < (((axTo n x n.toNat).length : Nat) : Int)) = b := by rw [← hb, decide_eq_decide]; omega
  rw [e] at this
  exact this
theorem periodicY (n : Int) (v : Value) (x : List Int) (p : Int) (w : World) (hR : Rok n x) (hp : per n x = p) (h : Ints w w.heap.size v x) :
    Calls Try.prog 20 #[.agg #[.int .i64 n, v]] w fun e w' => e = .returned (.bool (decide (p < n))) ∧ Below w.heap.size w w' := by
  have hlo := hR.lo
  have hhi := hR.hi
  have := implIsPeriodicC n v x ⟨by omega, by omega⟩ w h
  rw [isPeriodic_yes ((rok_iff n x).2 hR), hp] at this
  exact this
theorem isLeastY (n : Int) (v : Value) (x : List Int) (w : World) (hR : Rok n x) (hl : leastV n x = x) (h : Ints w w.heap.size v x) :
    Calls Try.prog 22 #[.agg #[.int .i64 n, v]] w fun e w' => e = .returned (.bool true) ∧ Below w.heap.size w w' := by
  have hlo := hR.lo
  have hhi := hR.hi
  have := implIsLeastRotationC n v x ⟨by omega, by omega⟩ w h
  rw [isLeast_yes ((rok_iff n x).2 hR), hl, eqL_self] at this
  exact this
theorem rotToY (n : Int) (u v : Value) (x y : List Int) (k : Int) (w : World) (hx : Rok n x) (hy : Rok n y) (hk : rotTo n x y = k) (hu : Ints w w.heap.size u x) (hv : Ints w w.heap.size v y) :
    Calls Try.prog 24 #[.agg #[.int .i64 n, u], .agg #[.int .i64 n, v]] w fun e w' => e = .returned (.int .i64 k) ∧ Below w.heap.size w w' := by
  have hlo := hx.lo
  have hhi := hx.hi
  have := implRotationToC n u x ⟨by omega, by omega⟩ n v y ⟨by omega, by omega⟩ w hu hv
  rw [valRotationTo_yes (sameSz_iff.2 ⟨hx, hy, rfl⟩), hk] at this
  exact this
theorem areRotY (n : Int) (u v : Value) (x y : List Int) (b : Bool) (w : World) (hx : Rok n x) (hy : Rok n y) (hb : decide (0 ≤ rotTo n x y) = b) (hu : Ints w w.heap.size u x) (hv : Ints w w.heap.size v y) :
    Calls Try.prog 25 #[.agg #[.int .i64 n, u], .agg #[.int .i64 n, v]] w fun e w' => e = .returned (.bool b) ∧ Below w.heap.size w w' := by
  have hlo := hx.lo
  have hhi := hx.hi
  have := implAreRotationsC n u x ⟨by omega, by omega⟩ n v y ⟨by omega, by omega⟩ w hu hv
  unfold valAreRotations at this
  rw [valRotationTo_yes (sameSz_iff.2 ⟨hx, hy, rfl⟩), hb] at this
  exact this
theorem areFormsY (n : Int) (u v : Value) (x y : List Int) (b : Bool) (w : World) (hx : Rok n x) (hy : Rok n y) (hb : valAreForms n x n y = b) (hu : Ints w w.heap.size u x) (hv : Ints w w.heap.size v y) :
    Calls Try.prog 26 #[.agg #[.int .i64 n, u], .agg #[.int .i64 n, v]] w fun e w' => e = .returned (.bool b) ∧ Below w.heap.size w w' := by
  have hlo := hx.lo
  have hhi := hx.hi
  have := implAreFormsC n u x ⟨by omega, by omega⟩ n v y ⟨by omega, by omega⟩ w hu hv
  rw [hb] at this
  exact this
theorem least_rot {n : Int} {x : List Int} (hR : Rok n x) : decide (0 ≤ rotTo n x (leastV n x)) = true := by
  obtain ⟨j, hj⟩ := leastV_some n x
  rw [hj]
  exact decide_eq_true (rotTo_rots hR j)
theorem mir_rotB {n : Int} {x : List Int} (hR : Rok n x) {b : Bool} (hb : decide (0 < (axTo n x n.toNat).length) = b) : decide (0 ≤ rotTo n x (mapV n x (-1) 0)) = b := by
  rw [← hb, decide_eq_decide]; exact axes_rot hR
end Go.Proofs.Ytopfenhphnmfkaa
