/-
  Contracts of FormatInt, in the program and in the reference.
  Conditions: the number is an int; for the program the library's table of powers of ten is there.
-/
import Derived.Test.YtcgpmdfcdngnlaaDoorB0
import Derived.Test.YtcgpmdfcdngnlaaDoorShI
import Derived.Lib.ItoaMem
import Derived.Lib.SmallJoins
set_option linter.unusedVariables false
set_option linter.unusedSimpArgs false
namespace Go.Proofs.YtcgpmdfcdngnlaaDoor
open Go.RowKit

def ddB (u : Nat) : ByteArray := ⟨(Lib.decDigits u).toArray⟩
def itB (n : Int) : ByteArray := ⟨(Lib.itoa n).toArray⟩
def dgB (u : Nat) : ByteArray := ⟨#[UInt8.ofNat (48 + u % 10)]⟩
theorem dgB_size (u : Nat) : (dgB u).size = 1 := rfl
theorem ddB_one {u : Nat} (h : u < 10) : ddB u = dgB u := by
  unfold ddB dgB
  rw [Lib.decDigits, dif_pos h, Nat.mod_eq_of_lt h]
theorem ddB_more {u : Nat} (h : ¬ u < 10) : ddB u = ddB (u / 10) ++ dgB u := by
  apply ByteArray.ext
  unfold ddB dgB
  rw [Lib.decDigits, dif_neg h]
  simp
theorem ddB_size (u : Nat) : (ddB u).size = Lib.nDigits u := by
  show (Lib.decDigits u).toArray.size = _
  simp [Lib.decDigits_length]
theorem nDigits_le : ∀ (k u : Nat), u < 10 ^ (k + 1) → Lib.nDigits u ≤ k + 1
  | 0, u, h => by rw [Lib.nDigits_small (by simpa using h)]; exact Nat.le_refl _
  | k + 1, u, h => by
    by_cases h1 : u < 10
    · rw [Lib.nDigits_small h1]; omega
    · rw [Lib.nDigits_big h1]
      rw [Nat.pow_succ] at h
      have := nDigits_le k (u / 10) (by omega)
      omega
theorem ddB_le {u : Nat} (h : u ≤ 9223372036854775808) : (ddB u).size ≤ 20 := by
  rw [ddB_size]; exact nDigits_le 19 u (by omega)
theorem itB_pos (u : Nat) : itB (u : Int) = ddB u := by unfold itB ddB; rw [Lib.itoa_nonneg]
theorem itB_neg {u : Nat} (h : 1 ≤ u) : itB (-(u : Int)) = (⟨#[45]⟩ : ByteArray) ++ ddB u := by
  apply ByteArray.ext
  unfold itB ddB
  rw [Lib.itoa_neg u h]
  simp
theorem itB_size (n : Int) (c : I64 n) : (itB n).size ≤ 21 := by
  obtain ⟨h1, h2⟩ := c
  by_cases h : 0 ≤ n
  · obtain ⟨u, rfl⟩ := Int.eq_ofNat_of_zero_le h
    rw [itB_pos]
    have := ddB_le (u := u) (by omega)
    omega
  · obtain ⟨u, hu⟩ := Int.eq_ofNat_of_zero_le (show 0 ≤ -n by omega)
    have e : n = -(u : Int) := by omega
    subst e
    rw [itB_neg (by omega), ByteArray.size_append]
    have := ddB_le (u := u) (by omega)
    have e1 : (⟨#[45]⟩ : ByteArray).size = 1 := rfl
    omega
theorem ret_strT {a b : ByteArray} (h : a = b) : Ending.returned (.string a) = Ending.returned (.string b) := by rw [h]
theorem convByte (w : World) (c : Int) (b : UInt8) (h : (b.toNat : Int) = c) : (convert 43 9 (.slice (some ⟨w.heap.size, 0, none⟩) 1 1)).run Tryd.prog (w.alloc (.cells #[.int .u8 c] 5)) = .ok (.string ⟨#[b]⟩) (w.alloc (.cells #[.int .u8 c] 5)) := by
  refine run_convert_bytes_back (P := Tryd.prog) _ 43 9 5 ⟨w.heap.size, 0, none⟩ 1 [b] Tryd.underlying43 Tryd.underlying5 Tryd.underlying9 ?_
  intro j hj
  have : j = 0 := by simpa using hj
  subst this
  refine (cellNewAt w _ _ 0 rfl (v := .int .u8 c) rfl).trans ?_
  simp only [List.getElem_cons_zero]
  rw [h]
theorem convAt (W : World) (g : Nat) (c : Int) (b : UInt8) (h : (b.toNat : Int) = c) (hc : W.cell? ⟨g, 0, none⟩ = some (.int .u8 c)) : (convert 43 9 (.slice (some ⟨g, 0, none⟩) 1 1)).run Tryd.prog W = .ok (.string ⟨#[b]⟩) W := by
  refine run_convert_bytes_back (P := Tryd.prog) _ 43 9 5 ⟨g, 0, none⟩ 1 [b] Tryd.underlying43 Tryd.underlying5 Tryd.underlying9 ?_
  intro j hj
  have : j = 0 := by simpa using hj
  subst this
  refine hc.trans ?_
  simp only [List.getElem_cons_zero]
  rw [h]
theorem dgB_nat (u : Nat) : ((UInt8.ofNat (48 + u % 10)).toNat : Int) = 48 + (u : Int) % 10 := by
  rw [UInt8.toNat_ofNat']; omega

set_option maxRecDepth 20000 in
set_option maxHeartbeats 800000 in
theorem specFormatIntP (k : Nat) (hk : k ≤ 9223372036854775807) (w : World) :
    Calls Tryd.prog 9 #[.int .i64 (k : Int)] w fun e w' => e = .returned (.string (ddB k)) ∧ Below w.heap.size w w' := by
  have hk0 : ¬ (k : Int) < 0 := by omega
  have hsz := ddB_le (u := k) (by omega)
  go_enter Tryd.func9, Tryd.ntmps9
  go_wp2
  go_loopw [0, 3] (fun i u wr => ∃ (j : Nat) (out : ByteArray), j ≤ k ∧ i = .int .i64 (j : Int) ∧ u = .string out ∧ ddB k = ddB j ++ out ∧ out.size + (ddB j).size ≤ 20 ∧ Below w.heap.size w wr) (fun i _ _ => (intOf i).toNat)
  case atStart => exact ⟨k, ⟨#[]⟩, Nat.le_refl _, rfl, rfl, by apply ByteArray.ext; simp, by rw [show (⟨#[]⟩ : ByteArray).size = 0 from rfl]; omega, Below.refl _ _⟩
  case round =>
    obtain ⟨j, out, hj, rfl, rfl, hrec, hsz2, hb⟩ := hrel
    have HR := Lib.hid hrec
    have HB := Lib.hid hb
    have HZ := Lib.hid hsz2
    clear hrec hb hsz2
    by_cases hz : (9 : Int) < (j : Int)
    · have hconv := convByte wr (48 + (j : Int) % 10) _ (dgB_nat j)
      have HS := Lib.hid (ddB_more (u := j) (by omega))
      have hlen := HZ.out
      rw [HS.out, ByteArray.size_append] at hlen
      generalize hM : (⟨#[UInt8.ofNat (48 + j % 10)]⟩ : ByteArray) = M at *
      have HM : Hid (dgB j = M) := by unfold Hid dgB; exact hM
      have hMs : M.size = 1 := by rw [← hM]; rfl
      have ho : out.size ≤ 20 := by omega
      have hz9 : (ddB (j / 10)).size + M.size + out.size ≤ 20 := by rw [HM.out] at hlen; omega
      have HZ9 := Lib.hid hz9
      clear hM hlen hz9
      go_wp2
      go_roundw
      case rel =>
        refine ⟨j / 10, M ++ out, by omega, by go_num, rfl, ?_, ?_, HB.out.alloc HB.out.size _⟩
        · rw [HR.out, HS.out, HM.out, ByteArray.append_assoc]
        · rw [ByteArray.size_append]; have := HZ9.out; omega
      case measure => simp [intOf]; omega
    · have hconv := convByte wr (48 + (j : Int)) (UInt8.ofNat (48 + j % 10)) (by rw [dgB_nat]; omega)
      have HS := Lib.hid (ddB_one (u := j) (by omega))
      generalize hM : (⟨#[UInt8.ofNat (48 + j % 10)]⟩ : ByteArray) = M at *
      have HM : Hid (dgB j = M) := by unfold Hid dgB; exact hM
      have hMs : M.size = 1 := by rw [← hM]; rfl
      have ho : out.size ≤ 20 := by have := HZ.out; omega
      clear hM
      go_wp2
      go_ret
      exact ⟨ret_strT (by rw [HR.out, HS.out, HM.out]), HB.out.alloc HB.out.size _⟩

set_option maxRecDepth 20000 in
set_option maxHeartbeats 800000 in
theorem specFormatIntN (f : Nat) : ∀ (u : Nat) (w : World), u ≤ f → 1 ≤ u → u ≤ 9223372036854775808 →
    Calls Tryd.prog 9 #[.int .i64 (-(u : Int))] w fun e w' => e = .returned (.string ((⟨#[45]⟩ : ByteArray) ++ ddB u)) ∧ Below w.heap.size w w' := by
  induction f with
  | zero => intro u w h1 h2; omega
  | succ f ih =>
    intro u w hf h1 h2
    obtain ⟨n, hn⟩ : ∃ n : Int, -(u : Int) = n := ⟨_, rfl⟩
    have hn0 : n < 0 := by omega
    by_cases h : u < 10
    · have hq : n.tdiv 10 = 0 := by
        rw [← hn, Int.neg_tdiv, Int.tdiv_eq_ediv_of_nonneg (by omega)]; omega
      have hconv := convByte w (48 - n) (UInt8.ofNat (48 + u % 10)) (by rw [dgB_nat]; omega)
      have HS := Lib.hid (ddB_one (u := u) (by omega))
      generalize hM : (⟨#[UInt8.ofNat (48 + u % 10)]⟩ : ByteArray) = M at *
      have HM : Hid (dgB u = M) := by unfold Hid dgB; exact hM
      have hMs : M.size = 1 := by rw [← hM]; rfl
      have hlow : -10 < n := by omega
      rw [hn]
      clear hM hn
      go_enter Tryd.func9, Tryd.ntmps9
      go_wp2_with fail
      go_ret
      exact ⟨ret_strT (by rw [HS.out, HM.out]), (Below.refl _ _).alloc (Nat.le_refl _) _⟩
    · have hq : n.tdiv 10 = -((u / 10 : Nat) : Int) := by
        rw [← hn, Int.neg_tdiv, Int.tdiv_eq_ediv_of_nonneg (by omega)]; omega
      have hr : n.tmod 10 = -((u % 10 : Nat) : Int) := by
        rw [← hn, Int.neg_tmod, Int.tmod_eq_emod_of_nonneg (by omega)]; omega
      obtain ⟨q, hqq⟩ : ∃ q : Nat, u / 10 = q := ⟨_, rfl⟩
      obtain ⟨r, hrr⟩ : ∃ r : Nat, u % 10 = r := ⟨_, rfl⟩
      rw [hqq] at hq
      rw [hrr] at hr
      obtain ⟨m, hm⟩ : ∃ m : Int, -(q : Int) = m := ⟨_, rfl⟩
      rw [hm] at hq
      have hw1 : IntKind.i64.wrap m = m := IntWalk.i64_in _ (by omega)
      obtain ⟨mr, hmr⟩ : ∃ mr : Int, -(r : Int) = mr := ⟨_, rfl⟩
      rw [hmr] at hr
      obtain ⟨c, hc⟩ : ∃ c : Int, 48 + (r : Int) = c := ⟨_, rfl⟩
      have hw2 : IntKind.i64.wrap (n.tmod 10) = mr := by rw [hr]; exact IntWalk.i64_in _ (by omega)
      have hw3 : IntKind.i64.wrap (48 - mr) = c := by rw [← hmr, show (48 : Int) - -(r : Int) = c by omega]; exact IntWalk.i64_in _ (by omega)
      have hlow : n ≤ -10 := by omega
      have hmlow : m < 0 := by omega
      have hmlo : -9223372036854775808 ≤ m := by omega
      have hm2 : ¬ m = 0 := by omega
      have hm3 : (m == 0) = false := by simp; omega
      have hc0 : 0 ≤ c := by omega
      have hc9 : c ≤ 57 := by omega
      have hw4 : IntKind.u8.wrap c = c := by unfold IntKind.wrap; simp [IntKind.signed, IntKind.bits]; omega
      have HS := Lib.hid (ddB_more h)
      have hbyte : ((UInt8.ofNat (48 + u % 10)).toNat : Int) = c := by rw [dgB_nat]; omega
      have ihq : Hid (∀ W : World, Calls Tryd.prog 9 #[.int .i64 m] W fun e w' => e = .returned (.string ((⟨#[45]⟩ : ByteArray) ++ ddB q)) ∧ Below W.heap.size W w') := fun W => by
        have := ih q W (by omega) (by omega) (by omega)
        rw [hm] at this; exact this
      have hcv : Hid (∀ W : World, (convert 43 9 (.slice (some ⟨W.heap.size, 0, none⟩) 1 1)).run Tryd.prog (W.alloc (.cells #[.int .u8 c] 5)) = .ok (.string ⟨#[UInt8.ofNat (48 + u % 10)]⟩) (W.alloc (.cells #[.int .u8 c] 5))) := fun W => convByte W c _ hbyte
      have hca : Hid (∀ (W : World) (g : Nat), W.cell? ⟨g, 0, none⟩ = some (.int .u8 c) → (convert 43 9 (.slice (some ⟨g, 0, none⟩) 1 1)).run Tryd.prog W = .ok (.string ⟨#[UInt8.ofNat (48 + u % 10)]⟩) W) := fun W g => convAt W g c _ hbyte
      have hzq := ddB_le (u := q) (by omega)
      have hzp : ((⟨#[45]⟩ : ByteArray) ++ ddB q).size ≤ 21 := by rw [ByteArray.size_append]; have e1 : (⟨#[45]⟩ : ByteArray).size = 1 := rfl; omega
      have HQ : Hid (ddB u = ddB q ++ dgB u) := by have := HS.out; rw [hqq] at this; exact this
      generalize hD : (⟨#[45]⟩ : ByteArray) ++ ddB q = D at *
      have HD := Lib.hid hD
      generalize hM : (⟨#[UInt8.ofNat (48 + u % 10)]⟩ : ByteArray) = M at *
      have HM : Hid (dgB u = M) := by unfold Hid dgB; exact hM
      have hMs : M.size = 1 := by rw [← hM]; rfl
      rw [hn]
      clear hM hD hn hm hqq hrr hmr hbyte ih hzq hc
      go_enter Tryd.func9, Tryd.ntmps9
      go_wp2_with fail
      have hc1 := hcv.out w.drew
      have hc4 := hca.out (w.alloc (.cells #[.int .u8 c] 5)).drew w.heap.size (cellNewAt w _ _ 0 rfl rfl)
      go_region_with (go_at_call 9; refine (ihq.out _).mono ?_; rintro e w1 ⟨rfl, b1⟩; have hc2 := hcv.out w1; (try (have hc3 := hca.out w1 w.heap.size (cellAfter b1 (cellNewAt w.drew _ _ 0 rfl rfl)))))
      all_goals
        go_wp2
        go_ret
        refine ⟨ret_strT (by rw [HQ.out, HM.out, ← ByteArray.append_assoc, HD.out]), ?_⟩
        first
          | exact bel_alloc (bel_step (Below.drew (Below.refl _ _)) b1 (Nat.le_refl _)) _
          | exact bel_step (show Below w.heap.size w _ by (repeat (first | (with_reducible exact (Below.refl _ _)) | (with_reducible refine bel_alloc ?_ _) | (with_reducible refine Below.drew ?_) | (with_reducible refine bel_drewN ?_ _) | (with_reducible refine Below.setCell ?_ (by simp) _)))) b1 (by (first | omega | (simp; done) | (simp; omega)))
theorem specFormatIntC (n : Int) (c : I64 n) (w : World) :
    Calls Tryd.prog 9 #[.int .i64 n] w fun e w' => e = .returned (.string (itB n)) ∧ Below w.heap.size w w' := by
  obtain ⟨h1, h2⟩ := c
  by_cases h : 0 ≤ n
  · obtain ⟨u, rfl⟩ := Int.eq_ofNat_of_zero_le h
    rw [itB_pos]
    exact specFormatIntP u (by omega) w
  · obtain ⟨u, hu⟩ := Int.eq_ofNat_of_zero_le (show 0 ≤ -n by omega)
    have e : n = -(u : Int) := by omega
    subst e
    rw [itB_neg (by omega)]
    exact specFormatIntN u u w (Nat.le_refl _) (by omega) (by omega)

/-- The library's table of powers of ten lies there. -/
def Tab10 (w : World) : Prop := Lib.TabIs Tryd.prog w "internal/strconv.uint64pow10" .u64 Lib.pow10Tab
theorem globTab : Tryd.prog.globalNamed "internal/strconv.uint64pow10" = some 3 := by kernel_rfl
theorem Tab10.below {w w' : World} (h : Tab10 w) (hb : Below w.heap.size w w') : Tab10 w' := Joins.tab_stays globTab h hb (Nat.le_refl _)
theorem bel_grow (w : World) (k : Nat) (os : Array Obj) : Below w.heap.size w (Sort.grow (w.drewN k) os) :=
  ⟨rfl, rfl, rfl, by simp [Sort.grow, World.drewN], fun b hb => by
    show ((w.drewN k).heap ++ os)[b]? = w.heap[b]?
    rw [Array.getElem?_append_left (by simpa [World.drewN] using hb)]; rfl⟩
theorem itoaC (n : Int) (c : I64 n) (w : World) (ht : Tab10 w) :
    Calls Tryd.prog 32 #[.int .i64 n] w fun e w' => e = .returned (.string (itB n)) ∧ Below w.heap.size w w' := by
  refine (Tryd.strconv_Itoa n c.1 c.2 w ht).mono fun e w' ⟨he, k, os, hw⟩ => ⟨he, ?_⟩
  subst hw
  exact bel_grow w k os
theorem implFormatIntC (n : Int) (c : I64 n) (w : World) (ht : Tab10 w) :
    Calls Tryd.prog 10 #[.int .i64 n] w fun e w' => e = .returned (.string (itB n)) ∧ Below w.heap.size w w' := by
  have H := Lib.hid (itoaC n c w ht)
  obtain ⟨c1, c2⟩ := c
  clear ht
  go_enter Tryd.func10, Tryd.ntmps10
  go_wp2_with (go_at_call 32; refine H.out.mono ?_; rintro e w' ⟨rfl, b1⟩)
  go_ret
  exact ⟨rfl, b1⟩
end Go.Proofs.YtcgpmdfcdngnlaaDoor
