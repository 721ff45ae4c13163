/-
  Contract of bytes.Repeat at one byte.
  Conditions: from one to 24 times.
-/
import Derived.Test.YtcgpmdfcdngnlaaB0
import Derived.Test.YtcgpmdfcdngnlaaSh2
import Derived.Lib.MakeNoZero
import Derived.Laws.CopyOwn
import Derived.Deep.RegionLaw
set_option linter.unusedVariables false
set_option linter.unusedSimpArgs false
namespace Go.Proofs.Ytcgpmdfcdngnlaa
open Go.RowKit Go.Shelf

/-- A slice of bytes of the call's own. -/
def OwnB (w : World) (B : Nat) (v : Value) (xs : List Int) : Prop := w.ownsRow B 5 1 v xs.length (xs.map (Value.int .u8))
/-- The first k cells of a row are the byte 46. -/
def Dots (w : World) (g c k : Nat) : Prop := ∃ cur : List Value, cur.length = c ∧ w.heap[g]? = some (.cells cur.toArray 5 (0, 0)) ∧ ∀ j, j < k → cur[j]? = some (.int .u8 46)

theorem infoByte : (Try.prog.info? 5).map (·.size) = some 1 := by kernel_rfl
theorem splice_get {L : List Value} {k m : Nat} {v : Value} (h : k + m ≤ L.length) (hd : ∀ j, j < k → L[j]? = some v) : ∀ j, j < k + m → (splice L k (List.replicate m v))[j]? = some v := by
  intro j hj
  unfold splice
  have ht : (L.take k).length = k := by rw [List.length_take]; omega
  by_cases h1 : j < k
  · rw [List.getElem?_append_left (by omega), List.getElem?_take, if_pos h1]; exact hd j h1
  · rw [List.getElem?_append_right (by omega), ht, List.getElem?_append_left (by simp; omega), List.getElem?_replicate, if_pos (by omega)]
theorem dots_splice {w' : World} {g c k m : Nat} {L : List Value} (hl : L.length = c) (h : k + m ≤ c) (hd : ∀ j, j < k → L[j]? = some (.int .u8 46)) (hg : w'.heap[g]? = some (.cells (splice L k (List.replicate m (.int .u8 46))).toArray 5 (0, 0))) : Dots w' g c (k + m) :=
  ⟨_, by rw [length_splice _ _ _ (by simp; omega)]; exact hl, hg, splice_get (by omega) hd⟩
theorem dot_cell {w : World} {g c k : Nat} (h : Dots w g c k) {j : Nat} (hj : j < k) : w.cell? ⟨g, j, none⟩ = some (.int .u8 46) := by
  obtain ⟨cur, hl, hg, hd⟩ := h
  rw [cell_of_row w g j _ _ (0, 0) hg]
  simpa using hd j hj
theorem mulOne (n : Nat) (hn : n ≤ 24) (w : World) : Calls Try.prog 38 #[.int .u64 1, .int .u64 (n : Int)] w fun e w' => e = .returned (.tuple #[.int .u64 0, .int .u64 (n : Int)]) ∧ w' = w := by
  have h := Try.bits_Mul 1 n (by decide) (by omega) w
  have e1 : 1 * n / 18446744073709551616 = 0 := by omega
  have e2 : 1 * n % 18446744073709551616 = n := by omega
  rw [e1, e2] at h
  exact h
set_option maxRecDepth 20000 in
set_option maxHeartbeats 1000000 in
theorem implRepeat1 (q n : Nat) (cq : Nat) (w : World) (hn : 1 ≤ n) (hn' : n ≤ 24) (hq : w.cell? ⟨q, 0, none⟩ = some (.int .u8 46)) :
    Calls Try.prog 43 #[.slice (some ⟨q, 0, none⟩) 1 cq, .int .i64 (n : Int)] w fun e w' => ∃ c, e = .returned (.slice (some ⟨w.heap.size, 0, none⟩) n n) ∧ n ≤ c ∧ Dots w' w.heap.size c n ∧ Below w.heap.size w w' := by
  have hq1 := World.block_lt_of_cell? _ _ hq
  have h1 : ¬ (n : Int) = 0 := by omega
  have h2 : ¬ (n : Int) < 0 := by omega
  have h1b : ((n : Int) == 0) = false := by simp; omega
  go_enter Try.func43, Try.ntmps43
  obtain ⟨cs, hrun, hle, hmax⟩ := Lib.run_makeNoZero (P := Try.prog) w #[3] 49 5 Try.underlying49 n (by omega)
  have hcall : (callFunc 50 #[.int .i64 (n : Int)]).run Try.prog w = .ok (.value (.slice (some ⟨w.heap.size, 0, none⟩) n cs.size)) ((w.alloc (.cells cs 5)).drewN 2) := by
    rw [run_callFunc_extern Try.func50 (by kernel_rfl) (by kernel_rfl) (by kernel_rfl) (e := Extern.BytealgMakeNoZero.makeNoZero #[3] #[49]) (by kernel_rfl), hrun]
    rfl
  clear hrun
  have hcm := hmax (by unfold maxLen; omega)
  unfold maxLen at hcm
  clear hmax
  have hcl : cs.toList.length = cs.size := by simp
  have HG : Hid (((w.alloc (.cells cs 5)).drewN 2).heap[w.heap.size]? = some (.cells cs.toList.toArray 5 (0, 0))) := by
    unfold Hid
    have := heap_alloc_new w (.cells cs 5)
    simpa using this
  have HQ : Hid (((w.alloc (.cells cs 5)).drewN 2).cell? ⟨q, 0, none⟩ = some (.int .u8 46)) := by unfold Hid; exact cellDrewN (cellAlloc _ hq)
  have hn1 : (List.replicate 1 (Value.int .u8 46)).length = Nat.min 1 n := by
    rw [List.length_replicate]; exact (Nat.min_eq_left hn).symm
  have hsrc : ∀ (W : World), W.cell? ⟨q, 0, none⟩ = some (.int .u8 46) → ∀ (j : Nat) (v : Value), (List.replicate 1 (Value.int .u8 46))[j]? = some v → W.cell? ((⟨q, 0, none⟩ : Addr).add j) = some v := fun W h j v hj => by
    rw [List.getElem?_replicate] at hj
    split at hj
    · have : j = 0 := by omega
      subst this
      cases hj
      simpa [Addr.add] using h
    · cases hj
  have hone : ∀ (m : Nat), ∀ v ∈ List.replicate m (Value.int .u8 46), v.oneCell' = true := fun m v hv => by
    rw [List.mem_replicate] at hv; rw [hv.2]; rfl
  have HN1 := Lib.hid hn1
  have HSRC := Lib.hid hsrc
  have HONE := Lib.hid hone
  clear hn1 hsrc hone
  go_wp2_with (first
    | (go_at_call 38; refine (mulOne n (by omega) _).mono ?_; rintro e w1 ⟨rfl, hw1⟩; rw [hw1]; clear hw1 w1)
    | (refine wpList_copy_splice rfl _ _ 49 49 rfl 5 Try.underlying49 infoByte _ _ n n 1 cq rfl rfl w.heap.size 0 cs.toList 5 HG.out (List.replicate 1 (.int .u8 46)) HN1.out (fun _ => ⟨rfl, _, rfl, HSRC.out _ HQ.out⟩) (by rw [List.length_replicate]; omega) (HONE.out 1) w.heap.size w (bel_drewN ((Below.refl _ _).alloc (Nat.le_refl _) _) 2) (Nat.le_refl _) ?_; intro w2 hrow hbel; have HROW := Lib.hid hrow.out; have HBEL := Lib.hid hbel; clear hrow hbel))
  have HD2 : Hid (Dots w2 w.heap.size cs.size 1) := by
    have := dots_splice (k := 0) (m := 1) hcl (by omega) (fun j hj => absurd hj (Nat.not_lt_zero _)) HROW.out
    exact this
  clear HROW HG HQ
  generalize hC : cs.size = C at *
  clear hC hcall hcl
  go_loopw [10] (fun i wr => ∃ k : Nat, 1 ≤ k ∧ k ≤ n ∧ i = .int .i64 (k : Int) ∧ Dots wr w.heap.size C k ∧ Below w.heap.size w wr) (fun i _ => n - (intOf i).toNat)
  case atStart => exact ⟨1, Nat.le_refl _, hn, rfl, HD2.out, HBEL.out⟩
  case round =>
    obtain ⟨k, hk1, hk, rfl, hdots, hb⟩ := hrel
    have HB := Lib.hid hb
    by_cases hlt : k < n
    · obtain ⟨cur, hcl, hg, hdd⟩ := hdots
      obtain ⟨m, hm⟩ : ∃ m : Nat, m = Nat.min k (n - k) := ⟨_, rfl⟩
      have hm1 : 1 ≤ m := by rw [hm]; exact (Nat.le_min.2 ⟨hk1, by omega⟩)
      have hm2 : m ≤ n - k := by rw [hm]; exact Nat.min_le_right _ _
      have HM : Hid ((List.replicate m (Value.int .u8 46)).length = Nat.min k (n - k)) := by unfold Hid; rw [List.length_replicate, hm]
      have HD := Lib.hid hdd
      have HG := Lib.hid hg
      have HL := Lib.hid hcl
      have HMK : Hid (m ≤ k) := by unfold Hid; rw [hm]; exact Nat.min_le_left _ _
      have hmin : ¬ (n : Int) < (k : Int) := by omega
      clear hdd hg hcl hm hb
      have hmn : min (k : Int) (n : Int) = (k : Int) := Int.min_eq_left (by omega)
      have HSD : Hid (∀ (j : Nat) (v : Value), (List.replicate m (Value.int .u8 46))[j]? = some v → wr.drew.cell? ((⟨w.heap.size, 0, none⟩ : Addr).add j) = some v) := fun j v hj => by
        rw [List.getElem?_replicate] at hj
        split at hj
        · cases hj
          have := dot_cell (j := j) ⟨cur, HL.out, HG.out, HD.out⟩ (by have := HMK.out; omega)
          rw [show ((⟨w.heap.size, 0, none⟩ : Addr).add j) = ⟨w.heap.size, j, none⟩ from by simp [Addr.add]; exact fun h => h.symm]; exact this
        · cases hj
      have hne : ¬ n = k := by omega
      go_wp2_with fail
      try rw [hmn]
      clear hmn
      go_region_law (refine step_copy_splice rfl (.tmp 70) (.tmp 73) 49 49 rfl 5 Try.underlying49 infoByte (some ⟨w.heap.size, k, none⟩) (some ⟨w.heap.size, 0, none⟩) (n - k) (n - k) k n (by simp [Act.eval, Act.put]) (by simp [Act.eval, Act.put]) w.heap.size k cur 5 HG.out (List.replicate m (.int .u8 46)) HM.out (fun _ => ⟨rfl, _, rfl, HSD.out⟩) (by rw [List.length_replicate]; have := HL.out; omega) (HONE.out m) w.heap.size w (Below.drew HB.out) (Nat.le_refl _) ?_; intro w3 hrow hbel; have HROW := Lib.hid hrow.out; have HBEL2 := Lib.hid hbel; clear hrow hbel; rw [List.length_replicate])
      all_goals
        have hwr : IntKind.i64.wrap ((k : Int) + (m : Int)) = ((k + m : Nat) : Int) := by rw [IntWalk.i64_in _ (by omega)]; omega
        go_simp
        go_wp2
        try rw [hwr]
        go_roundw
        case rel => exact ⟨k + m, by omega, by omega, rfl, dots_splice HL.out (by omega) HD.out HROW.out, HBEL2.out⟩
        case measure => simp [intOf]; omega
    · have e : k = n := by omega
      subst e
      have HD := Lib.hid hdots
      clear hdots hb
      go_wp2
      go_ret
      exact ⟨C, rfl, hle, HD.out, HB.out⟩
end Go.Proofs.Ytcgpmdfcdngnlaa
