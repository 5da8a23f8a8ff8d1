/- saltcellarlaw.sameItems, sameVolume: true of what is the same. -/
import Derived.Test.YtphbebcbbfbgpabCopy
import Derived.Test.YtphbebcbbfbgpabRepoCheck
namespace Go.Proofs.Ytphbebcbbfbgpab
open Go Go.RowKit

set_option maxHeartbeats 1000000 in
theorem sameItems_yes (A B : Option Addr) (n c d : Nat) (ls : List Itm) (w : World) (h : Rep w w.heap.size 3 Itm.cell A n ls) (h' : Rep w w.heap.size 3 Itm.cell B n ls) (hn : n ≤ maxLen) :
    Calls Try.prog 13 #[.slice A n c, .slice B n d] w fun e w' => e = .returned (.bool true) ∧ Below w.heap.size w w' := by
  have H := Lib.hid h
  have H' := Lib.hid h'
  have hnn : ((n : Int) != n) = false := by simp
  clear h h'
  unfold maxLen at hn
  go_enter Try.func13, Try.ntmps13
  go_wp2
  go_loopw [5] (fun i wr => ∃ k : Nat, k ≤ n ∧ i = .int .i64 k ∧ Below w.heap.size w wr) (fun i _ => n - (intOf i).toNat)
  case atStart => exact ⟨0, Nat.zero_le _, rfl, Below.refl _ _⟩
  case round =>
    obtain ⟨k, hk, rfl, hbel⟩ := hrel
    by_cases hlt : k < n
    · obtain ⟨b, off, rfl, hb, c0, c1, c2⟩ := items_at (H.out.below hbel (Nat.le_refl _)) hlt
      obtain ⟨b', off', rfl, hb', e0, e1, e2⟩ := items_at (H'.out.below hbel (Nat.le_refl _)) hlt
      obtain ⟨x, hx⟩ : ∃ x, ls[k]'(by have := H.out.1; omega) = x := ⟨_, rfl⟩
      rw [hx] at c0 c1 c2 e0 e1 e2
      obtain ⟨xi, xd, xr⟩ := x
      dsimp only at c0 c1 c2 e0 e1 e2
      have HB := Lib.hid hbel
      clear hx hbel hb hb'
      go_wp2
      go_quiet (fail)
      go_wp2
      go_roundw
      case rel => exact ⟨k + 1, by omega, by go_num, below_drewN HB.out _⟩
      case measure => simp [intOf]; omega
    · have HB := Lib.hid hbel
      clear hbel
      go_wp2
      go_ret
      exact ⟨rfl, HB.out⟩

theorem ints_at_s {w : World} {B n k : Nat} {A : Option Addr} {ls : List Int} (h : Rep w B 1 intCell A n ls) (hk : k < n) :
    ∃ b off, A = some ⟨b, off, none⟩ ∧ b < B ∧ w.cell? ⟨b, off + k, none⟩ = some (.int .i64 (ls[k]'(by have := h.1; omega))) := by
  obtain ⟨b, off, e, hb, hc⟩ := h.at_ hk
  exact ⟨b, off, e, hb, by have := hc 0 (by omega); rw [Nat.mul_one] at this; exact this⟩

set_option maxHeartbeats 1000000 in
theorem sameVolume_yes (A A' B B' : Option Addr) (n c c' m d d' : Nat) (ls : List Itm) (bs : List Int) (w : World) (h : Rep w w.heap.size 3 Itm.cell A n ls) (h' : Rep w w.heap.size 3 Itm.cell A' n ls)
    (hB : Rep w w.heap.size 1 intCell B m bs) (hB' : Rep w w.heap.size 1 intCell B' m bs) (hn : n ≤ maxLen) (hm : m ≤ maxLen) :
    Calls Try.prog 28 #[.agg #[.slice A n c, .slice B m d], .agg #[.slice A' n c', .slice B' m d']] w fun e w' => e = .returned (.bool true) ∧ Below w.heap.size w w' := by
  have hs : ∀ W, Below w.heap.size w W → Calls Try.prog 13 #[.slice A n c, .slice A' n c'] W fun e w' => e = .returned (.bool true) ∧ Below W.heap.size W w' :=
    fun W hb => sameItems_yes A A' n c c' ls W ((h.below hb (Nat.le_refl _)).mono hb.size) ((h'.below hb (Nat.le_refl _)).mono hb.size) hn
  have HS := Lib.hid hs
  have H := Lib.hid hB
  have H' := Lib.hid hB'
  have hnn : ((m : Int) != m) = false := by simp
  clear h h' hs hB hB'
  unfold maxLen at hn hm
  go_enter Try.func28, Try.ntmps28
  go_wp2
  have hb0 : Below w.heap.size w ((w.alloc (.cells #[.slice A n c, .slice B m d] 30)).alloc (.cells #[.slice A' n c', .slice B' m d'] 30)) := ((Below.refl _ _).alloc (Nat.le_refl _) _).alloc (by simp) _
  obtain ⟨W, hW⟩ : ∃ W, W = (w.alloc (.cells #[.slice A n c, .slice B m d] 30)).alloc (.cells #[.slice A' n c', .slice B' m d'] 30) := ⟨_, rfl⟩
  have a0 : W.cell? ⟨w.heap.size, 0, none⟩ = some (.slice A n c) := by rw [hW]; simp [go_sem]
  have a1 : W.cell? ⟨w.heap.size, 1, none⟩ = some (.slice B m d) := by rw [hW]; simp [go_sem]
  have r0 : W.cell? ⟨w.heap.size + 1, 0, none⟩ = some (.slice A' n c') := by rw [hW]; simp [go_sem]
  have r1 : W.cell? ⟨w.heap.size + 1, 1, none⟩ = some (.slice B' m d') := by rw [hW]; simp [go_sem]
  have hsz : w.heap.size + 1 < W.heap.size := by rw [hW]; simp
  rw [← hW] at hb0 ⊢
  have HB0 := Lib.hid hb0
  have A0 := Lib.hid a0
  have A1 := Lib.hid a1
  have R0 := Lib.hid r0
  have R1 := Lib.hid r1
  clear hW hb0 a0 a1 r0 r1
  go_loopw [5] (fun i wr => ∃ k : Nat, k ≤ m ∧ i = .int .i64 k ∧ Below W.heap.size W wr) (fun i _ => m - (intOf i).toNat)
  case atStart => exact ⟨0, Nat.zero_le _, rfl, Below.refl _ _⟩
  case round =>
    obtain ⟨k, hk, rfl, hbel⟩ := hrel
    have a0 := (hbel.cell (p := ⟨w.heap.size, 0, none⟩) (by dsimp only; omega)).trans A0.out
    have a1 := (hbel.cell (p := ⟨w.heap.size, 1, none⟩) (by dsimp only; omega)).trans A1.out
    have r0 := (hbel.cell (p := ⟨w.heap.size + 1, 0, none⟩) hsz).trans R0.out
    have r1 := (hbel.cell (p := ⟨w.heap.size + 1, 1, none⟩) hsz).trans R1.out
    have HB : Hid (Below w.heap.size w wr) := Lib.hid (HB0.out.trans (hbel.mono HB0.out.size))
    have HBW := Lib.hid hbel
    clear hbel
    by_cases hlt : k < m
    · obtain ⟨b, off, rfl, hb, c0⟩ := ints_at_s (H.out.below HB.out (Nat.le_refl _)) hlt
      obtain ⟨b', off', rfl, hb', e0⟩ := ints_at_s (H'.out.below HB.out (Nat.le_refl _)) hlt
      obtain ⟨x, hx⟩ : ∃ x, bs[k]'(by have := H.out.1; omega) = x := ⟨_, rfl⟩
      rw [hx] at c0 e0
      have hxx : (x != x) = false := by simp
      clear hx hb hb'
      go_wp2
      go_quiet (fail)
      go_wp2
      go_roundw
      case rel => exact ⟨k + 1, by omega, by go_num, below_drewN HBW.out _⟩
      case measure => simp [intOf]; omega
    · go_wp2_with (go_at_call 13; (with_reducible refine (HS.out _ HB.out).mono ?_); rintro e w1 ⟨rfl, hb1⟩)
      go_ret
      exact ⟨rfl, HB.out.trans (hb1.mono HB.out.size)⟩
end Go.Proofs.Ytphbebcbbfbgpab
