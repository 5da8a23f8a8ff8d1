/- The law Names returns true. -/
import Derived.Test.YtphbebcbbfbgpaaMem
import Derived.Test.YtphbebcbbfbgpaaProg
namespace Go.Proofs.Ytphbebcbbfbgpaa
open Go Go.RowKit

theorem names_cell1 (w : World) (T : TypeId) (k : Nat) (hk : k < 9) :
    (w.alloc (.cells #[.int .i64 0, .int .i64 1, .int .i64 2, .int .i64 3, .int .i64 4, .int .i64 5, .int .i64 6, .int .i64 7, .int .i64 8] T)).cell? ⟨w.heap.size, k, none⟩ = some (.int .i64 k) := by
  rw [World.cell?_alloc_new]
  have : k = 0 ∨ k = 1 ∨ k = 2 ∨ k = 3 ∨ k = 4 ∨ k = 5 ∨ k = 6 ∨ k = 7 ∨ k = 8 := by omega
  rcases this with rfl | rfl | rfl | rfl | rfl | rfl | rfl | rfl | rfl <;> rfl

def namesRow : Array Value := #[.int .i64 48, .int .i64 32, .int .i64 24, .int .i64 32, .int .i64 12, .int .i64 4000, .int .i64 300, .int .i64 1, .int .i64 2, .int .i64 3, .int .i64 4, .int .i64 5, .int .i64 6, .int .i64 7, .int .i64 8, .int .i64 9]
theorem names_row (k : Nat) (hk : k < 16) : ∃ n, namesRow[k]? = some (.int .i64 n) := by
  have : k = 0 ∨ k = 1 ∨ k = 2 ∨ k = 3 ∨ k = 4 ∨ k = 5 ∨ k = 6 ∨ k = 7 ∨ k = 8 ∨ k = 9 ∨ k = 10 ∨ k = 11 ∨ k = 12 ∨ k = 13 ∨ k = 14 ∨ k = 15 := by omega
  rcases this with rfl | rfl | rfl | rfl | rfl | rfl | rfl | rfl | rfl | rfl | rfl | rfl | rfl | rfl | rfl | rfl <;> exact ⟨_, rfl⟩

set_option maxHeartbeats 1000000 in
theorem lawNames (w : World) :
    Calls Try.prog 3 #[] w fun e w' => e = .returned (.bool true) ∧ Below w.heap.size w w' := by
  go_enter Try.func3, Try.ntmps3
  go_wp2
  go_loop [2] (fun i => ∃ k : Nat, k ≤ 9 ∧ i = .int .i64 k) (fun i => 9 - (intOf i).toNat)
  case atStart => exact ⟨0, by omega, rfl⟩
  case round =>
    obtain ⟨k, hk, rfl⟩ := hrel
    by_cases hlt : k < 9
    · have hc := names_cell1 w 22 k hlt
      go_wp2
      go_round
      case rel => exact ⟨k + 1, by omega, by go_num⟩
      case measure => simp [intOf]; omega
    · obtain rfl : k = 9 := by omega
      obtain ⟨w1, hw1⟩ : ∃ w1, w1 = w.alloc (.cells #[.int .i64 0, .int .i64 1, .int .i64 2, .int .i64 3, .int .i64 4, .int .i64 5, .int .i64 6, .int .i64 7, .int .i64 8] 22) := ⟨_, rfl⟩
      have hb1 : Below w.heap.size w w1 := by rw [hw1]; exact (Below.refl _ _).alloc (Nat.le_refl _) _
      rw [← hw1]
      have HB := Lib.hid hb1
      clear hb1 hw1
      go_wp2
      obtain ⟨w2, hw2⟩ : ∃ w2, w2 = (w1.alloc (.cells namesRow 3)).alloc (.cells namesRow 3) := ⟨_, rfl⟩
      have hb2 : Below w.heap.size w w2 := by rw [hw2]; exact (HB.out.alloc HB.out.size _).alloc (by simp; exact Nat.le_succ_of_le HB.out.size) _
      have hc1 : ∀ k, w2.cell? ⟨w1.heap.size, k, none⟩ = namesRow[k]? := fun k => by
        rw [hw2, World.cell?_alloc_lt _ _ _ (by simp), World.cell?_alloc_new]
      have hc2 : ∀ k, w2.cell? ⟨w1.heap.size + 1, k, none⟩ = namesRow[k]? := fun k => by
        rw [hw2, show w1.heap.size + 1 = (w1.alloc (.cells namesRow 3)).heap.size by simp, World.cell?_alloc_new]
      have hl1 : w1.heap.size < w2.heap.size := by rw [hw2]; simp; omega
      have hl2 : w1.heap.size + 1 < w2.heap.size := by rw [hw2]; simp
      unfold namesRow at hw2
      rw [← hw2]
      clear hw2
      have HB2 := Lib.hid hb2
      have HC1 := Lib.hid hc1
      have HC2 := Lib.hid hc2
      clear hb2 hc1 hc2
      go_loopw [5] (fun i wr => ∃ k : Nat, k ≤ 16 ∧ i = .int .i64 k ∧ Below w2.heap.size w2 wr) (fun i _ => 16 - (intOf i).toNat)
      case atStart => exact ⟨0, by omega, rfl, Below.refl _ _⟩
      case round =>
        obtain ⟨k, hk, rfl, hbel⟩ := hrel
        by_cases hlt : k < 16
        · obtain ⟨n, hn⟩ := names_row k hlt
          have c1 := (hbel.cell (p := ⟨w1.heap.size, k, none⟩) hl1).trans ((HC1.out k).trans hn)
          have c2 := (hbel.cell (p := ⟨w1.heap.size + 1, k, none⟩) hl2).trans ((HC2.out k).trans hn)
          have HB3 := Lib.hid hbel
          have hne : (n != n) = false := by simp
          clear hbel hn
          go_wp2
          go_quiet (fail)
          go_wp2
          go_roundw
          case rel => exact ⟨k + 1, by omega, by go_num, below_drewN HB3.out _⟩
          case measure => simp [intOf]; omega
        · have HB3 := Lib.hid hbel
          clear hbel
          go_wp2
          go_ret
          exact ⟨rfl, HB2.out.trans (HB3.out.mono HB2.out.size)⟩
#print axioms lawNames
end Go.Proofs.Ytphbebcbbfbgpaa
