/- slices.IndexFunc and slices.ContainsFunc at writes, and the two closures of saltcellarkeep.Writes. -/
import Derived.Test.YtphbebcbbfbgpacDoorPressRun
import Derived.Test.YtphbebcbbfbgpacDoorKept
import Derived.Test.YtphbebcbbfbgpacDoorSorted
import Derived.Shelf.Abstract
namespace Go.Proofs.YtphbebcbbfbgpacDoor
open Go Go.RowKit Go.Sort
set_option linter.unusedSimpArgs false
set_option linter.unusedVariables false

theorem writes1_any (x : Wrt) (b : Int) (bk : Nat) (w : World) (hc : w.cell? ⟨bk, 0, none⟩ = some (.int .i64 b)) (hb : bk < w.heap.size) :
    Calls Tryd.prog 62 #[.agg #[.int .i64 x.block, .string x.data], .pointer (some ⟨bk, 0, none⟩)] w fun e w' => e = .returned (.bool (decide (x.block = b))) ∧ Below w.heap.size w w' := by
  obtain ⟨y, d⟩ := x
  have hl := (World.cell?_alloc_lt w (.cells #[.int .i64 y, .string d] 55) (a := ⟨bk, 0, none⟩) hb).trans hc
  have hbe : Below w.heap.size w (w.alloc (.cells #[.int .i64 y, .string d] 55)) := (Below.refl _ _).alloc (Nat.le_refl _) _
  dsimp only
  by_cases h : y = b
  · subst h
    rw [decide_eq_true rfl]
    go_enter Tryd.func62, Tryd.ntmps62
    go_wp2
    go_ret
    exact ⟨by simp, hbe⟩
  · have hne : (y == b) = false := by simp [h]
    rw [decide_eq_false h]
    go_enter Tryd.func62, Tryd.ntmps62
    go_wp2
    go_ret
    exact ⟨by simp [hne], hbe⟩
theorem writes2_any (x y : Wsm) (w : World) : Calls Tryd.prog 64 #[.agg (Wsm.enc x).toArray, .agg (Wsm.enc y).toArray] w fun e w' => e = .returned (.int .i64 (byBlock x y)) ∧ ∃ q os', w' = grow (w.drewN q) os' := by
  obtain ⟨⟨xb, xd⟩, hx0, hx1⟩ := x
  obtain ⟨⟨yb, yd⟩, hy0, hy1⟩ := y
  dsimp only at hx0 hx1 hy0 hy1
  show Calls Tryd.prog 64 #[.agg #[.int .i64 xb, .string xd], .agg #[.int .i64 yb, .string yd]] w fun e w' => e = .returned (.int .i64 (xb - yb)) ∧ ∃ q os', w' = grow (w.drewN q) os'
  go_enter Tryd.func64, Tryd.ntmps64
  go_wp2
  go_ret
  exact ⟨rfl, 0, _, by rw [alloc_eq_grow, alloc_eq_grow, grow_grow]; rfl⟩

set_option maxHeartbeats 2000000 in
theorem indexW (b : Int) (bk : Nat) (A : Option Addr) (n c : Nat) (ls : List Wrt) (w : World) (h : Rep w w.heap.size 2 Wrt.cell A n ls) (hn : n ≤ 24) (hc : w.cell? ⟨bk, 0, none⟩ = some (.int .i64 b)) (hb : bk < w.heap.size) :
    Calls Tryd.prog 83 #[.slice A n c, .func (.func 62) #[] #[.pointer (some ⟨bk, 0, none⟩)]] w fun e w' => Below w.heap.size w w' ∧
      ((e = .returned (.int .i64 (-1)) ∧ ∀ x ∈ ls, x.block ≠ b) ∨ ∃ k : Nat, k < n ∧ e = .returned (.int .i64 k) ∧ ∃ x ∈ ls, x.block = b) := by
  have hlen := h.1
  have H := Lib.hid h
  have HL := Lib.hid hlen
  have HC := Lib.hid (fun W (hbw : Below w.heap.size w W) (x : Wrt) => writes1_any x b bk W ((hbw.cell (p := ⟨bk, 0, none⟩) hb).trans hc) (Nat.lt_of_lt_of_le hb hbw.size))
  clear h hlen hc hb
  go_enter Tryd.func83, Tryd.ntmps83
  go_wp2
  go_loopw [8] (fun t wr => ∃ k : Nat, k ≤ n ∧ t = .int .i64 k ∧ Below w.heap.size w wr ∧ Hid (∀ j (_ : j < k) (hj : j < ls.length), ls[j].block ≠ b)) (fun t _ => n - (intOf t).toNat)
  case atStart => exact ⟨0, by omega, rfl, Below.refl _ _, Lib.hid (fun j h _ => absurd h (by omega))⟩
  case round =>
    obtain ⟨k, hk, rfl, hbel, hall⟩ := hrel
    have HB := Lib.hid hbel
    clear hbel
    by_cases hlt : k < n
    · have hkl : k < ls.length := by have := HL.out; omega
      obtain ⟨b1, off, rfl, hb1, c0, c1⟩ := writes_at (k := k) (H.out.below HB.out (Nat.le_refl _)) hlt
      obtain ⟨x, hx⟩ : ∃ x, ls[k]'hkl = x := ⟨_, rfl⟩
      rw [hx] at c0 c1
      have hcx := HC.out wr HB.out x
      have HX := Lib.hid hx
      by_cases hq : x.block = b
      · rw [decide_eq_true hq] at hcx
        have hmem : ∃ x ∈ ls, x.block = b := ⟨x, by rw [← hx]; exact List.getElem_mem hkl, hq⟩
        have HM := Lib.hid hmem
        have HCX := Lib.hid hcx
        clear hx hcx hq hmem hb1
        go_wp2_with (go_at_call 62; refine HCX.out.mono ?_; rintro e w' ⟨rfl, hb1⟩)
        go_ret
        exact ⟨HB.out.trans (hb1.mono HB.out.size), .inr ⟨k, hlt, rfl, HM.out⟩⟩
      · rw [decide_eq_false hq] at hcx
        have hnew : ∀ j (_ : j < k + 1) (hj : j < ls.length), ls[j].block ≠ b := by
          intro j h1 h2
          by_cases hjk : j = k
          · subst hjk; rw [hx]; exact hq
          · exact hall.out j (by omega) h2
        have HN := Lib.hid hnew
        have HCX := Lib.hid hcx
        clear hx hcx hq hnew hb1
        go_wp2_with (go_at_call 62; refine HCX.out.mono ?_; rintro e w' ⟨rfl, hb1⟩)
        have HB1 := Lib.hid (HB.out.trans (hb1.mono HB.out.size))
        go_roundw
        case rel => exact ⟨k + 1, by omega, by go_num, HB1.out, HN⟩
        case measure => simp [intOf]; omega
    · have hall2 : ∀ x ∈ ls, x.block ≠ b := fun x hx => by
        obtain ⟨j, hj, rfl⟩ := List.getElem_of_mem hx
        exact hall.out j (by have := HL.out; omega) hj
      have HA2 := Lib.hid hall2
      clear hall2
      go_wp2
      go_ret
      exact ⟨HB.out, .inl ⟨rfl, HA2.out⟩⟩

theorem containsW (b : Int) (bk : Nat) (A : Option Addr) (n c : Nat) (ls : List Wrt) (w : World) (h : Rep w w.heap.size 2 Wrt.cell A n ls) (hn : n ≤ 24) (hc : w.cell? ⟨bk, 0, none⟩ = some (.int .i64 b)) (hb : bk < w.heap.size) :
    Calls Tryd.prog 61 #[.slice A n c, .func (.func 62) #[] #[.pointer (some ⟨bk, 0, none⟩)]] w fun e w' => Below w.heap.size w w' ∧
      ((e = .returned (.bool false) ∧ ∀ x ∈ ls, x.block ≠ b) ∨ (e = .returned (.bool true) ∧ ∃ x ∈ ls, x.block = b)) := by
  have HI := Lib.hid (indexW b bk A n c ls w h hn hc hb)
  clear h hn hc hb
  go_enter Tryd.func61, Tryd.ntmps61
  go_wp2_with fail
  with_reducible refine HI.out.mono ?_
  rintro e w1 ⟨hb1, ⟨rfl, hall⟩ | ⟨k, hk, rfl, hm⟩⟩
  · have HB1 := Lib.hid hb1
    have HA := Lib.hid hall
    clear hb1 hall
    go_wp2
    go_ret
    exact ⟨HB1.out, .inl ⟨rfl, HA.out⟩⟩
  · have HB1 := Lib.hid hb1
    have HA := Lib.hid hm
    have dk : decide ((k : Int) ≥ 0) = true := decide_eq_true (by omega)
    clear hb1 hm
    go_wp2
    go_ret
    exact ⟨HB1.out, .inr ⟨by simp, HA.out⟩⟩
end Go.Proofs.YtphbebcbbfbgpacDoor
