/- The law RepoDrops returns true for all items and every number. -/
import Derived.Test.YtphbebcbbfbgpabDrop
namespace Go.Proofs.Ytphbebcbbfbgpab
open Go Go.RowKit

set_option maxHeartbeats 2000000 in
theorem lawRepoDrops (A : Option Addr) (n c : Nat) (id : Int) (ls : List Itm) (w : World) (h : Rep w w.heap.size 3 Itm.cell A n ls) (hn : n ≤ maxLen) (hr : n * 32 ≤ 140737488355328) (hnil : A = none → n = 0 ∧ c = 0) :
    Calls Try.prog 3 #[.slice A n c, .int .i64 id] w fun e w' => e = .returned (.bool true) ∧ Below w.heap.size w w' := by
  obtain ⟨us, k, hus, hk⟩ : ∃ us k, droppedR ls id = us ∧ gotK ls id = k := ⟨_, _, rfl, rfl⟩
  have hlen := h.1
  have hc : ∀ (A1 : Option Addr) (c1 : Nat) (W : World), Rep W W.heap.size 3 Itm.cell A1 n ls → (A1 = none → n = 0 ∧ c1 = 0) → Calls Try.prog 11 #[.slice A1 n c1, .int .i64 id] W (ItemsPost W us k) :=
    fun A1 c1 W h1 h2 => by rw [← hus, ← hk]; exact drop_any A1 n c1 id ls W h1 hn h2
  have hc2 : ∀ W, Below w.heap.size w W → Calls Try.prog 12 #[.slice A n c, .int .i64 id] W (ItemsPost W us k) :=
    fun W hb => by rw [← hus, ← hk]; exact dropped_any A n c id ls W ((h.below hb (Nat.le_refl _)).mono hb.size) hn
  have husl : us.length ≤ 24 := by
    rw [← hus, droppedR]
    by_cases hk0 : gotK ls id = 0
    · rw [if_pos hk0]
      have h1 : (dropL ls id).length ≤ (upRefs ls id (-1)).length := List.length_filter_le _ _
      have h2 : (upRefs ls id (-1)).length = ls.length := by simp [upRefs]
      have := (got_zero hk0).1.1
      omega
    · rw [if_neg hk0]; simp
  obtain ⟨i0, hi, hz0, hz1, hz2⟩ := info_parts infoItem
  have HI := Lib.hid hi
  have HZ0 := Lib.hid hz0
  have HZ1 := Lib.hid hz1
  have HZ2 := Lib.hid hz2
  have HREP := Lib.hid h
  have HN := Lib.hid hlen
  have HNIL := Lib.hid hnil
  have HC := Lib.hid hc
  have HC2 := Lib.hid hc2
  obtain ⟨u, hu⟩ : ∃ u, us.length = u := ⟨_, rfl⟩
  rw [hu] at husl
  have HU := Lib.hid hu
  clear hc hc2 h hlen hnil hi hz0 hz1 hz2 hus hk hu
  go_enter Try.func3, Try.ntmps3
  go_wp2_with (at_builtin; refine wpList_append_rows rfl _ _ 22 rfl 61 i0 _ 3 32 Try.underlying22 HI.out HZ0.out HZ1.out HZ2.out rfl (by decide) A n c ls rfl rfl _ HREP.out HNIL.out (itm_one ls) hn hr ?_; intro A1 c1 w1 hown hb1 hn1)
  have HB1 := Lib.hid hb1
  have HR1 := Lib.hid (Rep.of_own HN.out hown (Nat.le_refl _))
  clear hown hb1
  refine (HC.out A1 c1 _ HR1.out hn1).mono ?_
  rintro e w2 ⟨A2, c2, rfl, hown2, hb2, _, _, hn2⟩
  rw [HU.out] at hown2 hn2 ⊢
  have HB2 := Lib.hid (HB1.out.trans (hb2.mono HB1.out.size))
  have HO2 := Lib.hid hown2
  clear hb2 hown2
  go_wp2_with fail
  refine (HC2.out _ HB2.out).mono ?_
  rintro e w3 ⟨A3, c3, rfl, hown3, hb3, _, _, hn3⟩
  rw [HU.out] at hown3 hn3 ⊢
  have HB3 := Lib.hid (HB2.out.trans (hb3.mono HB2.out.size))
  have hr2 := Rep.of_own HU.out.symm (own_below HO2.out hb3) (Nat.le_refl _)
  have hr3 := Rep.of_own HU.out.symm hown3 (Nat.le_refl _)
  have HR2 := Lib.hid hr2
  have HR3 := Lib.hid hr3
  clear hb3 hown3 hr2 hr3
  go_wp2_with fail
  refine (sameItems_yes A2 A3 u c2 c3 us w3 HR2.out HR3.out (by unfold maxLen; omega)).mono ?_
  rintro e w4 ⟨rfl, hb4⟩
  have HB4 := Lib.hid (HB3.out.trans (hb4.mono HB3.out.size))
  clear hb4
  go_wp2
  go_ret
  exact ⟨rfl, HB4.out⟩
end Go.Proofs.Ytphbebcbbfbgpab
