/- The law RepoKeeps returns true for all items and all data. -/
import Derived.Test.YtphbebcbbfbgpabKeep
namespace Go.Proofs.Ytphbebcbbfbgpab
open Go Go.RowKit

theorem keptR_len (ls : List Itm) (d : ByteArray) (h : ls.length ≤ 24 ∨ goodB ls = false) : (keptR ls d).1.length ≤ 25 := by
  unfold keptR
  split
  · rename_i hg
    have hl : ls.length ≤ 24 := by rcases h with h | h; exact h; rw [h] at hg; simp at hg
    split
    · split
      · split
        · simp
        · simp only [List.length_set]; omega
      · split
        · simp only [List.length_append, List.length_take, List.length_drop, List.length_singleton]; omega
        · simp
    · simp
  · simp

set_option maxHeartbeats 2000000 in
theorem lawRepoKeeps (A : Option Addr) (n c : Nat) (d : ByteArray) (ls : List Itm) (w : World) (h : Rep w w.heap.size 3 Itm.cell A n ls) (hn : n ≤ maxLen) (hr : n * 32 ≤ 140737488355328) (hnil : A = none → n = 0 ∧ c = 0) (hd : d.size ≤ maxLen) :
    Calls Try.prog 6 #[.slice A n c, .string d] w fun e w' => e = .returned (.bool true) ∧ Below w.heap.size w w' := by
  obtain ⟨r, hrr⟩ : ∃ r, keptR ls d = r := ⟨_, rfl⟩
  have hlen := h.1
  have hc : ∀ (A1 : Option Addr) (c1 : Nat) (W : World), Rep W W.heap.size 3 Itm.cell A1 n ls → (A1 = none → n = 0 ∧ c1 = 0) → Calls Try.prog 19 #[.slice A1 n c1, .string d] W (KeepPost W r) :=
    fun A1 c1 W h1 h2 => by rw [← hrr]; exact keep_any A1 n c1 d ls W h1 hn h2 hd
  have hc2 : ∀ W, Below w.heap.size w W → Calls Try.prog 20 #[.slice A n c, .string d] W (KeepPost W r) :=
    fun W hb => by rw [← hrr]; exact kept_any A n c d ls W ((h.below hb (Nat.le_refl _)).mono hb.size) hn hnil hd
  have husl : r.1.length ≤ 25 := by
    rw [← hrr]
    refine keptR_len ls d ?_
    cases hg : goodB ls with
    | false => exact .inr rfl
    | true => exact .inl (good_of_B hg).1
  obtain ⟨i0, hi, hz0, hz1, hz2⟩ := info_parts infoItem
  have HI := Lib.hid hi
  have HZ0 := Lib.hid hz0
  have HZ1 := Lib.hid hz1
  have HZ2 := Lib.hid hz2
  have HREP := Lib.hid h
  have HN := Lib.hid hlen
  have HNIL := Lib.hid hnil
  have HC := Lib.hid hc
  have HC2 := Lib.hid hc2
  clear hc hc2 h hlen hnil hi hz0 hz1 hz2 hrr
  obtain ⟨us, i, k⟩ := r
  dsimp only at husl
  obtain ⟨u, hu⟩ : ∃ u, us.length = u := ⟨_, rfl⟩
  rw [hu] at husl
  have HU := Lib.hid hu
  clear hu
  go_enter Try.func6, Try.ntmps6
  go_wp2_with (at_builtin; refine wpList_append_rows rfl _ _ 22 rfl 61 i0 _ 3 32 Try.underlying22 HI.out HZ0.out HZ1.out HZ2.out rfl (by decide) A n c ls rfl rfl _ HREP.out HNIL.out (itm_one ls) hn hr ?_; intro A1 c1 w1 hown hb1 hn1)
  have HB1 := Lib.hid hb1
  have HR1 := Lib.hid (Rep.of_own HN.out hown (Nat.le_refl _))
  clear hown hb1
  refine (HC.out A1 c1 _ HR1.out hn1).mono ?_
  rintro e w2 ⟨A2, c2, rfl, hown2, hb2⟩
  dsimp only at hown2 ⊢
  rw [HU.out] at hown2 ⊢
  have HB2 := Lib.hid (HB1.out.trans (hb2.mono HB1.out.size))
  have HO2 := Lib.hid hown2
  clear hb2 hown2
  go_wp2_with fail
  refine (HC2.out _ HB2.out).mono ?_
  rintro e w3 ⟨A3, c3, rfl, hown3, hb3⟩
  dsimp only at hown3 ⊢
  rw [HU.out] at hown3 ⊢
  have HB3 := Lib.hid (HB2.out.trans (hb3.mono HB2.out.size))
  have hr2 := Rep.of_own HU.out.symm (own_below HO2.out hb3) (Nat.le_refl _)
  have hr3 := Rep.of_own HU.out.symm hown3 (Nat.le_refl _)
  have HR2 := Lib.hid hr2
  have HR3 := Lib.hid hr3
  clear hb3 hown3 hr2 hr3
  go_wp2_with fail
  refine (sameItems_yes A2 A3 u c2 c3 us w3 HR2.out HR3.out (by unfold maxLen; omega)).mono ?_
  rintro e w4 ⟨rfl, hb4⟩
  have HB4 := Lib.hid (HB3.out.trans (hb4.mono HB3.out.size))
  clear hb4
  go_wp2
  go_ret
  exact ⟨rfl, HB4.out⟩
end Go.Proofs.Ytphbebcbbfbgpab
