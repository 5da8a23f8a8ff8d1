/- The law VolumeNews returns true for every number. -/
import Derived.Test.YtphbebcbbfbgpaaVolNew
import Derived.Test.YtphbebcbbfbgpaaSame
namespace Go.Proofs.Ytphbebcbbfbgpaa
open Go Go.RowKit

structure VF2 (B : Nat) (s1 s2 : Value) (W : World) : Prop where
  a0 : W.cell? ⟨B, 0, none⟩ = some s1
  a1 : W.cell? ⟨B, 1, none⟩ = some s2
  sz : B < W.heap.size
theorem VF2.step {W W' : World} {B : Nat} {s1 s2 : Value} (h : VF2 B s1 s2 W) (hb : Below W.heap.size W W') : VF2 B s1 s2 W' where
  a0 := (hb.cell h.sz).trans h.a0
  a1 := (hb.cell h.sz).trans h.a1
  sz := Nat.lt_of_lt_of_le h.sz hb.size

set_option maxHeartbeats 2000000 in
theorem lawVolumeNews (k : Int) (w : World) (hi64 : i64Ok k) :
    Calls Try.prog 10 #[.int .i64 k] w fun e w' => e = .returned (.bool true) ∧ Below w.heap.size w w' := by
  obtain ⟨bs, y, hbs, hy⟩ : ∃ bs y, newBs k = bs ∧ newK k = y := ⟨_, _, rfl, rfl⟩
  have hc : ∀ W, Calls Try.prog 24 #[.int .i64 k] W (NewPost W bs y) := fun W => by rw [← hbs, ← hy]; exact new_any k W
  have hc2 : ∀ W, Calls Try.prog 25 #[.int .i64 k] W (NewPost W bs y) := fun W => by rw [← hbs, ← hy]; exact volumeOf_any k W hi64
  obtain ⟨u, hu⟩ : ∃ u, bs.length = u := ⟨_, rfl⟩
  have hul : u ≤ 32 := by
    rw [← hu, ← hbs, newBs]
    split
    · rw [List.length_replicate]; omega
    · simp
  have HU := Lib.hid hu
  have HC := Lib.hid hc
  have HC2 := Lib.hid hc2
  clear hc hc2 hbs hy hi64 hu
  go_enter Try.func10, Try.ntmps10
  go_wp2_with fail
  refine (HC.out _).mono ?_
  rintro e w1 ⟨B1, d1, rfl, hown1, hb1⟩
  rw [HU.out] at hown1 ⊢
  have hf1 : VF2 w1.heap.size (.slice none 0 0) (.slice B1 u d1) (w1.alloc (.cells #[.slice none 0 0, .slice B1 u d1] 28)) := by
    refine ⟨?_, ?_, by simp⟩
    all_goals simp [go_sem]
  have HF1 := Lib.hid hf1
  have HB1 := Lib.hid (hb1.alloc hb1.size (.cells #[.slice none 0 0, .slice B1 u d1] 28))
  have HO1 := Lib.hid (hown1.alloc (.cells #[.slice none 0 0, .slice B1 u d1] 28))
  clear hown1 hf1 hb1
  go_wp2_with fail
  refine (HC2.out _).mono ?_
  rintro e w2 ⟨B2, d2, rfl, hown2, hb2⟩
  rw [HU.out] at hown2 ⊢
  obtain ⟨a0, a1, hsz⟩ := HF1.out.step hb2
  have HB2 := Lib.hid ((HB1.out.trans (hb2.mono HB1.out.size)).alloc (by have := HB1.out.size; have := hb2.size; omega) (.cells #[.slice none 0 0, .slice B2 u d2] 28))
  have hr1 := Rep.of_own HU.out.symm ((own_below HO1.out hb2).alloc (.cells #[.slice none 0 0, .slice B2 u d2] 28)) (Nat.le_refl _)
  have hr2 := Rep.of_own HU.out.symm (hown2.alloc (.cells #[.slice none 0 0, .slice B2 u d2] 28)) (Nat.le_refl _)
  have HR1 := Lib.hid hr1
  have HR2 := Lib.hid hr2
  have l0 := (World.cell?_alloc_lt w2 (.cells #[.slice none 0 0, .slice B2 u d2] 28) (a := ⟨w1.heap.size, 0, none⟩) hsz).trans a0
  have l1 := (World.cell?_alloc_lt w2 (.cells #[.slice none 0 0, .slice B2 u d2] 28) (a := ⟨w1.heap.size, 1, none⟩) hsz).trans a1
  clear hb2 hown2 hr1 hr2 a0 a1
  go_wp2_with fail
  refine (sameVolume_yes none none B1 B2 0 0 0 u d1 d2 [] bs _ (Rep.nil _ _ _ _ _) (Rep.nil _ _ _ _ _) HR1.out HR2.out (by unfold maxLen; omega) (by unfold maxLen; omega)).mono ?_
  rintro e w4 ⟨rfl, hb4⟩
  have HB4 := Lib.hid (HB2.out.trans (hb4.mono HB2.out.size))
  clear hb4
  go_wp2
  go_ret
  exact ⟨rfl, HB4.out⟩
end Go.Proofs.Ytphbebcbbfbgpaa
