/- volume.Copy: a volume of the same items and blocks, in new memory. saltcellarlaw.sameItems, sameVolume: true of what is the same. -/
import Derived.Test.YtphbebcbbfbgpacDoorVolMay
import Derived.Deep.RegionHeld3
import Derived.Test.YtphbebcbbfbgpacDoorPressRun
namespace Go.Proofs.YtphbebcbbfbgpacDoor
open Go Go.RowKit

/-- A volume that a call hands back: two slices of its own. -/
def VolPost (w : World) (n m : Nat) (ls : List Itm) (bs : List Int) (e : Ending) (w' : World) : Prop := ∃ A c B d, e = .returned (.agg #[.slice A n c, .slice B m d]) ∧ w'.ownsRow w.heap.size 42 3 (.slice A n c) n (flat Itm.cell 3 ls) ∧ w'.ownsRow w.heap.size 3 1 (.slice B m d) m (flat intCell 1 bs) ∧ Below w.heap.size w w' ∧
  n ≤ c ∧ c ≤ maxLen ∧ m ≤ d ∧ d ≤ maxLen ∧ (A = none → n = 0 ∧ c = 0) ∧ (B = none → m = 0 ∧ d = 0)

/-- What stands in the two blocks that Copy lays: its argument, and the place of its result. -/
structure CopyF (w : World) (s1 s2 : Value) (W : World) : Prop where
  a0 : W.cell? ⟨w.heap.size, 0, none⟩ = some s1
  a1 : W.cell? ⟨w.heap.size, 1, none⟩ = some s2
  r0 : W.cell? ⟨w.heap.size + 1, 0, none⟩ = some (.slice none 0 0)
  r1 : W.cell? ⟨w.heap.size + 1, 1, none⟩ = some (.slice none 0 0)
  z0 : W.frozen? ⟨w.heap.size + 1, 0, none⟩ = false
  z1 : W.frozen? ⟨w.heap.size + 1, 1, none⟩ = false
  sz : w.heap.size + 1 < W.heap.size
  be : Below w.heap.size w W
theorem CopyF.step {w W W' : World} {s1 s2 : Value} (h : CopyF w s1 s2 W) (hb : Below W.heap.size W W') : CopyF w s1 s2 W' where
  a0 := (hb.cell (by have := h.sz; dsimp only; omega)).trans h.a0
  a1 := (hb.cell (by have := h.sz; dsimp only; omega)).trans h.a1
  r0 := (hb.cell h.sz).trans h.r0
  r1 := (hb.cell h.sz).trans h.r1
  z0 := (hb.frozen h.sz).trans h.z0
  z1 := (hb.frozen h.sz).trans h.z1
  sz := Nat.lt_of_lt_of_le h.sz hb.size
  be := h.be.trans (hb.mono h.be.size)

set_option maxHeartbeats 2000000 in
theorem copy_any (A B : Option Addr) (n c m d : Nat) (ls : List Itm) (bs : List Int) (w : World) (h : Rep w w.heap.size 3 Itm.cell A n ls) (h' : Rep w w.heap.size 1 intCell B m bs)
    (hA : A = none → n = 0 ∧ c = 0) (hB : B = none → m = 0 ∧ d = 0) (hn : n * 32 ≤ 140737488355328) (hm : m * 8 ≤ 140737488355328) :
    Calls Tryd.prog 44 #[.agg #[.slice A n c, .slice B m d]] w (VolPost w n m ls bs) := by
  have hc1 : ∀ W, Below w.heap.size w W → Calls Tryd.prog 46 #[.slice A n c] W (OwnPost W 42 3 n (flat Itm.cell 3 ls)) :=
    fun W hb => cloneItems A n c ls W ((h.below hb (Nat.le_refl _)).mono hb.size) hA hn
  have hc2 : ∀ W, Below w.heap.size w W → Calls Tryd.prog 70 #[.slice B m d] W (OwnPost W 3 1 m (flat intCell 1 bs)) :=
    fun W hb => cloneInts B m d bs W ((h'.below hb (Nat.le_refl _)).mono hb.size) hB hm
  have HC1 := Lib.hid hc1
  have HC2 := Lib.hid hc2
  clear hc1 hc2 h h' hA hB hn hm
  go_enter Tryd.func44, Tryd.ntmps44
  go_wp2
  have hf0 : CopyF w (.slice A n c) (.slice B m d) ((w.alloc (.cells #[.slice A n c, .slice B m d] 30)).alloc (.cells #[.slice none 0 0, .slice none 0 0] 30)).drew := by
    refine ⟨?_, ?_, ?_, ?_, ?_, ?_, by simp, (((Below.refl _ _).alloc (Nat.le_refl _) _).alloc (by simp) _).drew⟩
    all_goals simp [go_sem]
  have HF := Lib.hid hf0
  clear hf0
  go_region_with (first
    | (go_at_call 46; have HFc : Hid (CopyF w (.slice A n c) (.slice B m d) _) := (by assumption); (with_reducible refine (HC1.out _ HFc.out.be).mono ?_); rintro e w1 ⟨A1, k1, rfl, hown1, hb1, ht1⟩; have HF1 := Lib.hid (HFc.out.step hb1); have HO1 := Lib.hid hown1; have HB1 := Lib.hid hb1; have HT1 := Lib.hid ht1; have c1 := HF1.out.a0; have c2 := HF1.out.a1; have c3 := HF1.out.r0; have c4 := HF1.out.r1; have c5 := HF1.out.z0; have c6 := HF1.out.z1; clear hown1 hb1 ht1)
    | (go_at_call 70; have HFc : Hid (CopyF w (.slice A n c) (.slice B m d) _) := (by assumption); (with_reducible refine (HC2.out _ HFc.out.be).mono ?_); rintro e w2 ⟨A2, k2, rfl, hown2, hb2, ht2⟩; have HF2 := Lib.hid (HFc.out.step hb2); have HO2 := Lib.hid hown2; have HB2 := Lib.hid hb2; have HT2 := Lib.hid ht2; have c1 := HF2.out.a0; have c2 := HF2.out.a1; have c3 := HF2.out.r0; have c4 := HF2.out.r1; have c5 := HF2.out.z0; have c6 := HF2.out.z1; clear hown2 hb2 ht2))
  all_goals
    have hsz1 : w.heap.size + 1 < w1.heap.size := HF1.out.sz
    have o1 := ownsRow_setCell_below (ownsRow_setCell_below (own_below HO1.out HB2.out) (a := ⟨w.heap.size + 1, 0, none⟩) (by simp) (.slice A1 n k1)) (a := ⟨w.heap.size + 1, 1, none⟩) (by simp) (.slice A2 m k2)
    have o2 := ownsRow_setCell_below (ownsRow_setCell_below HO2.out (a := ⟨w.heap.size + 1, 0, none⟩) hsz1 (.slice A1 n k1)) (a := ⟨w.heap.size + 1, 1, none⟩) hsz1 (.slice A2 m k2)
    have b2 := (HF2.out.be.setCell (p := ⟨w.heap.size + 1, 0, none⟩) (Nat.le_succ _) (.slice A1 n k1)).setCell (p := ⟨w.heap.size + 1, 1, none⟩) (Nat.le_succ _) (.slice A2 m k2)
    have O1 := Lib.hid (own_mono o1 (base' := w.heap.size) (by simp; omega))
    have O2 := Lib.hid (own_mono o2 (base' := w.heap.size) (by omega))
    have B2 := Lib.hid b2
    clear o1 o2 b2
    go_wp2
    refine bodyPost_ret (v := .agg #[.slice A1 n k1, .slice A2 m k2]) (by simp [results, Tryd.results44, go_sem, c3, c4]) rfl ?_
    exact ⟨A1, k1, A2, k2, rfl, O1.out, O2.out, B2.out, HT1.out.1, HT1.out.2.1, HT2.out.1, HT2.out.2.1, HT1.out.2.2, HT2.out.2.2⟩
end Go.Proofs.YtphbebcbbfbgpacDoor

namespace Go.Proofs.YtphbebcbbfbgpacDoor
open Go Go.RowKit

theorem ints_at_s {w : World} {B n k : Nat} {A : Option Addr} {ls : List Int} (h : Rep w B 1 intCell A n ls) (hk : k < n) :
    ∃ b off, A = some ⟨b, off, none⟩ ∧ b < B ∧ w.cell? ⟨b, off + k, none⟩ = some (.int .i64 (ls[k]'(by have := h.1; omega))) := by
  obtain ⟨b, off, e, hb, hc⟩ := h.at_ hk
  exact ⟨b, off, e, hb, by have := hc 0 (by omega); rw [Nat.mul_one] at this; exact this⟩

end Go.Proofs.YtphbebcbbfbgpacDoor
