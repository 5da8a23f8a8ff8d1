/- The law VolumeChecks returns true for every volume. -/
import Derived.Test.YtphbebcbbfbgpaaVolMay
namespace Go.Proofs.Ytphbebcbbfbgpaa
open Go Go.RowKit

set_option maxHeartbeats 1000000 in
theorem lawVolumeChecks (A B : Option Addr) (n c m d : Nat) (ls : List Itm) (bs : List Int) (w : World) (h : Rep w w.heap.size 3 Itm.cell A n ls) (h' : Rep w w.heap.size 1 intCell B m bs)
    (hn : n ≤ maxLen) (hm : m ≤ maxLen) (hok : ∀ b ∈ bs, i64Ok b) :
    Calls Try.prog 7 #[.agg #[.slice A n c, .slice B m d]] w fun e w' => e = .returned (.bool true) ∧ Below w.heap.size w w' := by
  have hc : ∀ W, Below w.heap.size w W → Calls Try.prog 18 #[.agg #[.slice A n c, .slice B m d]] W fun e w' => VCheckPost ls bs e ∧ Below W.heap.size W w' :=
    fun W hb => volCheck_any A B n c m d ls bs W ((h.below hb (Nat.le_refl _)).mono hb.size) ((h'.below hb (Nat.le_refl _)).mono hb.size) hn hm hok
  have hc2 : ∀ W, Below w.heap.size w W → Calls Try.prog 19 #[.agg #[.slice A n c, .slice B m d]] W fun e w' => VMayPost ls bs e ∧ Below W.heap.size W w' :=
    fun W hb => volMay_any A B n c m d ls bs W ((h.below hb (Nat.le_refl _)).mono hb.size) ((h'.below hb (Nat.le_refl _)).mono hb.size) hn hm
  have HC := Lib.hid hc
  have HC2 := Lib.hid hc2
  clear hc hc2 h h' hok
  have hba := (Below.refl w.heap.size w).alloc (Nat.le_refl _) (.cells #[.slice A n c, .slice B m d] 28)
  have HBA := Lib.hid hba
  clear hba
  cases hg : goodVB ls bs with
  | true =>
    have E1 := Lib.hid hg
    have E2 := Lib.hid (show goodVN ls bs = 0 by rw [goodVN_eq, hg]; rfl)
    clear hg
    go_enter Try.func7, Try.ntmps7
    go_wp2_with fail
    refine (HC.out _ HBA.out).mono ?_
    rintro e w1 ⟨he, hb1⟩
    rw [VCheckPost, E2.out] at he
    subst he
    have a0 : w1.cell? ⟨w.heap.size, 0, none⟩ = some (.slice A n c) := (hb1.cell (by simp)).trans (by simp [go_sem])
    have a1 : w1.cell? ⟨w.heap.size, 1, none⟩ = some (.slice B m d) := (hb1.cell (by simp)).trans (by simp [go_sem])
    have HB1 : Hid (Below w.heap.size w w1) := Lib.hid (HBA.out.trans (hb1.mono HBA.out.size))
    clear hb1
    go_wp2_with fail
    refine (HC2.out _ HB1.out).mono ?_
    rintro e w2 ⟨he, hb2⟩
    rw [VMayPost, E1.out] at he
    subst he
    have HB2 : Hid (Below w.heap.size w w2) := Lib.hid (HB1.out.trans (hb2.mono HB1.out.size))
    clear hb2
    go_wp2
    go_ret
    exact ⟨rfl, HB2.out⟩
  | false =>
    have E1 := Lib.hid hg
    have E2 := Lib.hid (show goodVN ls bs = 7 by rw [goodVN_eq, hg]; rfl)
    clear hg
    go_enter Try.func7, Try.ntmps7
    go_wp2_with fail
    refine (HC.out _ HBA.out).mono ?_
    rintro e w1 ⟨he, hb1⟩
    rw [VCheckPost, E2.out] at he
    subst he
    have a0 : w1.cell? ⟨w.heap.size, 0, none⟩ = some (.slice A n c) := (hb1.cell (by simp)).trans (by simp [go_sem])
    have a1 : w1.cell? ⟨w.heap.size, 1, none⟩ = some (.slice B m d) := (hb1.cell (by simp)).trans (by simp [go_sem])
    have HB1 : Hid (Below w.heap.size w w1) := Lib.hid (HBA.out.trans (hb1.mono HBA.out.size))
    clear hb1
    go_wp2_with fail
    refine (HC2.out _ HB1.out).mono ?_
    rintro e w2 ⟨he, hb2⟩
    rw [VMayPost, E1.out] at he
    subst he
    have HB2 : Hid (Below w.heap.size w w2) := Lib.hid (HB1.out.trans (hb2.mono HB1.out.size))
    clear hb2
    go_wp2
    go_ret
    exact ⟨rfl, HB2.out⟩
end Go.Proofs.Ytphbebcbbfbgpaa
