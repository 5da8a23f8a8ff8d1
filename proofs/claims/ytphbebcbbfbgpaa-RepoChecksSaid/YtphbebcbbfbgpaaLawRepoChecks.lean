/- The law RepoChecks returns true for every slice of items. -/
import Derived.Test.YtphbebcbbfbgpaaMay
namespace Go.Proofs.Ytphbebcbbfbgpaa
open Go Go.RowKit

theorem lawRepoChecks (A : Option Addr) (n c : Nat) (ls : List Itm) (w : World) (h : Rep w w.heap.size 3 Itm.cell A n ls) (hn : n ≤ maxLen) :
    Calls Try.prog 5 #[.slice A n c] w fun e w' => e = .returned (.bool true) ∧ Below w.heap.size w w' := by
  have hc := check_any A n c ls w h hn
  have hm : ∀ w1, Below w.heap.size w w1 → Calls Try.prog 15 #[.slice A n c] w1 fun e w' => MayPost ls e ∧ Below w1.heap.size w1 w' :=
    fun w1 hb => itemsMay_any A n c ls w1 ((h.below hb (Nat.le_refl _)).mono hb.size) hn
  have HC := Lib.hid hc
  have HM := Lib.hid hm
  clear hc hm h
  by_cases g : Good ls
  · have e1 := goodB_true g
    have e2 : goodN ls = 0 := by rw [goodN_eq, e1]; rfl
    have E1 := Lib.hid e1
    have E2 := Lib.hid e2
    clear e1 e2 g
    go_enter Try.func5, Try.ntmps5
    go_wp2_with fail
    refine HC.out.mono ?_
    rintro e w1 ⟨he, hb1⟩
    rw [CheckPost, E2.out] at he
    subst he
    have HB1 := Lib.hid hb1
    clear hb1
    go_wp2_with fail
    refine (HM.out _ HB1.out).mono ?_
    rintro e w2 ⟨he, hb2⟩
    rw [MayPost, E1.out] at he
    subst he
    go_wp2
    go_ret
    exact ⟨rfl, HB1.out.trans (hb2.mono HB1.out.size)⟩
  · have e1 := goodB_false g
    have e2 : goodN ls = 7 := by rw [goodN_eq, e1]; rfl
    have E1 := Lib.hid e1
    have E2 := Lib.hid e2
    clear e1 e2 g
    go_enter Try.func5, Try.ntmps5
    go_wp2_with fail
    refine HC.out.mono ?_
    rintro e w1 ⟨he, hb1⟩
    rw [CheckPost, E2.out] at he
    subst he
    have HB1 := Lib.hid hb1
    clear hb1
    go_wp2_with fail
    refine (HM.out _ HB1.out).mono ?_
    rintro e w2 ⟨he, hb2⟩
    rw [MayPost, E1.out] at he
    subst he
    go_wp2
    go_ret
    exact ⟨rfl, HB1.out.trans (hb2.mono HB1.out.size)⟩
end Go.Proofs.Ytphbebcbbfbgpaa
