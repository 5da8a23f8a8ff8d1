/- saltcellarref.UsedOf, and the law RepoUses. -/
import Derived.Test.YtphbebcbbfbgpabItems
namespace Go.Proofs.Ytphbebcbbfbgpab
open Go Go.RowKit

set_option maxHeartbeats 2000000 in
theorem used_any (A : Option Addr) (n c : Nat) (id : Int) (ls : List Itm) (w : World) (h : Rep w w.heap.size 3 Itm.cell A n ls) (hn : n ≤ maxLen) (hnil : A = none → n = 0 ∧ c = 0) :
    Calls Try.prog 48 #[.slice A n c, .int .i64 id] w (ItemsPost w (usedR ls id) (usedK ls id)) := by
  have hc : ∀ W, Below w.heap.size w W → Calls Try.prog 36 #[.slice A n c, .int .i64 id] W fun e w' => GetPost ls id e ∧ Below W.heap.size W w' :=
    fun W hb => gotOf_any A n c id ls W ((h.below hb (Nat.le_refl _)).mono hb.size) hn
  have HC := Lib.hid hc
  clear hc
  by_cases h0 : gotK ls id = 0
  · obtain ⟨hG, k, hk, hid, hbf, hR, hX⟩ := got_zero h0
    have h24 : n ≤ 24 := by have := h.1; have := hG.1; omega
    have hkn : k < n := by have := h.1; omega
    have hn1 := h.1
    have hat : ∀ W, Below w.heap.size w W → Calls Try.prog 40 #[.slice A n c, .int .i64 id] W fun e w' => e = .returned (.int .i64 k) ∧ W = w' :=
      fun W hb => itemAt_some A n c k id ls W ((h.below hb (Nat.le_refl _)).mono hb.size) hn hk hid hbf
    have HAT := Lib.hid hat
    obtain ⟨x, hx⟩ : ∃ x, ls[k] = x := ⟨_, rfl⟩
    have hrf := (hG.2.ok _ (List.getElem_mem hk)).2.2.2
    rw [hx] at hR hX hrf
    have HR := Lib.hid hR
    have HX := Lib.hid hx
    have HG := Lib.hid hG
    have HID := Lib.hid hid
    have H0 := Lib.hid h0
    have HN := Lib.hid hn1
    obtain ⟨xi, xd, xr⟩ := x
    dsimp only at hrf
    by_cases h32 : xr = 32
    · have hK : usedK ls id = 1 := by rw [usedK, if_pos h0, hX, if_pos h32]
      have hR' : usedR ls id = [] := by rw [usedR, hK]; rfl
      have d32 : decide (xr ≥ 32) = true := by simp [h32]
      rw [hK, hR']
      clear hX hR hx hG hid h0 hn1 h hK hR' h32 hnil hbf hat
      go_enter Try.func48, Try.ntmps48
      go_wp2_with fail
      refine (HC.out _ (Below.refl _ _)).mono ?_
      rintro e w1 ⟨he, hb1⟩
      rw [GetPost, H0.out, HR.out] at he
      subst he
      have HB1 : Hid (Below w.heap.size w (w1.alloc (.cells #[.int .i64 xi, .string xd, .int .i64 xr] 61))) := Lib.hid (hb1.alloc hb1.size _)
      clear hb1
      go_wp2
      go_ret2
      exact ItemsPost.nil HB1.out
    · have hK : usedK ls id = 0 := by rw [usedK, if_pos h0, hX, if_neg h32]
      have hR' : usedR ls id = ls.set k ⟨xi, xd, xr + 1⟩ := by rw [usedR, if_pos hK, upRefs_set hG hk hid, hx]
      have hfs := flat_set ls k hk (xr + 1)
      rw [hx] at hfs
      have HFS := Lib.hid hfs
      have d32 : decide (xr ≥ 32) = false := by simp; omega
      obtain ⟨i0, hi, hz0, hz1, hz2⟩ := info_parts infoItem
      have HI := Lib.hid hi
      have HZ0 := Lib.hid hz0
      have HZ1 := Lib.hid hz1
      have HZ2 := Lib.hid hz2
      have HREP := Lib.hid h
      have HNIL := Lib.hid hnil
      rw [hK, hR']
      clear hX hR hx hG hid h0 hn1 h hK hR' h32 hnil hfs hbf hat hi hz0 hz1 hz2
      go_enter Try.func48, Try.ntmps48
      go_wp2_with fail
      refine (HC.out _ (Below.refl _ _)).mono ?_
      rintro e w1 ⟨he, hb1⟩
      rw [GetPost, H0.out, HR.out] at he
      subst he
      have hf1 : BoxF w w1.heap.size ⟨xi, xd, xr⟩ (w1.alloc (.cells #[.int .i64 xi, .string xd, .int .i64 xr] 61)) := by
        refine ⟨?_, ?_, ?_, ?_, ?_, ?_, by simp, hb1.size, hb1.alloc hb1.size _⟩
        all_goals simp [go_sem]
      have HF1 := Lib.hid hf1
      clear hb1 hf1
      go_wp2_with (at_builtin; refine wpList_append_rows rfl _ _ 22 rfl 61 i0 _ 3 32 Try.underlying22 HI.out HZ0.out HZ1.out HZ2.out rfl (by decide) A n c ls rfl rfl _ (HREP.out.below HF1.out.be (Nat.le_refl _)) HNIL.out (itm_one ls) (by unfold maxLen; omega) (by omega) ?_; intro A1 c1 w2 hown hb2 hn2)
      obtain ⟨g, cap, hA, _, _⟩ := hown.form (by omega)
      simp only [Value.slice.injEq] at hA
      obtain ⟨rfl, _, rfl⟩ := hA
      have hbe := HF1.out.be.trans (hb2.mono HF1.out.be.size)
      obtain ⟨_, _, b2, _, _, _, hbz, hbl, _⟩ := HF1.out.step hb2
      have z2 := hown.frozenAt (k * 3 + 2)
      have hrep := Rep.of_own HN.out hown (Nat.le_refl _)
      obtain ⟨hbs, x0, x1, x2⟩ := items_of (k := k) hrep hkn
      rw [HX.out] at x2
      have x2' : w2.cell? ⟨g, k * 3 + 2, none⟩ = some (.int .i64 xr) := by rw [← x2, Nat.zero_add]
      have hst := (own_mono hown HF1.out.be.size).drew.stored (k * 3 + 2) (.int .i64 (xr + 1))
      rw [HFS.out] at hst
      have HST := Lib.hid hst
      have HLO := Lib.hid (Nat.le_trans HF1.out.be.size (hown.lt g rfl).1)
      have HB := Lib.hid hbe.drew
      have s1 : IntKind.i64.wrap (xr + 1) = xr + 1 := IntWalk.i64_in _ (by omega)
      have y2 : w2.drew.cell? ⟨w1.heap.size, 2, none⟩ = some (.int .i64 xr) := b2
      have y3 : w2.drew.cell? ⟨g, k * 3 + 2, none⟩ = some (.int .i64 xr) := x2'
      have y4 : w2.drew.frozen? ⟨g, k * 3 + 2, none⟩ = false := z2
      clear hown hb2 hbe hrep x0 x1 x2 hst
      go_region_with (first
        | (go_at_call 40; (with_reducible refine (HAT.out _ HB.out).mono ?_); rintro e w3 ⟨rfl, rfl⟩))
      all_goals
        go_wp2
        go_ret2
        exact ItemsPost.mk' (by rw [List.length_set]; exact HN.out) HST.out.1 (HB.out.grown HST.out.2 HB.out.size (by intro j hj; cases hj; exact HLO.out))
  · have hK : usedK ls id = gotK ls id := by rw [usedK, if_neg h0]
    have hR' : usedR ls id = [] := by rw [usedR, hK, if_neg h0]
    rw [hK, hR']
    obtain ⟨x, y, hx, hy⟩ : ∃ x y, gotR ls id = x ∧ gotK ls id = y := ⟨_, _, rfl, rfl⟩
    rw [hy] at h0 ⊢
    have HX := Lib.hid hx
    have HY := Lib.hid hy
    have d0 : (y != 0) = true := by simp [h0]
    clear hK hR' hx hy h hnil h0
    go_enter Try.func48, Try.ntmps48
    go_wp2_with fail
    refine (HC.out _ (Below.refl _ _)).mono ?_
    rintro e w1 ⟨he, hb1⟩
    rw [GetPost, HX.out, HY.out] at he
    subst he
    have HB1 : Hid (Below w.heap.size w (w1.alloc (.cells #[.int .i64 x.id, .string x.data, .int .i64 x.refs] 61))) := Lib.hid (hb1.alloc hb1.size _)
    clear hb1
    go_wp2
    go_ret2
    exact ItemsPost.nil HB1.out
end Go.Proofs.Ytphbebcbbfbgpab
