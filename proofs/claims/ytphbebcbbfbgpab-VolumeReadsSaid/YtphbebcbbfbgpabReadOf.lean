/- saltcellarref.ReadOf, and the law VolumeReads. -/
import Derived.Test.YtphbebcbbfbgpabVolRead
namespace Go.Proofs.Ytphbebcbbfbgpab
open Go Go.RowKit

set_option maxHeartbeats 2000000 in
theorem readOf_any (A B : Option Addr) (n c m d : Nat) (b : Int) (ls : List Itm) (bs : List Int) (w : World) (h : Rep w w.heap.size 3 Itm.cell A n ls) (h' : Rep w w.heap.size 1 intCell B m bs)
    (hn : n ≤ maxLen) (hm : m ≤ maxLen) (hi64 : i64Ok b) :
    Calls Try.prog 15 #[.agg #[.slice A n c, .slice B m d], .int .i64 b] w fun e w' => ReadPost ls bs b e ∧ Below w.heap.size w w' := by
  have hc : ∀ W, Below w.heap.size w W → Calls Try.prog 38 #[.agg #[.slice A n c, .slice B m d]] W fun e w' => VMayPost ls bs e ∧ Below W.heap.size W w' :=
    fun W hb => volMay_any A B n c m d ls bs W ((h.below hb (Nat.le_refl _)).mono hb.size) ((h'.below hb (Nat.le_refl _)).mono hb.size) hn hm
  have hba : VBoxF w w.heap.size (.slice A n c) (.slice B m d) (w.alloc (.cells #[.slice A n c, .slice B m d] 30)) := by
    refine ⟨?_, ?_, by simp, (Below.refl _ _).alloc (Nat.le_refl _) _⟩
    all_goals simp [go_sem]
  have HBA := Lib.hid hba
  have HC := Lib.hid hc
  have H := Lib.hid h
  have H' := Lib.hid h'
  have hml := h'.1
  have hnl := h.1
  clear hba hc h h'
  cases hgd : goodVB ls bs with
  | false =>
    have E1 := Lib.hid (read_bad b hgd)
    have E2 := Lib.hid hgd
    clear hgd hml hnl
    go_enter Try.func15, Try.ntmps15
    go_wp2_with fail
    refine (HC.out _ HBA.out.be).mono ?_
    rintro e w1 ⟨he, hb1⟩
    rw [VMayPost, E2.out] at he
    subst he
    have HB1 := Lib.hid (HBA.out.step hb1).be
    clear hb1
    go_wp2
    go_ret2
    exact ⟨readPost_of E1.out rfl, HB1.out⟩
  | true =>
    have hm32 : m ≤ 32 := by have := (goodVB_of hgd).hi; omega
    have hn24 : n ≤ 24 := by have := (goodVB_of hgd).good.1; omega
    have E2 := Lib.hid hgd
    by_cases hb : 0 ≤ b ∧ b < bs.length
    · obtain ⟨k, rfl⟩ : ∃ k : Nat, b = k := ⟨b.toNat, by omega⟩
      have hk : k < bs.length := by omega
      have hkm : k < m := by omega
      obtain ⟨y, hy⟩ : ∃ y, bs[k] = y := ⟨_, rfl⟩
      have HY := Lib.hid hy
      by_cases hneg : y < 0
      · have E1 := Lib.hid (read_empty hgd hk (by rw [hy]; exact hneg))
        have d3 := decide_eq_true hneg
        clear hgd hml hb hy hnl
        go_enter Try.func15, Try.ntmps15
        go_wp2_with fail
        refine (HC.out _ HBA.out.be).mono ?_
        rintro e w1 ⟨he, hb1⟩
        rw [VMayPost, E2.out] at he
        subst he
        obtain ⟨a0, a1, _, hbe⟩ := HBA.out.step hb1
        have HB1 := Lib.hid hbe
        obtain ⟨g, off, rfl, hgb, c0⟩ := ints_at (k := k) (H'.out.below hbe (Nat.le_refl _)) hkm
        rw [HY.out] at c0
        clear hb1 hbe hgb
        go_wp2_with (go_at_call 39; (with_reducible refine (in_yes k 0 ((m : Int) - 1) _ (by omega) (by omega)).mono ?_); rintro e w' ⟨rfl, rfl⟩)
        go_ret2
        exact ⟨readPost_of E1.out rfl, HB1.out⟩
      · obtain ⟨x, hx, hxid⟩ := (goodVB_of hgd).ids y (by rw [← hy]; exact List.getElem_mem hk) (by omega)
        obtain ⟨j, hj, hjid, hjb⟩ := firstAt ⟨x, hx, hxid⟩
        have E1 := Lib.hid (read_some hgd hk (by rw [hy]; exact hneg) hj (by rw [hy]; exact hjid))
        have hat : ∀ W, Below w.heap.size w W → Calls Try.prog 40 #[.slice A n c, .int .i64 y] W fun e w' => e = .returned (.int .i64 j) ∧ W = w' :=
          fun W hb => itemAt_some A n c j y ls W ((H.out.below hb (Nat.le_refl _)).mono hb.size) hn hj hjid hjb
        have HAT := Lib.hid hat
        clear hx hxid x hjid hjb hat
        obtain ⟨x, hx⟩ : ∃ x, ls[j] = x := ⟨_, rfl⟩
        have HX := Lib.hid hx
        have hjn : j < n := by omega
        have d3 := decide_eq_false hneg
        clear hgd hml hb hy hx hnl
        go_enter Try.func15, Try.ntmps15
        go_wp2_with fail
        refine (HC.out _ HBA.out.be).mono ?_
        rintro e w1 ⟨he, hb1⟩
        rw [VMayPost, E2.out] at he
        subst he
        obtain ⟨a0, a1, hs0, hbe⟩ := HBA.out.step hb1
        have HB1 := Lib.hid hbe
        obtain ⟨g, off, rfl, hgb, c0⟩ := ints_at (k := k) (H'.out.below hbe (Nat.le_refl _)) hkm
        obtain ⟨ga, oa, rfl, hgb2, x0, x1, x2⟩ := items_at (k := j) (H.out.below hbe (Nat.le_refl _)) hjn
        rw [HY.out] at c0
        rw [HX.out] at x0 x1 x2
        clear hb1 hbe hgb hgb2
        have HIT : Hid (∀ nq, Calls Try.prog 40 #[.slice (some ⟨ga, oa, none⟩) n c, .int .i64 y] (w1.drewN nq) fun e w' => e = .returned (.int .i64 j) ∧ w1.drewN nq = w') :=
          Lib.hid (fun nq => HAT.out _ (below_drewN HB1.out nq))
        go_wp2_with (go_at_call 39; (with_reducible refine (in_yes k 0 ((m : Int) - 1) _ (by omega) (by omega)).mono ?_); rintro e w' ⟨rfl, rfl⟩)
        go_quiet ((go_at_call 40; exact quiet_left (HIT.out _)))
        go_wp2
        go_ret2
        exact ⟨readPost_of (by rw [E1.out, HX.out]) rfl, below_drewN HB1.out _⟩
    · have E1 := Lib.hid (read_none hgd hb)
      have hlt : b < 0 ∨ (m : Int) - 1 < b := by omega
      clear hgd hml hb hnl
      unfold i64Ok at hi64
      go_enter Try.func15, Try.ntmps15
      go_wp2_with fail
      refine (HC.out _ HBA.out.be).mono ?_
      rintro e w1 ⟨he, hb1⟩
      rw [VMayPost, E2.out] at he
      subst he
      obtain ⟨a0, a1, _, hbe⟩ := HBA.out.step hb1
      have HB1 := Lib.hid hbe
      clear hb1 hbe
      go_wp2_with (go_at_call 39; (with_reducible refine (in_no b 0 ((m : Int) - 1) _ hlt).mono ?_); rintro e w' ⟨rfl, rfl⟩)
      go_ret2
      exact ⟨readPost_of E1.out rfl, HB1.out⟩

set_option maxHeartbeats 1000000 in
theorem lawVolumeReads (A B : Option Addr) (n c m d : Nat) (b : Int) (ls : List Itm) (bs : List Int) (w : World) (h : Rep w w.heap.size 3 Itm.cell A n ls) (h' : Rep w w.heap.size 1 intCell B m bs)
    (hn : n ≤ maxLen) (hm : m ≤ maxLen) (hok : ∀ b ∈ bs, i64Ok b) (hi64 : i64Ok b) :
    Calls Try.prog 4 #[.agg #[.slice A n c, .slice B m d], .int .i64 b] w fun e w' => e = .returned (.bool true) ∧ Below w.heap.size w w' := by
  obtain ⟨s, k, hr⟩ : ∃ s k, readR ls bs b = (s, k) := ⟨_, _, rfl⟩
  have hc : ∀ W, Below w.heap.size w W → Calls Try.prog 14 #[.agg #[.slice A n c, .slice B m d], .int .i64 b] W fun e w' => e = .returned (.tuple #[.string s, .int .i64 k]) ∧ Below W.heap.size W w' :=
    fun W hb => (volRead_any A B n c m d b ls bs W ((h.below hb (Nat.le_refl _)).mono hb.size) ((h'.below hb (Nat.le_refl _)).mono hb.size) hn hm hok).mono fun e w' he => ⟨by rw [he.1, hr], he.2⟩
  have hc2 : ∀ W, Below w.heap.size w W → Calls Try.prog 15 #[.agg #[.slice A n c, .slice B m d], .int .i64 b] W fun e w' => e = .returned (.tuple #[.string s, .int .i64 k]) ∧ Below W.heap.size W w' :=
    fun W hb => (readOf_any A B n c m d b ls bs W ((h.below hb (Nat.le_refl _)).mono hb.size) ((h'.below hb (Nat.le_refl _)).mono hb.size) hn hm hi64).mono fun e w' he => ⟨by rw [he.1, hr], he.2⟩
  have hba : VBoxF w w.heap.size (.slice A n c) (.slice B m d) (w.alloc (.cells #[.slice A n c, .slice B m d] 30)) := by
    refine ⟨?_, ?_, by simp, (Below.refl _ _).alloc (Nat.le_refl _) _⟩
    all_goals simp [go_sem]
  have HBA := Lib.hid hba
  have HC := Lib.hid hc
  have HC2 := Lib.hid hc2
  clear hba hc hc2 h h' hok hi64 hr
  go_enter Try.func4, Try.ntmps4
  go_wp2_with fail
  refine (HC.out _ HBA.out.be).mono ?_
  rintro e w1 ⟨rfl, hb1⟩
  have hf1 := HBA.out.step hb1
  obtain ⟨a0, a1, hs0, hbe⟩ := hf1
  have HB1 := Lib.hid hbe
  clear hb1 hbe
  go_wp2_with fail
  refine (HC2.out _ HB1.out).mono ?_
  rintro e w2 ⟨rfl, hb2⟩
  have HB2 := Lib.hid (HB1.out.trans (hb2.mono HB1.out.size))
  clear hb2
  go_wp2
  go_ret
  exact ⟨rfl, HB2.out⟩
end Go.Proofs.Ytphbebcbbfbgpab
