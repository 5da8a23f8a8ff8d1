/- volume.CheckWrites and saltcellarref.WritesFault. -/
import Derived.Test.YtphbebcbbfbgpabPlainWrites
import Derived.Test.YtphbebcbbfbgpabMay
namespace Go.Proofs.Ytphbebcbbfbgpab
open Go Go.RowKit

theorem writes_at {w : World} {B n k : Nat} {A : Option Addr} {ls : List Wrt} (h : Rep w B 2 Wrt.cell A n ls) (hk : k < n) :
    ∃ b off, A = some ⟨b, off, none⟩ ∧ b < B ∧ w.cell? ⟨b, off + k * 2, none⟩ = some (.int .i64 (ls[k]'(by have := h.1; omega)).block) ∧
      w.cell? ⟨b, off + k * 2 + 1, none⟩ = some (.string (ls[k]'(by have := h.1; omega)).data) := by
  obtain ⟨b, off, e, hb, hc⟩ := h.at_ hk
  exact ⟨b, off, e, hb, hc 0 (by omega), hc 1 (by omega)⟩
theorem writes_of {w : World} {B n k b off : Nat} {ls : List Wrt} (h : Rep w B 2 Wrt.cell (some ⟨b, off, none⟩) n ls) (hk : k < n) :
    b < B ∧ w.cell? ⟨b, off + k * 2, none⟩ = some (.int .i64 (ls[k]'(by have := h.1; omega)).block) ∧ w.cell? ⟨b, off + k * 2 + 1, none⟩ = some (.string (ls[k]'(by have := h.1; omega)).data) := by
  obtain ⟨b', off', e, hb, c0, c1⟩ := writes_at h hk
  simp only [Option.some.injEq, Addr.mk.injEq, and_true] at e
  obtain ⟨rfl, rfl⟩ := e
  exact ⟨hb, c0, c1⟩

def FaultPost (ls : List Wrt) (b : Int) (e : Ending) : Prop := e = .returned (.int .i64 (writesK ls b))

set_option maxHeartbeats 4000000 in
theorem checkWrites_any (A : Option Addr) (n c : Nat) (b : Int) (ls : List Wrt) (w : World) (h : Rep w w.heap.size 2 Wrt.cell A n ls) (hn : n ≤ maxLen) :
    Calls Try.prog 56 #[.slice A n c, .int .i64 b] w fun e w' => FaultPost ls b e ∧ Below w.heap.size w w' := by
  have hlen := h.1
  by_cases h12 : (12 : Int) < (n : Int)
  · have H := Lib.hid h
    have HL := Lib.hid hlen
    clear h hlen
    unfold maxLen at hn
    go_enter Try.func56, Try.ntmps56
    go_wp2
    go_ret
    exact ⟨by rw [FaultPost, writesK, if_neg (by have := HL.out; omega)]; rfl, Below.refl _ _⟩
  · have hw : writesK ls b = faultL b none ls := by rw [writesK, if_pos (by omega)]
    have H := Lib.hid h
    have HL := Lib.hid hlen
    have HW := Lib.hid hw
    clear h hlen hw
    go_enter Try.func56, Try.ntmps56
    go_wp2
    go_loopw [12] (fun t wr => ∃ k : Nat, k ≤ n ∧ t = .int .i64 k ∧ Below w.heap.size w wr ∧ Hid (writesK ls b = faultL b (prevB ls k) (ls.drop k))) (fun t _ => n - (intOf t).toNat)
    case atStart => exact ⟨0, Nat.zero_le _, rfl, Below.refl _ _, Lib.hid (by rw [HW.out]; rfl)⟩
    case round =>
      obtain ⟨k, hk, rfl, hbel, hinv⟩ := hrel
      have HB := Lib.hid hbel
      by_cases hlt : k < n
      · obtain ⟨g, off, rfl, hb, c0, c1⟩ := writes_at (H.out.below hbel (Nat.le_refl _)) hlt
        have hkl : k < ls.length := by have := HL.out; omega
        have hstep := hinv.out
        rw [faultL_step ls b hkl] at hstep
        have hprev := fun h0 : 0 < k => prevB_lt hkl h0
        have hprev0 : ¬ 0 < k → (∀ q, prevB ls k = some q → q < ls[k].block) := fun h0 => by
          obtain rfl : k = 0 := by omega
          exact prevB_zero _
        have hcp : ∀ h0 : 0 < k, wr.cell? ⟨g, off + (k - 1) * 2, none⟩ = some (.int .i64 (ls[k - 1]'(by omega)).block) := fun h0 => (writes_of (H.out.below hbel (Nat.le_refl _)) (by omega)).2.1
        obtain ⟨x, hx⟩ : ∃ x, ls[k]'hkl = x := ⟨_, rfl⟩
        rw [hx] at c0 c1 hstep hprev hprev0
        obtain ⟨xb, xd⟩ := x
        dsimp only at c0 c1 hstep hprev hprev0
        have HSTEP := Lib.hid hstep
        have HPREV := Lib.hid hprev
        have HPREV0 := Lib.hid hprev0
        have HCP := Lib.hid hcp
        have HBE : Below w.heap.size w (wr.alloc (.cells #[.int .i64 xb, .string xd] 77)) := HB.out.alloc HB.out.size _
        have HBE' := Lib.hid HBE
        have hgl : g < wr.heap.size := by have := hbel.size; omega
        clear hx hbel hstep hprev hprev0 hcp HBE hb
        by_cases h1 : xb < 0
        · have d1 := decide_eq_true h1
          go_wp2
          go_ret
          exact ⟨by rw [FaultPost, HSTEP.out, if_neg (by omega)]; rfl, HBE'.out⟩
        have d1 := decide_eq_false h1
        by_cases h2 : xb ≥ b
        · have d2 := decide_eq_true h2
          go_wp2
          go_ret
          exact ⟨by rw [FaultPost, HSTEP.out, if_neg (by omega)]; rfl, HBE'.out⟩
        have d2 := decide_eq_false h2
        by_cases h3 : (xd.size : Int) > 48
        · have d3 := decide_eq_true h3
          go_wp2
          go_ret
          exact ⟨by rw [FaultPost, HSTEP.out, if_pos (by omega), if_neg (by omega)]; rfl, HBE'.out⟩
        have d3 := decide_eq_false h3
        have hrest : (∀ q, prevB ls k = some q → q < xb) → writesK ls b = faultL b (prevB ls (k + 1)) (ls.drop (k + 1)) := fun hp => by
          rw [HSTEP.out, if_pos (by omega), if_pos (by omega), if_pos hp]
        have HREST := Lib.hid hrest
        clear hrest
        by_cases h7 : 0 < k
        · have d7 : decide ((k : Int) > 0) = true := by simp; omega
          have cp := HCP.out h7
          obtain ⟨y, hy⟩ : ∃ y, (ls[k - 1]'(by omega)).block = y := ⟨_, rfl⟩
          rw [hy] at cp
          have HY := Lib.hid hy
          have cp' := World.cell?_alloc_lt wr (.cells #[.int .i64 xb, .string xd] 77) (a := ⟨g, off + (k - 1) * 2, none⟩) hgl
          rw [cp] at cp'
          clear cp hy
          by_cases h8 : y ≥ xb
          · have d8 := decide_eq_true h8
            go_wp2
            go_quiet (fail)
            go_wp2
            go_ret
            exact ⟨by rw [FaultPost, HSTEP.out, if_pos (by omega), if_pos (by omega), if_neg (fun h => by have := (HPREV.out h7).1 h; rw [HY.out] at this; omega)]; rfl, below_drewN HBE'.out _⟩
          · have d8 := decide_eq_false h8
            have HN := Lib.hid (HREST.out ((HPREV.out h7).2 (by rw [HY.out]; omega)))
            go_wp2
            go_quiet (fail)
            go_wp2
            go_roundw
            case rel => exact ⟨k + 1, by omega, by go_num, below_drewN HBE'.out _, HN⟩
            case measure => simp [intOf]; omega
        · have d7 : decide ((k : Int) > 0) = false := by simp; omega
          have HN := Lib.hid (HREST.out (HPREV0.out h7))
          go_wp2
          go_quiet (fail)
          go_wp2
          go_roundw
          case rel => exact ⟨k + 1, by omega, by go_num, below_drewN HBE'.out _, HN⟩
          case measure => simp [intOf]; omega
      · have hfin : writesK ls b = 0 := by rw [hinv.out]; exact faultL_end ls b (by have := HL.out; omega) _
        have HF := Lib.hid hfin
        clear hfin hbel
        go_wp2
        go_ret
        exact ⟨by rw [FaultPost, HF.out]; rfl, HB.out⟩
set_option maxHeartbeats 4000000 in
theorem fault_any (A : Option Addr) (n c : Nat) (b : Int) (ls : List Wrt) (w : World) (h : Rep w w.heap.size 2 Wrt.cell A n ls) (hn : n ≤ maxLen) (hb : -9223372036854775808 < b) (hb' : b ≤ 9223372036854775807) :
    Calls Try.prog 58 #[.slice A n c, .int .i64 b] w fun e w' => FaultPost ls b e ∧ Below w.heap.size w w' := by
  have hlen := h.1
  by_cases h12 : (12 : Int) < (n : Int)
  · have H := Lib.hid h
    have HL := Lib.hid hlen
    clear h hlen
    unfold maxLen at hn
    go_enter Try.func58, Try.ntmps58
    go_wp2
    go_ret
    exact ⟨by rw [FaultPost, writesK, if_neg (by have := HL.out; omega)]; rfl, Below.refl _ _⟩
  · have hw : writesK ls b = faultL b none ls := by rw [writesK, if_pos (by omega)]
    have H := Lib.hid h
    have HL := Lib.hid hlen
    have HW := Lib.hid hw
    clear h hlen hw
    go_enter Try.func58, Try.ntmps58
    go_wp2
    go_loopw [5] (fun t wr => ∃ k : Nat, k ≤ n ∧ t = .int .i64 k ∧ Below w.heap.size w wr ∧ Hid (writesK ls b = faultL b (prevB ls k) (ls.drop k))) (fun t _ => n - (intOf t).toNat)
    case atStart => exact ⟨0, Nat.zero_le _, rfl, Below.refl _ _, Lib.hid (by rw [HW.out]; rfl)⟩
    case round =>
      obtain ⟨k, hk, rfl, hbel, hinv⟩ := hrel
      have HB := Lib.hid hbel
      by_cases hlt : k < n
      · obtain ⟨g, off, rfl, hbb, c0, c1⟩ := writes_at (H.out.below hbel (Nat.le_refl _)) hlt
        have hkl : k < ls.length := by have := HL.out; omega
        have hstep := hinv.out
        rw [faultL_step ls b hkl] at hstep
        have hprev := fun h0 : 0 < k => prevB_lt hkl h0
        have hprev0 : ¬ 0 < k → (∀ q, prevB ls k = some q → q < ls[k].block) := fun h0 => by
          obtain rfl : k = 0 := by omega
          exact prevB_zero _
        have hcp : ∀ h0 : 0 < k, wr.cell? ⟨g, off + (k - 1) * 2, none⟩ = some (.int .i64 (ls[k - 1]'(by omega)).block) := fun h0 => (writes_of (H.out.below hbel (Nat.le_refl _)) (by omega)).2.1
        obtain ⟨x, hx⟩ : ∃ x, ls[k]'hkl = x := ⟨_, rfl⟩
        rw [hx] at c0 c1 hstep hprev hprev0
        obtain ⟨xb, xd⟩ := x
        dsimp only at c0 c1 hstep hprev hprev0
        have HSTEP := Lib.hid hstep
        have HPREV := Lib.hid hprev
        have HPREV0 := Lib.hid hprev0
        have HCP := Lib.hid hcp
        clear hx hbel hstep hprev hprev0 hcp hbb
        by_cases h1 : 0 ≤ xb ∧ xb ≤ b - 1
        · obtain ⟨h11, h12⟩ := h1
          by_cases h3 : (xd.size : Int) > 48
          · have d3 := decide_eq_true h3
            go_wp2_with (go_at_call 39; (with_reducible refine (in_yes xb 0 (b - 1) _ h11 h12).mono ?_); rintro e w' ⟨rfl, rfl⟩)
            go_ret
            exact ⟨by rw [FaultPost, HSTEP.out, if_pos (by omega), if_neg (by omega)]; rfl, HB.out⟩
          have d3 := decide_eq_false h3
          have hrest : (∀ q, prevB ls k = some q → q < xb) → writesK ls b = faultL b (prevB ls (k + 1)) (ls.drop (k + 1)) := fun hp => by
            rw [HSTEP.out, if_pos (by omega), if_pos (by omega), if_pos hp]
          have HREST := Lib.hid hrest
          clear hrest
          by_cases h7 : 0 < k
          · have d7 : decide ((k : Int) > 0) = true := by simp; omega
            have cp := HCP.out h7
            obtain ⟨y, hy⟩ : ∃ y, (ls[k - 1]'(by omega)).block = y := ⟨_, rfl⟩
            rw [hy] at cp
            have HY := Lib.hid hy
            clear hy
            by_cases h8 : xb ≤ y
            · have d8 := decide_eq_true h8
              go_wp2_with (go_at_call 39; (with_reducible refine (in_yes xb 0 (b - 1) _ h11 h12).mono ?_); rintro e w' ⟨rfl, rfl⟩)
              go_quiet (fail)
              go_wp2
              go_ret
              exact ⟨by rw [FaultPost, HSTEP.out, if_pos (by omega), if_pos (by omega), if_neg (fun h => by have := (HPREV.out h7).1 h; rw [HY.out] at this; omega)]; rfl, below_drewN HB.out _⟩
            · have d8 := decide_eq_false h8
              have HN := Lib.hid (HREST.out ((HPREV.out h7).2 (by rw [HY.out]; omega)))
              go_wp2_with (go_at_call 39; (with_reducible refine (in_yes xb 0 (b - 1) _ h11 h12).mono ?_); rintro e w' ⟨rfl, rfl⟩)
              go_quiet (fail)
              go_wp2
              go_roundw
              case rel => exact ⟨k + 1, by omega, by go_num, below_drewN HB.out _, HN⟩
              case measure => simp [intOf]; omega
          · have d7 : decide ((k : Int) > 0) = false := by simp; omega
            have HN := Lib.hid (HREST.out (HPREV0.out h7))
            go_wp2_with (go_at_call 39; (with_reducible refine (in_yes xb 0 (b - 1) _ h11 h12).mono ?_); rintro e w' ⟨rfl, rfl⟩)
            go_quiet (fail)
            go_wp2
            go_roundw
            case rel => exact ⟨k + 1, by omega, by go_num, below_drewN HB.out _, HN⟩
            case measure => simp [intOf]; omega
        · have h1' : xb < 0 ∨ b - 1 < xb := by omega
          go_wp2_with (go_at_call 39; (with_reducible refine (in_no xb 0 (b - 1) _ h1').mono ?_); rintro e w' ⟨rfl, rfl⟩)
          go_ret
          exact ⟨by rw [FaultPost, HSTEP.out, if_neg (by omega)]; rfl, HB.out⟩
      · have hfin : writesK ls b = 0 := by rw [hinv.out]; exact faultL_end ls b (by have := HL.out; omega) _
        have HF := Lib.hid hfin
        clear hfin hbel
        go_wp2
        go_ret
        exact ⟨by rw [FaultPost, HF.out]; rfl, HB.out⟩
end Go.Proofs.Ytphbebcbbfbgpab
