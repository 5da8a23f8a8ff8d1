/- saltcellarref.In and saltcellarref.ItemsMay. -/
import Derived.Test.YtphbebcbbfbgpabRepoCheck
namespace Go.Proofs.Ytphbebcbbfbgpab
open Go Go.RowKit

theorem in_yes (n lo hi : Int) (w : World) (h1 : lo ≤ n) (h2 : n ≤ hi) : Calls Try.prog 39 #[.int .i64 n, .int .i64 lo, .int .i64 hi] w fun e w' => e = .returned (.bool true) ∧ w = w' := by
  go_enter Try.func39, Try.ntmps39
  go_wp2
  go_ret
  exact ⟨by simp, rfl⟩
theorem in_no (n lo hi : Int) (w : World) (h : n < lo ∨ hi < n) : Calls Try.prog 39 #[.int .i64 n, .int .i64 lo, .int .i64 hi] w fun e w' => e = .returned (.bool false) ∧ w = w' := by
  by_cases h1 : lo ≤ n
  · have h2 : ¬ n ≤ hi := by omega
    clear h
    go_enter Try.func39, Try.ntmps39
    go_wp2
    go_ret
    exact ⟨by simp, rfl⟩
  · clear h
    go_enter Try.func39, Try.ntmps39
    go_wp2
    go_ret
    exact ⟨rfl, rfl⟩

def MayPost (ls : List Itm) (e : Ending) : Prop := e = .returned (.bool (goodB ls))
set_option maxHeartbeats 4000000 in
theorem itemsMay_any (A : Option Addr) (n c : Nat) (ls : List Itm) (w : World) (h : Rep w w.heap.size 3 Itm.cell A n ls) (hn : n ≤ maxLen) :
    Calls Try.prog 47 #[.slice A n c] w fun e w' => MayPost ls e ∧ Below w.heap.size w w' := by
  have hlen := h.1
  have H := Lib.hid h
  have HL := Lib.hid hlen
  clear h hlen
  unfold maxLen at hn
  go_enter Try.func47, Try.ntmps47
  go_wp2
  go_loopw [3] (fun i wr => ∃ k : Nat, k ≤ n ∧ i = .int .i64 k ∧ Below w.heap.size w wr ∧ Hid (GoodPre (ls.take k))) (fun i _ => n - (intOf i).toNat)
  case atStart => exact ⟨0, Nat.zero_le _, rfl, Below.refl _ _, Lib.hid GoodPre.nil⟩
  case round =>
    obtain ⟨k, hk, rfl, hbel, hgood⟩ := hrel
    by_cases hlt : k < n
    · obtain ⟨b, off, rfl, hb, c0, c1, c2⟩ := items_at (H.out.below hbel (Nat.le_refl _)) hlt
      have hkl : k < ls.length := by have := HL.out; omega
      obtain ⟨x, hx⟩ : ∃ x, ls[k]'hkl = x := ⟨_, rfl⟩
      rw [hx] at c0 c1 c2
      obtain ⟨xi, xd, xr⟩ := x
      dsimp only at c0 c1 c2
      have HX := Lib.hid hx
      have HB := Lib.hid hbel
      have hbad : ¬ itmOk ⟨xi, xd, xr⟩ → goodB ls = false := fun h => goodB_false (notGood_item hkl (by rw [HX.out]; exact h))
      have HBAD := Lib.hid hbad
      clear hx hbel hbad
      by_cases h1 : 0 ≤ xi ∧ xi ≤ 23
      · by_cases h3 : (48 : Int) < (xd.size : Int)
        · have d3 := decide_eq_true h3
          go_wp2_with (go_at_call 39; (with_reducible refine (in_yes xi 0 23 _ h1.1 h1.2).mono ?_); rintro e w' ⟨rfl, rfl⟩)
          go_ret
          exact ⟨by rw [MayPost, HBAD.out (fun h => by have := h.2.2.1; dsimp only at this; omega)]; rfl, HB.out⟩
        have d3 := decide_eq_false h3
        by_cases h4 : 1 ≤ xr ∧ xr ≤ 32
        · have hok : itmOk ⟨xi, xd, xr⟩ := ⟨h1.1, by dsimp only; omega, by dsimp only; omega, h4.1, h4.2⟩
          have HOK := Lib.hid hok
          clear hok
          go_wp2_with (go_at_call 39; first | ((with_reducible refine (in_yes xi 0 23 _ h1.1 h1.2).mono ?_); rintro e w' ⟨rfl, rfl⟩) | ((with_reducible refine (in_yes xr 1 32 _ h4.1 h4.2).mono ?_); rintro e w' ⟨rfl, rfl⟩))
          obtain ⟨wo, rfl⟩ : ∃ wo : World, wo = wr := ⟨_, rfl⟩
          go_loopw [4] (fun i wr => ∃ j : Nat, j ≤ k ∧ i = .int .i64 j ∧ Below w.heap.size w wr ∧ Hid (∀ y ∈ ls.take j, y.id < xi ∧ y.data ≠ xd)) (fun i _ => k - (intOf i).toNat)
          case atStart => exact ⟨0, Nat.zero_le _, rfl, HB.out, Lib.hid (fun y hy => by simp at hy)⟩
          case round =>
            obtain ⟨j, hj, rfl, hbel', hin⟩ := hrel
            have HB' := Lib.hid hbel'
            clear hbel' c0 c1 c2
            by_cases hlj : j < k
            · obtain ⟨_, c0, c1, _⟩ := items_of (H.out.below HB'.out (Nat.le_refl _)) hlt
              obtain ⟨_, e0, e1, _⟩ := items_of (k := j) (H.out.below HB'.out (Nat.le_refl _)) (by omega)
              rw [HX.out] at c0 c1
              dsimp only at c0 c1
              have hjl : j < ls.length := by omega
              obtain ⟨y, hy⟩ : ∃ y, ls[j]'hjl = y := ⟨_, rfl⟩
              rw [hy] at e0 e1
              obtain ⟨yi, yd, yr⟩ := y
              dsimp only at e0 e1
              have hpair : (xi ≤ yi ∨ yd = xd) → goodB ls = false := fun h => goodB_false (notGood_pair hlj hkl (by rw [HX.out, hy]; exact h))
              have HP := Lib.hid hpair
              have HY := Lib.hid hy
              clear hy hpair
              by_cases h5 : xi ≤ yi
              · have d5 := decide_eq_true h5
                go_wp2
                go_quiet (fail)
                go_wp2
                go_ret
                exact ⟨by rw [MayPost, HP.out (.inl h5)]; rfl, below_drewN HB'.out _⟩
              have d5 := decide_eq_false h5
              by_cases h6 : yd = xd
              · have HP6 := Lib.hid (HP.out (.inr h6))
                subst h6
                go_wp2
                go_quiet (fail)
                go_wp2
                go_ret
                exact ⟨by rw [MayPost, HP6.out]; rfl, below_drewN HB'.out _⟩
              · have hstep : ∀ z ∈ ls.take (j + 1), z.id < xi ∧ z.data ≠ xd := by
                  intro z hz
                  rw [take_snoc ls j hjl, HY.out] at hz
                  rcases List.mem_append.1 hz with hz | hz
                  · exact hin.out z hz
                  · rw [List.mem_singleton.1 hz]; exact ⟨by dsimp only; omega, h6⟩
                have HS := Lib.hid hstep
                have d6 := toList_beq_no h6
                clear hstep h6
                go_wp2
                go_quiet (fail)
                go_wp2
                go_roundw
                case rel => exact ⟨j + 1, by omega, by go_num, below_drewN HB'.out _, HS⟩
                case measure => simp [intOf]; omega
            · have hstep : GoodPre (ls.take (k + 1)) := by
                rw [take_snoc ls k hkl, HX.out]
                have e : ls.take j = ls.take k := by rw [show j = k from by omega]
                have hin' := hin.out
                rw [e] at hin'
                exact hgood.out.snoc HOK.out (fun y hy => (hin' y hy).1) (fun y hy => (hin' y hy).2)
              have HS := Lib.hid hstep
              clear hstep
              go_wp2
              go_roundw
              case rel => exact ⟨k + 1, by omega, by go_num, HB'.out, HS⟩
              case measure => simp [intOf]; omega
        · go_wp2_with (go_at_call 39; first | ((with_reducible refine (in_yes xi 0 23 _ h1.1 h1.2).mono ?_); rintro e w' ⟨rfl, rfl⟩) | ((with_reducible refine (in_no xr 1 32 _ (by omega)).mono ?_); rintro e w' ⟨rfl, rfl⟩))
          go_ret
          exact ⟨by rw [MayPost, HBAD.out (fun h => by have h1 := h.2.2.2.1; have h2 := h.2.2.2.2; dsimp only at h1 h2; omega)]; rfl, HB.out⟩
      · go_wp2_with (go_at_call 39; (with_reducible refine (in_no xi 0 23 _ (by omega)).mono ?_); rintro e w' ⟨rfl, rfl⟩)
        go_ret
        exact ⟨by rw [MayPost, HBAD.out (fun h => by have h1 := h.1; have h2 := h.2.1; dsimp only at h1 h2; omega)]; rfl, HB.out⟩
    · have hkl : ls.take k = ls := List.take_of_length_le (by have := HL.out; omega)
      have hfin : goodB ls = decide ((n : Int) ≤ 24) := by
        have g : GoodPre ls := by rw [← hkl]; exact hgood.out
        have := HL.out
        by_cases h : n ≤ 24
        · rw [goodB_true ⟨by omega, g⟩]; simp; omega
        · rw [goodB_false (notGood_long (by omega))]; simp; omega
      have HF := Lib.hid hfin
      clear hkl hfin
      go_wp2
      go_ret
      exact ⟨by rw [MayPost, HF.out]; rfl, hbel⟩
#print axioms itemsMay_any
end Go.Proofs.Ytphbebcbbfbgpab
