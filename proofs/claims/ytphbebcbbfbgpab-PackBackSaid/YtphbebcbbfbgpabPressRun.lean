/- press.run and saltcellarref.sames: the length of the run at a place. -/
import Derived.Test.YtphbebcbbfbgpabPlainPress
import Derived.Test.YtphbebcbbfbgpabProg
namespace Go.Proofs.Ytphbebcbbfbgpab
open Go Go.RowKit

theorem size_list (s : ByteArray) : s.size = s.data.toList.length := by simp

theorem get_list (s : ByteArray) (i : Nat) (h : i < s.size) : s.data.toList[i]? = some (s[i]'h) := by
  rw [List.getElem?_eq_getElem (by simpa using h)]
  rfl
theorem run_is {s : ByteArray} {i n : Nat} (hn : 1 ≤ n) (hin : i + n ≤ s.size) (hall : ∀ j, j < n → s.data.toList[i + j]? = s.data.toList[i]?) (hstop : i + n < s.size → s.data.toList[i + n]? ≠ s.data.toList[i]?) :
    runLen (s.data.toList.drop i) = n := by
  have hl := size_list s
  refine runLen_eq hn (by rw [List.length_drop]; omega) (fun j hj => ?_) (fun h e => ?_)
  · have := hall j hj
    rw [List.getElem?_eq_getElem (by omega), List.getElem?_eq_getElem (by omega)] at this
    simpa using this
  · rw [List.length_drop] at h
    refine hstop (by omega) ?_
    rw [List.getElem?_eq_getElem (by omega), List.getElem?_eq_getElem (by omega)]
    simpa using e

def RunPost (s : ByteArray) (i : Nat) (e : Ending) : Prop := e = .returned (.int .i64 (runLen (s.data.toList.drop i)))

set_option maxHeartbeats 1000000 in
theorem run_any (s : ByteArray) (i : Nat) (w : World) (hs : s.size ≤ 48) (hi : i < s.size) :
    Calls Try.prog 49 #[.string s, .int .i64 i] w fun e w' => RunPost s i e ∧ Below w.heap.size w w' := by
  go_enter Try.func49, Try.ntmps49
  go_wp2
  go_loopw [5] (fun t wr => ∃ n : Nat, 1 ≤ n ∧ i + n ≤ s.size ∧ t = .int .i64 n ∧ Below w.heap.size w wr ∧ Hid (∀ j, j < n → s.data.toList[i + j]? = s.data.toList[i]?)) (fun t _ => s.size - (intOf t).toNat)
  case atStart => exact ⟨1, Nat.le_refl _, by omega, rfl, Below.refl _ _, Lib.hid (fun j hj => by rw [show j = 0 from by omega]; rfl)⟩
  case round =>
    obtain ⟨n, hn, hin, rfl, hbel, hall⟩ := hrel
    have HB := Lib.hid hbel
    clear hbel
    have s1 : IntKind.i64.wrap ((i : Int) + (n : Int)) = (i : Int) + (n : Int) := IntWalk.i64_in _ (by omega)
    have s2 : (0 : Int) ≤ (i : Int) + (n : Int) := by omega
    have s3 : ((i : Int) + (n : Int)).toNat = i + n := by omega
    by_cases h1 : (i : Int) + (n : Int) < (s.size : Int)
    · have d1 := decide_eq_true h1
      have h1' : i + n < s.size := by omega
      have d2 : decide ((n : Int) < 130) = true := by simp; omega
      obtain ⟨a, ha⟩ : ∃ a, s[i + n]'h1' = a := ⟨_, rfl⟩
      obtain ⟨b, hb⟩ : ∃ b, s[i]'hi = b := ⟨_, rfl⟩
      by_cases h2 : a = b
      · have d3 : ((a.toNat : Int) == (b.toNat : Int)) = true := by simp [h2]
        rw [← ha, ← hb] at d3
        have hstep : ∀ j, j < n + 1 → s.data.toList[i + j]? = s.data.toList[i]? := by
          intro j hj
          by_cases hjn : j = n
          · subst hjn; rw [get_list s _ h1', get_list s _ hi, ha, hb, h2]
          · exact hall.out j (by omega)
        have HS := Lib.hid hstep
        clear ha hb h2 hstep
        go_wp2
        go_quiet (fail)
        clear s1
        go_wp2
        go_roundw
        case rel => exact ⟨n + 1, by omega, by omega, by go_num, below_drewN HB.out _, HS⟩
        case measure => simp [intOf]; omega
      · have d3 : ((a.toNat : Int) == (b.toNat : Int)) = false := by
          rw [beq_eq_false_iff_ne]
          intro e
          exact h2 (UInt8.toNat_inj.1 (by omega))
        rw [← ha, ← hb] at d3
        have hr := run_is hn hin hall.out (fun _ => by rw [get_list s _ h1', get_list s _ hi, ha, hb]; simpa using h2)
        have HR := Lib.hid hr
        clear ha hb h2 hr
        go_wp2
        go_quiet (fail)
        clear s1
        go_wp2
        go_ret
        exact ⟨by rw [RunPost, HR.out]; rfl, below_drewN HB.out _⟩
    · have d1 := decide_eq_false h1
      have hr := run_is hn hin hall.out (fun h => by omega)
      have HR := Lib.hid hr
      clear hr
      go_wp2
      go_quiet (fail)
      clear s1
      go_wp2
      go_ret
      exact ⟨by rw [RunPost, HR.out]; rfl, below_drewN HB.out _⟩

set_option maxHeartbeats 1000000 in
theorem sames_any (s : ByteArray) (i : Nat) (w : World) (hs : s.size ≤ 48) (hi : i < s.size) :
    Calls Try.prog 95 #[.string s, .int .i64 i] w fun e w' => RunPost s i e ∧ Below w.heap.size w w' := by
  go_enter Try.func95, Try.ntmps95
  go_wp2
  go_loopw [5] (fun t wr => ∃ n : Nat, i + n ≤ s.size ∧ t = .int .i64 n ∧ Below w.heap.size w wr ∧ Hid (∀ j, j < n → s.data.toList[i + j]? = s.data.toList[i]?)) (fun t _ => s.size - (intOf t).toNat)
  case atStart => exact ⟨0, by omega, rfl, Below.refl _ _, Lib.hid (fun j hj => absurd hj (by omega))⟩
  case round =>
    obtain ⟨n, hin, rfl, hbel, hall⟩ := hrel
    have HB := Lib.hid hbel
    clear hbel
    have s1 : IntKind.i64.wrap ((i : Int) + (n : Int)) = (i : Int) + (n : Int) := IntWalk.i64_in _ (by omega)
    have s2 : (0 : Int) ≤ (i : Int) + (n : Int) := by omega
    have s3 : ((i : Int) + (n : Int)).toNat = i + n := by omega
    have d2 : decide ((n : Int) < 130) = true := by simp; omega
    by_cases h1 : (i : Int) + (n : Int) < (s.size : Int)
    · have d1 := decide_eq_true h1
      have h1' : i + n < s.size := by omega
      obtain ⟨a, ha⟩ : ∃ a, s[i + n]'h1' = a := ⟨_, rfl⟩
      obtain ⟨b, hb⟩ : ∃ b, s[i]'hi = b := ⟨_, rfl⟩
      by_cases h2 : a = b
      · have d3 : ((a.toNat : Int) == (b.toNat : Int)) = true := by simp [h2]
        rw [← ha, ← hb] at d3
        have hstep : ∀ j, j < n + 1 → s.data.toList[i + j]? = s.data.toList[i]? := by
          intro j hj
          by_cases hjn : j = n
          · subst hjn; rw [get_list s _ h1', get_list s _ hi, ha, hb, h2]
          · exact hall.out j (by omega)
        have HS := Lib.hid hstep
        clear ha hb h2 hstep
        go_wp2
        go_quiet (fail)
        clear s1
        go_wp2
        go_roundw
        case rel => exact ⟨n + 1, by omega, by go_num, below_drewN HB.out _, HS⟩
        case measure => simp [intOf]; omega
      · have d3 : ((a.toNat : Int) == (b.toNat : Int)) = false := by
          rw [beq_eq_false_iff_ne]
          intro e
          exact h2 (UInt8.toNat_inj.1 (by omega))
        rw [← ha, ← hb] at d3
        have hn0 : n ≠ 0 := by
          rintro rfl
          exact h2 (by rw [← ha, ← hb]; rfl)
        have hr := run_is (by omega) hin hall.out (fun _ => by rw [get_list s _ h1', get_list s _ hi, ha, hb]; simpa using h2)
        have HR := Lib.hid hr
        clear ha hb h2 hr
        go_wp2
        go_quiet (fail)
        clear s1
        go_wp2
        go_ret
        exact ⟨by rw [RunPost, HR.out]; rfl, below_drewN HB.out _⟩
    · have d1 := decide_eq_false h1
      have hr := run_is (by omega) hin hall.out (fun h => by omega)
      have HR := Lib.hid hr
      clear hr
      go_wp2
      go_quiet (fail)
      clear s1
      go_wp2
      go_ret
      exact ⟨by rw [RunPost, HR.out]; rfl, below_drewN HB.out _⟩
end Go.Proofs.Ytphbebcbbfbgpab
