/- saltcellarkeep.Data: the data of raw numbers. -/
import Derived.Test.YtphbebcbbfbgpacDoorOpenRaw
import Derived.Test.YtphbebcbbfbgpacDoorShelf
import Derived.WalkLawsBesides
namespace Go.Proofs.YtphbebcbbfbgpacDoor
open Go Go.RowKit

theorem dec_len (i : Nat) (h : i < 100) : (Lib.decDigits i).length ≤ 2 := by
  rw [Lib.decDigits]
  split
  · simp
  · rw [Lib.decDigits, dif_pos (by omega)]; simp
theorem decB_size (i : Nat) (h : i < 100) : (decB i).size ≤ 2 := by
  have := dec_len i h
  simpa [decB, ByteArray.size] using this
theorem repB_size (x : UInt8) (n : Nat) : (repB x n).size = n := by
  simp [repB, ByteArray.size, Lib.repeatL_length]
theorem dataR_size (r : Raw) : (dataR r).size ≤ 39 := by
  unfold dataR
  have h1 := pickN_lt r.b (m := 40) (by omega)
  have h2 := pickN_lt r.b (m := 9) (by omega)
  have h3 := pickN_lt r.b (m := 4) (by omega)
  have d1 := decB_size (pickN r.b 40) (by omega)
  have d2 := decB_size (pickN r.b 4) (by omega)
  have e0 : (⟨#[]⟩ : ByteArray).size = 0 := rfl
  have e1 : (⟨#[97, 97, 98]⟩ : ByteArray).size = 3 := rfl
  have e2 : (⟨#[101, 110, 100]⟩ : ByteArray).size = 3 := rfl
  have e3 : (⟨#[98, 108, 111, 99, 107, 32]⟩ : ByteArray).size = 6 := rfl
  have e4 : (⟨#[115, 97, 109, 101, 32]⟩ : ByteArray).size = 5 := rfl
  split
  · rw [e0]; omega
  · split
    · rw [repB_size]; omega
    · split
      · rw [ByteArray.size_append, ByteArray.size_append, repB_size, e1, e2]; omega
      · split
        · rw [ByteArray.size_append, e3]; omega
        · rw [ByteArray.size_append, e4]; omega

set_option maxRecDepth 20000 in
set_option maxHeartbeats 1000000 in
theorem data_any (r : Raw) (w : World) (hw : r.wf) :
    Calls Tryd.prog 41 #[.agg #[.int .i64 r.kind, .int .i64 r.a, .int .i64 r.b, .int .i64 r.c]] w fun e w' => e = .returned (.string (dataR r)) ∧ Below w.heap.size w w' := by
  obtain ⟨kind, a, b, c⟩ := r
  obtain ⟨z, hz⟩ : ∃ z, pickN a 6 = z := ⟨_, rfl⟩
  have hz6 : z < 6 := by rw [← hz]; exact pickN_lt a (by omega)
  have hpa : ∀ W, Calls Tryd.prog 15 #[.int .i64 a, .int .i64 6] W fun e w' => e = .returned (.int .i64 z) ∧ W = w' := fun W => by rw [← hz]; exact picked_any a 6 W hw.2.1 (by omega) (by omega)
  have hpb : ∀ (m : Nat) W, 0 < m → m ≤ 1000000 → Calls Tryd.prog 15 #[.int .i64 b, .int .i64 m] W fun e w' => e = .returned (.int .i64 (pickN b m)) ∧ W = w' := fun m W h1 h2 => picked_any b m W hw.2.2.1 h1 h2
  have HPA := Lib.hid hpa
  have hd : dataR ⟨kind, a, b, c⟩ = (if z = 0 then ⟨#[]⟩ else if z = 1 then repB 122 (pickN b 40) else if z = 2 then ⟨#[97, 97, 98]⟩ ++ repB 45 (pickN b 9) ++ ⟨#[101, 110, 100]⟩ else if z = 3 then ⟨#[98, 108, 111, 99, 107, 32]⟩ ++ decB (pickN b 40) else ⟨#[115, 97, 109, 101, 32]⟩ ++ decB (pickN b 4)) := by
    rw [← hz]; rfl
  rw [hd]
  have hb0 : Below w.heap.size w (w.alloc (.cells #[.int .i64 kind, .int .i64 a, .int .i64 b, .int .i64 c] 80)) := (Below.refl _ _).alloc (Nat.le_refl _) _
  have HB0 := Lib.hid hb0
  clear hpa hd hz hw hb0
  by_cases h0 : z = 0
  · subst h0
    rw [if_pos rfl]
    go_enter Tryd.func41, Tryd.ntmps41
    go_wp2_with (go_at_call 15; (with_reducible refine (HPA.out _).mono ?_); rintro e w' ⟨rfl, rfl⟩)
    go_ret
    exact ⟨rfl, HB0.out⟩
  by_cases h1 : z = 1
  · subst h1
    rw [if_neg (by omega), if_pos rfl]
    have hb1 : ∀ W, Calls Tryd.prog 15 #[.int .i64 b, .int .i64 40] W fun e w' => e = .returned (.int .i64 (pickN b 40)) ∧ W = w' := fun W => hpb 40 W (by omega) (by omega)
    have HPB := Lib.hid hb1
    have hlt := pickN_lt b (m := 40) (by omega)
    obtain ⟨k, hk⟩ : ∃ k, pickN b 40 = k := ⟨_, rfl⟩
    rw [hk] at HPB hlt ⊢
    clear hpb hb1 hk
    have hr : ∀ W, Calls Tryd.prog 25 #[.string ⟨#[122]⟩, .int .i64 k] W fun e w' => e = .returned (.string (repB 122 k)) ∧ Below W.heap.size W w' := fun W => strings_repeat ⟨#[122]⟩ k W (by omega) (by have : (⟨#[122]⟩ : ByteArray).size = 1 := rfl; rw [this]; omega)
    have HR := Lib.hid hr
    have hs := repB_size 122 k
    obtain ⟨d, hd⟩ : ∃ d, repB 122 k = d := ⟨_, rfl⟩
    rw [hd] at HR hs ⊢
    clear hr hd
    go_enter Tryd.func41, Tryd.ntmps41
    go_wp2_with (first | (go_at_call 15; (with_reducible refine (HPA.out _).mono ?_); rintro e w' ⟨rfl, rfl⟩) | (go_at_call 15; (with_reducible refine (HPB.out _).mono ?_); rintro e w' ⟨rfl, rfl⟩) | (go_at_call 25; (with_reducible refine (HR.out _).mono ?_); rintro e w5 ⟨rfl, hb5⟩))
    go_ret
    exact ⟨rfl, HB0.out.trans (hb5.mono HB0.out.size)⟩
  by_cases h2 : z = 2
  · subst h2
    rw [if_neg (by omega), if_neg (by omega), if_pos rfl]
    have hb1 : ∀ W, Calls Tryd.prog 15 #[.int .i64 b, .int .i64 9] W fun e w' => e = .returned (.int .i64 (pickN b 9)) ∧ W = w' := fun W => hpb 9 W (by omega) (by omega)
    have HPB := Lib.hid hb1
    have hlt := pickN_lt b (m := 9) (by omega)
    obtain ⟨k, hk⟩ : ∃ k, pickN b 9 = k := ⟨_, rfl⟩
    rw [hk] at HPB hlt ⊢
    clear hpb hb1 hk
    have hr : ∀ W, Calls Tryd.prog 25 #[.string ⟨#[45]⟩, .int .i64 k] W fun e w' => e = .returned (.string (repB 45 k)) ∧ Below W.heap.size W w' := fun W => strings_repeat ⟨#[45]⟩ k W (by omega) (by have : (⟨#[45]⟩ : ByteArray).size = 1 := rfl; rw [this]; omega)
    have HR := Lib.hid hr
    have hs := repB_size 45 k
    obtain ⟨d, hd⟩ : ∃ d, repB 45 k = d := ⟨_, rfl⟩
    rw [hd] at HR hs ⊢
    clear hr hd
    have e1 : (⟨#[97, 97, 98]⟩ : ByteArray).size = 3 := rfl
    have e2 : (⟨#[101, 110, 100]⟩ : ByteArray).size = 3 := rfl
    have e3 : ((⟨#[97, 97, 98]⟩ : ByteArray) ++ d).size = 3 + k := by rw [ByteArray.size_append, e1, hs]
    go_enter Tryd.func41, Tryd.ntmps41
    go_wp2_with (first | (go_at_call 15; (with_reducible refine (HPA.out _).mono ?_); rintro e w' ⟨rfl, rfl⟩) | (go_at_call 15; (with_reducible refine (HPB.out _).mono ?_); rintro e w' ⟨rfl, rfl⟩) | (go_at_call 25; (with_reducible refine (HR.out _).mono ?_); rintro e w5 ⟨rfl, hb5⟩))
    go_ret
    exact ⟨rfl, HB0.out.trans (hb5.mono HB0.out.size)⟩
  by_cases h3 : z = 3
  · subst h3
    rw [if_neg (by omega), if_neg (by omega), if_neg (by omega), if_pos rfl]
    have hb1 : ∀ W, Calls Tryd.prog 15 #[.int .i64 b, .int .i64 40] W fun e w' => e = .returned (.int .i64 (pickN b 40)) ∧ W = w' := fun W => hpb 40 W (by omega) (by omega)
    have HPB := Lib.hid hb1
    have hlt := pickN_lt b (m := 40) (by omega)
    obtain ⟨k, hk⟩ : ∃ k, pickN b 40 = k := ⟨_, rfl⟩
    rw [hk] at HPB hlt ⊢
    clear hpb hb1 hk
    have hi : ∀ W, Calls Tryd.prog 67 #[.int .i64 k] W fun e w' => e = .returned (.string (decB k)) ∧ w' = W := fun W => itoa_small k (by omega) W
    have HI := Lib.hid hi
    have hs := decB_size k (by omega)
    obtain ⟨d, hd⟩ : ∃ d, decB k = d := ⟨_, rfl⟩
    rw [hd] at HI hs ⊢
    clear hi hd
    have e1 : (⟨#[98, 108, 111, 99, 107, 32]⟩ : ByteArray).size = 6 := rfl
    go_enter Tryd.func41, Tryd.ntmps41
    go_wp2_with (first | (go_at_call 15; (with_reducible refine (HPA.out _).mono ?_); rintro e w' ⟨rfl, rfl⟩) | (go_at_call 15; (with_reducible refine (HPB.out _).mono ?_); rintro e w' ⟨rfl, rfl⟩) | (go_at_call 67; (with_reducible refine (HI.out _).mono ?_); rintro e w5 ⟨rfl, rfl⟩))
    go_ret
    exact ⟨rfl, HB0.out⟩
  · rw [if_neg h0, if_neg h1, if_neg h2, if_neg h3]
    have q0 : ((z : Int) == 0) = false := by simp; omega
    have q1 : ((z : Int) == 1) = false := by simp; omega
    have q2 : ((z : Int) == 2) = false := by simp; omega
    have q3 : ((z : Int) == 3) = false := by simp; omega
    clear h0 h1 h2 h3
    have hb1 : ∀ W, Calls Tryd.prog 15 #[.int .i64 b, .int .i64 4] W fun e w' => e = .returned (.int .i64 (pickN b 4)) ∧ W = w' := fun W => hpb 4 W (by omega) (by omega)
    have HPB := Lib.hid hb1
    have hlt := pickN_lt b (m := 4) (by omega)
    obtain ⟨k, hk⟩ : ∃ k, pickN b 4 = k := ⟨_, rfl⟩
    rw [hk] at HPB hlt ⊢
    clear hpb hb1 hk
    have hi : ∀ W, Calls Tryd.prog 67 #[.int .i64 k] W fun e w' => e = .returned (.string (decB k)) ∧ w' = W := fun W => itoa_small k (by omega) W
    have HI := Lib.hid hi
    have hs := decB_size k (by omega)
    obtain ⟨d, hd⟩ : ∃ d, decB k = d := ⟨_, rfl⟩
    rw [hd] at HI hs ⊢
    clear hi hd
    have e1 : (⟨#[115, 97, 109, 101, 32]⟩ : ByteArray).size = 5 := rfl
    go_enter Tryd.func41, Tryd.ntmps41
    go_wp2_with (first | (go_at_call 15; (with_reducible refine (HPA.out _).mono ?_); rintro e w' ⟨rfl, rfl⟩) | (go_at_call 15; (with_reducible refine (HPB.out _).mono ?_); rintro e w' ⟨rfl, rfl⟩) | (go_at_call 67; (with_reducible refine (HI.out _).mono ?_); rintro e w5 ⟨rfl, rfl⟩))
    go_ret
    exact ⟨rfl, HB0.out⟩
end Go.Proofs.YtphbebcbbfbgpacDoor
