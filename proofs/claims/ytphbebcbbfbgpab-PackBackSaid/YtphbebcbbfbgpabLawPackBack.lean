/- The law PackBack returns true for all strings. -/
import Derived.Test.YtphbebcbbfbgpabPlainBack
import Derived.Test.YtphbebcbbfbgpabUnpack
import Derived.Test.YtphbebcbbfbgpabShelf
namespace Go.Proofs.Ytphbebcbbfbgpab
open Go Go.RowKit

theorem repeatL_len (c : UInt8) (k : Nat) : (Lib.repeatL [c] k).length = k := by rw [Lib.repeatL_length]; simp

set_option maxRecDepth 20000 in
set_option maxHeartbeats 4000000 in
theorem lawPackBack (s t : ByteArray) (w : World) (hs : s.size ≤ maxLen) (ht : t.size ≤ maxLen) :
    Calls Try.prog 8 #[.string s, .string t] w fun e w' => e = .returned (.bool true) ∧ Below w.heap.size w w' := by
  obtain ⟨a, ha⟩ : ∃ a, s.extract 0 (min (s.size : Int) 48).toNat = a := ⟨_, rfl⟩
  have ha48 : a.size ≤ 48 := by rw [← ha, ByteArray.size_extract]; omega
  have hal := size_list a
  obtain ⟨p, hp⟩ : ∃ p, packB a = p := ⟨_, rfl⟩
  have hpd : p.data.toList = pack a.data.toList := by rw [← hp]; simp [packB]
  have hplen : p.size ≤ a.size + 1 := by
    rw [size_list, hpd, hal]
    exact (pack_length _ _ (Nat.le_refl _)).1
  have hup := unpack_pack a.data.toList (by omega)
  have hpk : ∀ W : World, Calls Try.prog 22 #[.string a] W fun e w' => e = .returned (.tuple #[.string p, .int .i64 0]) ∧ Below W.heap.size W w' := fun W => by
    have := pack_any a W ha48
    unfold PackPost at this
    rwa [hp] at this
  have hun : ∀ W : World, Calls Try.prog 24 #[.string p] W fun e w' => e = .returned (.tuple #[.string a, .int .i64 0]) ∧ Below W.heap.size W w' := fun W => by
    have := unpack_any p W (by unfold maxLen; omega)
    unfold UnpackPost unpackB unpackN at this
    rwa [hpd, hup] at this
  obtain ⟨c, hc⟩ : ∃ c, a.size + c = 49 := ⟨49 - a.size, by omega⟩
  obtain ⟨x, hx⟩ : ∃ x : ByteArray, x = ⟨(Lib.repeatL [120] c).toArray⟩ := ⟨_, rfl⟩
  have hxs : x.size = c := by rw [size_list, hx, repeatL_len]
  have hrep : ∀ W : World, Calls Try.prog 23 #[.string ⟨#[120]⟩, .int .i64 (49 - (a.size : Int))] W fun e w' => e = .returned (.string x) ∧ Below W.heap.size W w' := fun W => by
    have h1 : (⟨#[120]⟩ : ByteArray).size = 1 := rfl
    have := strings_repeat ⟨#[120]⟩ c W (by omega) (by rw [h1]; omega)
    rw [show (49 - (a.size : Int)) = (c : Int) from by omega, hx]
    exact this
  have hlong : ∀ W : World, Calls Try.prog 22 #[.string (a ++ x)] W fun e w' => e = .returned (.tuple #[.string ByteArray.empty, .int .i64 1]) ∧ Below W.heap.size W w' :=
    fun W => pack_long (a ++ x) W (by rw [append_size]; omega)
  obtain ⟨u, k, hu, hk⟩ : ∃ u k, unpackB t = u ∧ unpackN t = k := ⟨_, _, rfl, rfl⟩
  have hunt : ∀ W : World, Calls Try.prog 24 #[.string t] W fun e w' => e = .returned (.tuple #[.string u, .int .i64 k]) ∧ Below W.heap.size W w' := fun W => by
    have := unpack_any t W ht
    unfold UnpackPost at this
    rwa [hu, hk] at this
  have hok : k = 0 → packB u = t ∧ u.size ≤ 48 := by
    intro h0
    have h1 : unpackOn t.data.toList t.data.toList [] = (0, u.data.toList) := by
      have e1 : (unpackOn t.data.toList t.data.toList []).1 = 0 := by rw [← h0, ← hk]; rfl
      have e2 : (unpackOn t.data.toList t.data.toList []).2 = u.data.toList := by rw [← hu]; simp [unpackB]
      rw [← e1, ← e2]
    have h2 := unpackF_ok _ _ _ _ _ (by simp) h1
    refine ⟨?_, by rw [size_list]; exact h2.2⟩
    apply ByteArray.ext
    apply Array.toList_inj.1
    rw [packB, h2.1]
  have hpk2 : k = 0 → ∀ W : World, Calls Try.prog 22 #[.string u] W fun e w' => e = .returned (.tuple #[.string t, .int .i64 0]) ∧ Below W.heap.size W w' := fun h0 W => by
    have := pack_any u W (hok h0).2
    unfold PackPost at this
    rwa [(hok h0).1] at this
  have dl : decide ((p.size : Int) ≤ (a.size : Int) + 1) = true := decide_eq_true (by omega)
  have HPK := Lib.hid hpk
  have HUN := Lib.hid hun
  have HREP := Lib.hid hrep
  have HLONG := Lib.hid hlong
  have HUNT := Lib.hid hunt
  have HPK2 := Lib.hid hpk2
  have hp49 : p.size ≤ 49 := by omega
  have hx49 : x.size ≤ 49 := by omega
  have hs2 : s.size ≤ 9223372036854775807 := hs
  clear hal hp hpd hplen hup hpk hun hc hx hxs hrep hlong hu hk hunt hok hpk2 hs ht
  by_cases hk0 : k = 0
  · have HP2 := Lib.hid (HPK2.out hk0)
    subst hk0
    go_enter Try.func8, Try.ntmps8
    go_wp2_with fail
    refine (HPK.out _).mono ?_
    rintro e w1 ⟨rfl, hb1⟩
    have HB1 := Lib.hid hb1
    clear hb1
    go_wp2_with fail
    refine (HUN.out _).mono ?_
    rintro e w2 ⟨rfl, hb2⟩
    have HB2 := Lib.hid (HB1.out.trans (hb2.mono HB1.out.size))
    clear hb2
    go_wp2_with fail
    refine (HREP.out _).mono ?_
    rintro e w3 ⟨rfl, hb3⟩
    have HB3 := Lib.hid (HB2.out.trans (hb3.mono HB2.out.size))
    clear hb3
    go_wp2_with fail
    refine (HLONG.out _).mono ?_
    rintro e w4 ⟨rfl, hb4⟩
    have HB4 := Lib.hid (HB3.out.trans (hb4.mono HB3.out.size))
    clear hb4
    go_wp2_with fail
    refine (HUNT.out _).mono ?_
    rintro e w5 ⟨rfl, hb5⟩
    have HB5 := Lib.hid (HB4.out.trans (hb5.mono HB4.out.size))
    clear hb5
    go_wp2_with fail
    refine (HP2.out _).mono ?_
    rintro e w6 ⟨rfl, hb6⟩
    have HB6 := Lib.hid (HB5.out.trans (hb6.mono HB5.out.size))
    clear hb6
    go_wp2
    go_ret
    exact ⟨rfl, HB6.out⟩
  · have d0 : (k == 0) = false := by simp [hk0]
    have HK0 := Lib.hid hk0
    clear hk0
    go_enter Try.func8, Try.ntmps8
    go_wp2_with fail
    refine (HPK.out _).mono ?_
    rintro e w1 ⟨rfl, hb1⟩
    have HB1 := Lib.hid hb1
    clear hb1
    go_wp2_with fail
    refine (HUN.out _).mono ?_
    rintro e w2 ⟨rfl, hb2⟩
    have HB2 := Lib.hid (HB1.out.trans (hb2.mono HB1.out.size))
    clear hb2
    go_wp2_with fail
    refine (HREP.out _).mono ?_
    rintro e w3 ⟨rfl, hb3⟩
    have HB3 := Lib.hid (HB2.out.trans (hb3.mono HB2.out.size))
    clear hb3
    go_wp2_with fail
    refine (HLONG.out _).mono ?_
    rintro e w4 ⟨rfl, hb4⟩
    have HB4 := Lib.hid (HB3.out.trans (hb4.mono HB3.out.size))
    clear hb4
    go_wp2_with fail
    refine (HUNT.out _).mono ?_
    rintro e w5 ⟨rfl, hb5⟩
    have HB5 := Lib.hid (HB4.out.trans (hb5.mono HB4.out.size))
    clear hb5
    go_wp2
    go_ret
    exact ⟨rfl, HB5.out⟩
end Go.Proofs.Ytphbebcbbfbgpab
