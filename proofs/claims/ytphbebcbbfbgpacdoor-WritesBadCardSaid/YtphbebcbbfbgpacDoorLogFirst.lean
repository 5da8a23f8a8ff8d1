/- log.first: the record at the front of bytes. -/
import Derived.Test.YtphbebcbbfbgpacDoorLogFirstP
import Derived.Deep.RegionHeld3
namespace Go.Proofs.YtphbebcbbfbgpacDoor
open Go Go.RowKit

set_option maxRecDepth 20000 in
set_option maxHeartbeats 4000000 in
theorem first_any (s : ByteArray) (b : Int) (w : World) (hs : s.size ≤ 140737488355328) :
    Calls Tryd.prog 113 #[.string s, .int .i64 b] w (FirstPost w (firstL s.data.toList b)) := by
  by_cases h3 : s.size < 3
  · have HF := Lib.hid (firstL_short b h3)
    have d1 : decide ((s.size : Int) < 3) = true := decide_eq_true (by omega)
    go_enter Tryd.func113, Tryd.ntmps113
    go_wp2
    go_ret2
    exact FirstPost.no HF.out (Below.refl _ _)
  have d1 : decide ((s.size : Int) < 3) = false := decide_eq_false (by omega)
  have hs3 : 3 ≤ s.size := by omega
  have hs0 : 0 < s.size := by omega
  have hs1 : 1 < s.size := by omega
  have hs2 : 2 < s.size := by omega
  have hat := firstL_at (s := s) b hs3 rfl
  obtain ⟨c, hc⟩ : ∃ c, (s[0]'hs0).toNat = c := ⟨_, rfl⟩
  obtain ⟨x, hx⟩ : ∃ x, (s[1]'hs1).toNat = x := ⟨_, rfl⟩
  obtain ⟨y, hy⟩ : ∃ y, (s[2]'hs2).toNat = y := ⟨_, rfl⟩
  have hc256 : c < 256 := by rw [← hc]; exact (s[0]'hs0).toNat_lt
  have hx256 : x < 256 := by rw [← hx]; exact (s[1]'hs1).toNat_lt
  have hy256 : y < 256 := by rw [← hy]; exact (s[2]'hs2).toNat_lt
  rw [hc, hx, hy] at hat
  have hci : ((s[0]'hs0).toNat : Int) = (c : Int) := by rw [hc]
  have hxi : ((s[1]'hs1).toNat : Int) = (x : Int) := by rw [hx]
  have hyi : ((s[2]'hs2).toNat : Int) = (y : Int) := by rw [hy]
  have HAT := Lib.hid hat
  clear h3 hc hx hy hat
  by_cases h114 : c = 114
  · have d2 : ((c : Int) != 114) = false := by rw [h114]; rfl
    have hat2 := HAT.out
    rw [if_pos h114] at hat2
    obtain ⟨n, hn⟩ : ∃ n, 3 + (256 * x + y) = n := ⟨_, rfl⟩
    have hnn : n < 100000 := by omega
    rw [hn] at hat2
    have HAT2 := Lib.hid hat2
    have hn3 : 3 ≤ n := by omega
    have hni : 3 + (x : Int) * 256 + (y : Int) = (n : Int) := by omega
    clear hat2 h114 hn
    by_cases hsh : s.size < n + 4
    · have d3 : decide ((s.size : Int) < (n : Int) + 4) = true := decide_eq_true (by omega)
      have HF : Hid (firstL s.data.toList b = none) := Lib.hid (by rw [HAT2.out, if_pos hsh])
      go_enter Tryd.func113, Tryd.ntmps113
      go_wp2
      go_quiet (fail)
      go_wp2
      go_quiet (fail)
      go_wp2
      go_ret2
      exact FirstPost.no HF.out (below_drewN (below_drewN (Below.refl _ _) _) _)
    · have d3 : decide ((s.size : Int) < (n : Int) + 4) = false := decide_eq_false (by omega)
      have hat3 := HAT2.out
      rw [if_neg hsh] at hat3
      obtain ⟨P, hP⟩ : ∃ P, s.extract 0 n = P := ⟨_, rfl⟩
      obtain ⟨Q, hQ⟩ : ∃ Q, s.extract n (n + 4) = Q := ⟨_, rfl⟩
      obtain ⟨R, hR⟩ : ∃ R, s.extract 3 n = R := ⟨_, rfl⟩
      have hPs : P.size ≤ 100000 := by rw [← hP, size_list, extract_list, List.length_take, List.length_drop, ← size_list]; omega
      have hRs : R.size ≤ 100000 := by rw [← hR, size_list, extract_list, List.length_take, List.length_drop, ← size_list]; omega
      rw [hP, hQ, hR] at hat3
      have hsum : ∀ W, Calls Tryd.prog 112 #[.string P] W fun e w' => e = .returned (.int .i64 (sumN P.data.toList)) ∧ W = w' := fun W => sum_any P W (by unfold maxLen; omega)
      have HSUM := Lib.hid hsum
      have HAT3 := Lib.hid hat3
      have b1 : (0 : Int) ≤ (n : Int) := by omega
      have b2 : (n : Int) ≤ (s.size : Int) := by omega
      have b3 : (n : Int) + 4 ≤ (s.size : Int) := by omega
      have b4 : (3 : Int) ≤ (n : Int) := by omega
      have b5 : (n : Int) ≤ (n : Int) + 4 := by omega
      have t4 : ((n : Int) + 4).toNat = n + 4 := by omega
      have s4 : IntKind.i64.wrap ((n : Int) + 4) = (n : Int) + 4 := IntWalk.i64_in _ (by omega)
      clear hsum hat3
      by_cases hse : bstr (sealL P.data.toList) = Q
      · have hat4 := HAT3.out
        rw [if_pos hse] at hat4
        have hne : ((bstr (sealL P.data.toList)).toList == Q.toList) = true := by rw [hse]; simp
        obtain ⟨r, hr⟩ : ∃ r, writesL R.data.toList = r := ⟨_, rfl⟩
        have hwr : ∀ W, Calls Tryd.prog 126 #[.string R] W (WrsPost W r) := fun W => by rw [← hr]; exact writes_any R W hRs
        rw [hr] at hat4
        have HWR := Lib.hid hwr
        clear hwr hr hse
        cases r with
        | none =>
          simp only at hat4
          have HF := Lib.hid hat4
          clear hat4
          go_enter Tryd.func113, Tryd.ntmps113
          go_wp2
          go_quiet (fail)
          go_wp2
          go_region_held3 (fun W => Below w.heap.size w W) (first | exact HB3.out | exact (below_drewN (Below.refl _ _) _).drew) (first | (go_at_call 112; (with_reducible refine (HSUM.out _).mono ?_); rintro e w' ⟨rfl, rfl⟩) | (go_at_call 111; (with_reducible refine (four_any _ _).mono ?_); rintro e w3 ⟨rfl, hb3⟩; have HB3 : Hid (Below w.heap.size w w3) := Lib.hid (((below_drewN (Below.refl w.heap.size w) _).drew).trans hb3); clear hb3))
          all_goals
            clear t4 s4
            go_wp2_with fail
            refine (HWR.out _).mono ?_
            rintro e w4 ⟨⟨v, rfl⟩, hb4⟩
            have HB4 := Lib.hid (HB3.out.trans (hb4.mono HB3.out.size))
            clear hb4
            go_wp2
            go_ret2
            exact FirstPost.no HF.out HB4.out
        | some ws =>
          simp only at hat4
          obtain ⟨k, hk⟩ : ∃ k, ws.length = k := ⟨_, rfl⟩
          have HK := Lib.hid hk
          by_cases hf : writesK ws b = 0
          · have HF : Hid (firstL s.data.toList b = some (ws, n + 4)) := Lib.hid (by rw [hat4, if_pos hf])
            have HE := Lib.hid hf
            clear hat4 hf hk
            go_enter Tryd.func113, Tryd.ntmps113
            go_wp2
            go_quiet (fail)
            go_wp2
            go_region_held3 (fun W => Below w.heap.size w W) (first | exact HB3.out | exact (below_drewN (Below.refl _ _) _).drew) (first | (go_at_call 112; (with_reducible refine (HSUM.out _).mono ?_); rintro e w' ⟨rfl, rfl⟩) | (go_at_call 111; (with_reducible refine (four_any _ _).mono ?_); rintro e w3 ⟨rfl, hb3⟩; have HB3 : Hid (Below w.heap.size w w3) := Lib.hid (((below_drewN (Below.refl w.heap.size w) _).drew).trans hb3); clear hb3))
            all_goals
              clear t4 s4
              go_wp2_with fail
              refine (HWR.out _).mono ?_
              rintro e w4 ⟨A4, c4, rfl, hown4, hb4⟩
              rw [HK.out] at hown4 ⊢
              have hB4 := HB3.out.trans (hb4.mono HB3.out.size)
              have hkm : k ≤ maxLen := by
                obtain ⟨_, _, he, h1, h2, _⟩ := own_form hown4
                simp only [Value.slice.injEq] at he
                obtain ⟨_, _, rfl⟩ := he
                omega
              have HB4 := Lib.hid hB4
              have HO4 := Lib.hid (own_mono hown4 (base' := w.heap.size) HB3.out.size)
              have HCW := Lib.hid (checkWrites_any A4 k c4 b ws w4 (Rep.of_own HK.out.symm hown4 (Nat.le_refl _)) hkm)
              clear hb4 hown4 hB4 hkm
              go_wp2_with fail
              refine HCW.out.mono ?_
              rintro e w5 ⟨he, hb5⟩
              rw [FaultPost, HE.out] at he
              subst he
              have HB5 := Lib.hid (HB4.out.trans (hb5.mono HB4.out.size))
              have HO5 := Lib.hid (own_below HO4.out hb5)
              clear hb5
              go_wp2
              go_ret2
              exact FirstPost.yes HF.out HK.out.symm HO5.out HB5.out
          · have HF : Hid (firstL s.data.toList b = none) := Lib.hid (by rw [hat4, if_neg hf])
            obtain ⟨z, hz⟩ : ∃ z, writesK ws b = z := ⟨_, rfl⟩
            rw [hz] at hf
            have dz : (z != 0) = true := by simp [hf]
            have HE := Lib.hid hz
            clear hat4 hf hk hz
            go_enter Tryd.func113, Tryd.ntmps113
            go_wp2
            go_quiet (fail)
            go_wp2
            go_region_held3 (fun W => Below w.heap.size w W) (first | exact HB3.out | exact (below_drewN (Below.refl _ _) _).drew) (first | (go_at_call 112; (with_reducible refine (HSUM.out _).mono ?_); rintro e w' ⟨rfl, rfl⟩) | (go_at_call 111; (with_reducible refine (four_any _ _).mono ?_); rintro e w3 ⟨rfl, hb3⟩; have HB3 : Hid (Below w.heap.size w w3) := Lib.hid (((below_drewN (Below.refl w.heap.size w) _).drew).trans hb3); clear hb3))
            all_goals
              clear t4 s4
              go_wp2_with fail
              refine (HWR.out _).mono ?_
              rintro e w4 ⟨A4, c4, rfl, hown4, hb4⟩
              rw [HK.out] at hown4 ⊢
              have hB4 := HB3.out.trans (hb4.mono HB3.out.size)
              have hkm : k ≤ maxLen := by
                obtain ⟨_, _, he, h1, h2, _⟩ := own_form hown4
                simp only [Value.slice.injEq] at he
                obtain ⟨_, _, rfl⟩ := he
                omega
              have HB4 := Lib.hid hB4
              have HCW := Lib.hid (checkWrites_any A4 k c4 b ws w4 (Rep.of_own HK.out.symm hown4 (Nat.le_refl _)) hkm)
              clear hb4 hown4 hB4 hkm
              go_wp2_with fail
              refine HCW.out.mono ?_
              rintro e w5 ⟨he, hb5⟩
              rw [FaultPost, HE.out] at he
              subst he
              have HB5 := Lib.hid (HB4.out.trans (hb5.mono HB4.out.size))
              clear hb5
              go_wp2
              go_ret2
              exact FirstPost.no HF.out HB5.out
      · have hne : ((bstr (sealL P.data.toList)).toList == Q.toList) = false := toList_beq_no hse
        have HF : Hid (firstL s.data.toList b = none) := Lib.hid (by rw [HAT3.out, if_neg hse])
        clear hse
        go_enter Tryd.func113, Tryd.ntmps113
        go_wp2
        go_quiet (fail)
        go_wp2
        go_region_held3 (fun W => Below w.heap.size w W) (first | exact HB3.out | exact (below_drewN (Below.refl _ _) _).drew) (first | (go_at_call 112; (with_reducible refine (HSUM.out _).mono ?_); rintro e w' ⟨rfl, rfl⟩) | (go_at_call 111; (with_reducible refine (four_any _ _).mono ?_); rintro e w3 ⟨rfl, hb3⟩; have HB3 : Hid (Below w.heap.size w w3) := Lib.hid (((below_drewN (Below.refl w.heap.size w) _).drew).trans hb3); clear hb3))
        all_goals
          go_wp2
          go_ret2
          exact FirstPost.no HF.out HB3.out
  · have d2 : ((c : Int) != 114) = true := by simp; omega
    have HF : Hid (firstL s.data.toList b = none) := Lib.hid (by rw [HAT.out, if_neg h114])
    clear h114
    go_enter Tryd.func113, Tryd.ntmps113
    go_wp2
    go_ret2
    exact FirstPost.no HF.out (Below.refl _ _)
end Go.Proofs.YtphbebcbbfbgpacDoor
