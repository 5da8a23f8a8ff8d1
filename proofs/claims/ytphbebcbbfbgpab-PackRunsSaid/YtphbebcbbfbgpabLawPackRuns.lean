/- The law PackRuns returns true for every byte and every number. -/
import Derived.Test.YtphbebcbbfbgpabPacked
import Derived.Test.YtphbebcbbfbgpabShelf
import Derived.Test.YtphbebcbbfbgpabPicked
namespace Go.Proofs.Ytphbebcbbfbgpab
open Go Go.RowKit

theorem repeatL_single (c : UInt8) (k : Nat) : Lib.repeatL [c] k = List.replicate k c := by
  induction k with
  | zero => rfl
  | succ k ih => rw [Lib.repeatL, ih]; rfl
theorem runLen_replicate (c : UInt8) (k : Nat) (hk : 1 ≤ k) : runLen (List.replicate k c) = k := by
  refine runLen_eq hk (by simp) (fun j hj => by simp) (fun h => absurd h (by simp))
theorem pack_replicate (c : UInt8) (k : Nat) (hk : 3 ≤ k) : pack (List.replicate k c) = [UInt8.ofNat (125 + k), c] := by
  have hr := runLen_replicate c k (by omega)
  rw [pack_run (by rw [hr]; exact hk) (by simp; omega), hr, List.drop_of_length_le (by simp), pack_nil]
  simp
theorem u8_bounds {n : Int} (h : (Lit.int .u8 n).wf = true) : 0 ≤ n ∧ n < 256 := by
  have h2 : IntKind.u8.min ≤ n ∧ n ≤ IntKind.u8.max := by simpa [Lit.wf] using h
  exact ⟨h2.1, Int.lt_of_le_of_lt h2.2 (by decide)⟩

set_option maxRecDepth 20000 in
set_option maxHeartbeats 2000000 in
theorem lawPackRuns (c n : Int) (w : World) (hc : (Lit.int .u8 c).wf = true) (hn : i64Ok n) :
    Calls Try.prog 7 #[.int .u8 c, .int .i64 n] w fun e w' => e = .returned (.bool true) ∧ Below w.heap.size w w' := by
  have hcb := u8_bounds hc
  obtain ⟨r, hr⟩ : ∃ r, pickV n 46 = r := ⟨_, rfl⟩
  have hr46 : r < 46 := by rw [← hr, pickV]; exact Nat.mod_lt _ (by omega)
  have hp := picked_any n 46 w hn (by omega) (by omega)
  rw [hr] at hp
  obtain ⟨s, hs⟩ : ∃ s, s = strOfNums [c] := ⟨_, rfl⟩
  have hsd : s.data.toList = [UInt8.ofNat c.toNat] := by rw [hs, strOfNums_data]; rfl
  have hss : s.size = 1 := by rw [size_list, hsd]; rfl
  obtain ⟨t, ht⟩ : ∃ t : ByteArray, t = ⟨(Lib.repeatL s.data.toList (3 + r)).toArray⟩ := ⟨_, rfl⟩
  have htd : t.data.toList = List.replicate (3 + r) (UInt8.ofNat c.toNat) := by rw [ht, hsd, repeatL_single]
  have hts : t.size = 3 + r := by rw [size_list, htd, List.length_replicate]
  obtain ⟨q, hq⟩ : ∃ q, q = strOfNums [125 + (3 + (r : Int)), c] := ⟨_, rfl⟩
  have hpk : packB t = q := by
    apply ByteArray.ext
    apply Array.toList_inj.1
    rw [hq, strOfNums_data, packB, htd, pack_replicate _ _ (by omega)]
    simp only [List.map_cons, List.map_nil]
    rw [show (125 + (3 + (r : Int))).toNat = 125 + (3 + r) from by omega]
  have hrep : ∀ W : World, Calls Try.prog 23 #[.string s, .int .i64 (3 + (r : Int))] W fun e w' => e = .returned (.string t) ∧ Below W.heap.size W w' := fun W => by
    have := strings_repeat s (3 + r) W (by omega) (by rw [hss]; omega)
    rw [← ht] at this
    rwa [show ((3 + r : Nat) : Int) = 3 + (r : Int) from by omega] at this
  have hpack : ∀ W : World, Calls Try.prog 22 #[.string t] W fun e w' => e = .returned (.tuple #[.string q, .int .i64 0]) ∧ Below W.heap.size W w' := fun W => by
    have := pack_any t W (by omega)
    unfold PackPost at this
    rwa [hpk] at this
  have hcv1 : ∀ W : World, (convert 46 9 (.slice (some ⟨W.heap.size, 0, none⟩) 1 1)).run Try.prog (W.alloc (.cells #[.int .u8 c] 5)) = .ok (.string s) (W.alloc (.cells #[.int .u8 c] 5)) := fun W => by rw [hs]; exact conv_new1 W c
  have hcv2 : ∀ W : World, (convert 46 9 (.slice (some ⟨W.heap.size, 0, none⟩) 2 2)).run Try.prog (W.alloc (.cells #[.int .u8 (125 + (3 + (r : Int))), .int .u8 c] 5)) = .ok (.string q) (W.alloc (.cells #[.int .u8 (125 + (3 + (r : Int))), .int .u8 c] 5)) := fun W => by rw [hq]; exact conv_new2 W _ c
  have HP := Lib.hid hp
  have HREP := Lib.hid hrep
  have HPACK := Lib.hid hpack
  have s3 : IntKind.u8.wrap (125 + (3 + (r : Int))) = 125 + (3 + (r : Int)) := IntWalk.u8_in _ (by omega)
  clear hp hrep hpack hq hs hsd hss ht htd hts hpk hr hc hn
  go_enter Try.func7, Try.ntmps7
  go_wp2_with fail
  refine HP.out.mono ?_
  rintro e w1 ⟨rfl, rfl⟩
  go_wp2_with fail
  refine (HREP.out _).mono ?_
  rintro e w2 ⟨rfl, hb2⟩
  have HB2 : Hid (Below w.heap.size w w2) := Lib.hid (((Below.refl _ _).alloc (Nat.le_refl _) _).trans (hb2.mono (by simp)))
  clear hb2
  go_wp2_with fail
  refine (HPACK.out _).mono ?_
  rintro e w3 ⟨rfl, hb3⟩
  have HB3 := Lib.hid (HB2.out.trans (hb3.mono HB2.out.size))
  clear hb3
  go_wp2
  go_ret
  exact ⟨rfl, HB3.out.alloc HB3.out.size _⟩
end Go.Proofs.Ytphbebcbbfbgpab
