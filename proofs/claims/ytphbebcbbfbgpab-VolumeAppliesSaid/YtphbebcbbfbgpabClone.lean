/- slices.Clone at items and at numbers: a new slice with the same rows. -/
import Derived.Test.YtphbebcbbfbgpabOpen
import Derived.Test.YtphbebcbbfbgpabProg
import Derived.Lib.SliceRun
namespace Go.Proofs.Ytphbebcbbfbgpab
open Go Go.RowKit

theorem infoItem : (Try.prog.info? 61).map (fun i => (i.zero, i.size, i.bytes)) = some (some (.agg #[.int .i64 0, .string ByteArray.empty, .int .i64 0]), 3, 32) := by kernel_rfl
theorem infoInt : (Try.prog.info? 3).map (fun i => (i.zero, i.size, i.bytes)) = some (some (.int .i64 0), 1, 8) := by kernel_rfl

theorem itm_one (ls : List Itm) : ∀ u ∈ flat Itm.cell 3 ls, u.oneCell' = true := by
  intro u hu
  obtain ⟨j, hj⟩ := List.getElem?_of_mem hu
  obtain ⟨k, i, hk, hi, _, rfl⟩ := flat_split ls j u hj
  match i, hi with
  | 0, _ => rfl
  | 1, _ => rfl
  | 2, _ => rfl
theorem int_one (ls : List Int) : ∀ u ∈ flat intCell 1 ls, u.oneCell' = true := by
  intro u hu
  obtain ⟨j, hj⟩ := List.getElem?_of_mem hu
  obtain ⟨k, i, hk, hi, _, rfl⟩ := flat_split ls j u hj
  rfl

theorem cloneItems (A : Option Addr) (n c : Nat) (ls : List Itm) (w : World) (h : Rep w w.heap.size 3 Itm.cell A n ls) (hnil : A = none → n = 0 ∧ c = 0) (hr : n * 32 ≤ 140737488355328) :
    Calls Try.prog 33 #[.slice A n c] w (OwnPost w 61 3 n (flat Itm.cell 3 ls)) := by
  have qT : ∀ (w : World) (a : Option Addr) (n c n' c' : Nat), (binOp .eql 22 (.slice a n c) (.slice none n' c')).run Try.prog w = .ok (.bool a.isNone) w := fun w a n c n' c' => Lib.run_eql_slice_nil w _ _ a n c n' c' Try.underlying22
  obtain ⟨i0, hi, hz0, hz1, hz2⟩ := info_parts infoItem
  cases A with
  | none =>
    obtain ⟨rfl, rfl⟩ := hnil rfl
    obtain rfl : ls = [] := List.eq_nil_of_length_eq_zero h.1.symm
    clear h
    go_enter Try.func33, Try.ntmps33
    go_wp2
    go_ret
    exact OwnPost.mk' (World.ownsRow_nil _ _ _ _) (Below.refl _ _)
  | some ad =>
    have hl : (flat Itm.cell 3 ls).length = n * 3 := by rw [flat_length, h.1]
    have hc := h.flat_any
    have HL := Lib.hid hl
    have HC := Lib.hid hc
    have HI := Lib.hid hi
    have HZ0 := Lib.hid hz0
    have HZ1 := Lib.hid hz1
    have HZ2 := Lib.hid hz2
    have hon : (w.alloc (.cells #[] 61)).ownsRow w.heap.size 61 3 (.slice (some ⟨w.heap.size, 0, none⟩) 0 0) 0 [] := World.ownsRow_made w #[] 0 (Nat.le_refl _) (by unfold maxLen; omega) rfl
    have HO := Lib.hid hon
    have hlt : ∀ j u, (flat Itm.cell 3 ls)[j]? = some u → (w.alloc (.cells #[] 61)).cell? (ad.add j) = some u := fun j u hu => by
      have := hc j u hu
      rw [World.cell?_alloc_lt _ _ _ (World.block_lt_of_cell? w _ this)]; exact this
    have HT := Lib.hid hlt
    clear hl hc hi hz0 hz1 hz2 h hnil hon hlt
    go_enter Try.func33, Try.ntmps33
    go_wp2_with (at_builtin; refine wpList_append_own _ rfl _ _ 22 rfl w.heap.size 61 i0 _ 3 32 Try.underlying22 HI.out HZ0.out HZ1.out HZ2.out rfl (by decide) _ _ _ rfl HO.out ad n c (flat Itm.cell 3 ls) rfl HL.out HT.out (itm_one ls) (by unfold maxLen; omega) (by omega) (by simp) ?_; intro v' w1 hown hgr _)
    go_ret
    exact OwnPost.mk' (by simpa using hown) (((Below.refl _ _).alloc (Nat.le_refl _) _).grown hgr (by simp) (by intro k hk; cases hk; exact Nat.le_refl _))
theorem cloneInts (A : Option Addr) (n c : Nat) (ls : List Int) (w : World) (h : Rep w w.heap.size 1 intCell A n ls) (hnil : A = none → n = 0 ∧ c = 0) (hr : n * 8 ≤ 140737488355328) :
    Calls Try.prog 79 #[.slice A n c] w (OwnPost w 3 1 n (flat intCell 1 ls)) := by
  have qT : ∀ (w : World) (a : Option Addr) (n c n' c' : Nat), (binOp .eql 28 (.slice a n c) (.slice none n' c')).run Try.prog w = .ok (.bool a.isNone) w := fun w a n c n' c' => Lib.run_eql_slice_nil w _ _ a n c n' c' Try.underlying28
  obtain ⟨i0, hi, hz0, hz1, hz2⟩ := info_parts infoInt
  cases A with
  | none =>
    obtain ⟨rfl, rfl⟩ := hnil rfl
    obtain rfl : ls = [] := List.eq_nil_of_length_eq_zero h.1.symm
    clear h
    go_enter Try.func79, Try.ntmps79
    go_wp2
    go_ret
    exact OwnPost.mk' (World.ownsRow_nil _ _ _ _) (Below.refl _ _)
  | some ad =>
    have hl : (flat intCell 1 ls).length = n * 1 := by rw [flat_length, h.1]
    have hc := h.flat_any
    have HL := Lib.hid hl
    have HC := Lib.hid hc
    have HI := Lib.hid hi
    have HZ0 := Lib.hid hz0
    have HZ1 := Lib.hid hz1
    have HZ2 := Lib.hid hz2
    have hon : (w.alloc (.cells #[] 3)).ownsRow w.heap.size 3 1 (.slice (some ⟨w.heap.size, 0, none⟩) 0 0) 0 [] := World.ownsRow_made w #[] 0 (Nat.le_refl _) (by unfold maxLen; omega) rfl
    have HO := Lib.hid hon
    have hlt : ∀ j u, (flat intCell 1 ls)[j]? = some u → (w.alloc (.cells #[] 3)).cell? (ad.add j) = some u := fun j u hu => by
      have := hc j u hu
      rw [World.cell?_alloc_lt _ _ _ (World.block_lt_of_cell? w _ this)]; exact this
    have HT := Lib.hid hlt
    clear hl hc hi hz0 hz1 hz2 h hnil hon hlt
    go_enter Try.func79, Try.ntmps79
    go_wp2_with (at_builtin; refine wpList_append_own _ rfl _ _ 28 rfl w.heap.size 3 i0 _ 1 8 Try.underlying28 HI.out HZ0.out HZ1.out HZ2.out rfl (by decide) _ _ _ rfl HO.out ad n c (flat intCell 1 ls) rfl HL.out HT.out (int_one ls) (by unfold maxLen; omega) (by omega) (by simp) ?_; intro v' w1 hown hgr _)
    go_ret
    exact OwnPost.mk' (by simpa using hown) (((Below.refl _ _).alloc (Nat.le_refl _) _).grown hgr (by simp) (by intro k hk; cases hk; exact Nat.le_refl _))
end Go.Proofs.Ytphbebcbbfbgpab
