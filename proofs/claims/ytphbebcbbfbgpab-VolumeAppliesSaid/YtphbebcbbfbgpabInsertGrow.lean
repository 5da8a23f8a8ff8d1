/- slices.Insert of one item: the arm that grows. -/
import Derived.Test.YtphbebcbbfbgpabInserted
import Derived.Deep.RegionLaw
namespace Go.Proofs.Ytphbebcbbfbgpab
open Go Go.RowKit

theorem own_shorter {w : World} {base : Nat} {e : TypeId} {size g n i cap : Nat} {xs : List Value} (h : w.ownsRow base e size (.slice (some ⟨g, 0, none⟩) n cap) n xs) (hi : i ≤ n) :
    w.ownsRow base e size (.slice (some ⟨g, 0, none⟩) i cap) i (xs.take (i * size)) := by
  rcases h.2 with ⟨h', _⟩ | ⟨g', cap', cur, h', hb, hg, hnc, hcm, hcs, htake⟩
  · simp at h'
  simp only [Value.slice.injEq, Option.some.injEq, Addr.mk.injEq, and_true, true_and] at h'
  obtain ⟨rfl, rfl⟩ := h'
  have hle : i * size ≤ n * size := Nat.mul_le_mul_right _ hi
  exact ⟨by rw [List.length_take, h.1]; omega, .inr ⟨g, cap, cur, rfl, hb, hg, by omega, hcm, hcs, by rw [← htake, List.take_take, Nat.min_eq_left hle]⟩⟩

theorem ins_list {α : Type} (P x D F : List α) (a : Nat) (ha : P.length + x.length = a) (hT : (P ++ x ++ D).length ≤ a + F.length) : (P ++ x ++ D).take a ++ F ++ (P ++ x ++ D).drop (a + F.length) = P ++ x ++ F := by
  rw [List.drop_of_length_le hT, List.append_nil, List.take_left' (by rw [List.length_append, ha])]

set_option maxRecDepth 20000 in
set_option maxHeartbeats 2000000 in
theorem insert_grow (g n cap i b base : Nat) (ls : List Itm) (x : Itm) (w : World) (h : w.ownsRow base 61 3 (.slice (some ⟨g, 0, none⟩) n cap) n (flat Itm.cell 3 ls)) (hn : n = ls.length) (h24 : n ≤ 24) (hi : i < n) (hcap : cap < n + 1) (hcap2 : n ≤ cap) (hbase : base ≤ w.heap.size)
    (hb : w.heap[b]? = some (.cells #[.int .i64 x.id, .string x.data, .int .i64 x.refs] 61 (0, 0))) :
    Calls Try.prog 46 #[.slice (some ⟨g, 0, none⟩) n cap, .int .i64 i, .slice (some ⟨b, 0, none⟩) 1 1] w fun e w' =>
      ∃ A c, e = .returned (.slice A (n + 1) c) ∧ w'.ownsRow base 61 3 (.slice A (n + 1) c) (n + 1) (flat Itm.cell 3 (ls.take i ++ [x] ++ ls.drop i)) ∧ Below base w w' := by
  obtain ⟨i0, hi0, hz0, hz1, hz2⟩ := info_parts infoItem
  have hsh := own_shorter h (Nat.le_of_lt hi)
  obtain ⟨c', w2, hrun, hown2, hgr2⟩ := run_append_make (P := Try.prog) (ty := 22) (tn := 3) (kk := .i64) (k := n + 1 - i) Try.underlying22 Try.underlying3 hi0 hz0 hz1 rfl (by decide) hsh hbase (by omega) (by omega) (by omega) (by rw [hz2]; omega)
  rw [show ((n + 1 - i : Nat) : Int) = (n : Int) + 1 - (i : Int) from by omega] at hrun
  have hcge : i + (n + 1 - i) ≤ c' := by
    obtain ⟨_, _, hce, hle, _, _⟩ := own_form hown2
    simp only [Value.slice.injEq, true_and] at hce
    obtain ⟨_, rfl⟩ := hce
    exact hle
  have hsum : i + (n + 1 - i) = n + 1 := by omega
  rw [hsum] at hrun hown2 hcge
  have hb2 : Below w.heap.size w w2 := (Below.refl _ _).grown hgr2 (Nat.le_refl _) (by intro k hk; cases hk)
  have hblt : b < w.heap.size := (Array.getElem?_eq_some_iff.1 hb).1
  have hb3 : w2.heap[b]? = some (.cells #[.int .i64 x.id, .string x.data, .int .i64 x.refs] 61 (0, 0)) := by rw [← hb]; exact hb2.block b hblt
  obtain ⟨w3, hcp1, hown3, hgr3⟩ := copy_own (P := Try.prog) (dT := 22) (sT := 22) (ty := 3) hown2 (i * 3) (n + 1 - i) (c' - i) ⟨b, 0, none⟩ 1 1 [.int .i64 x.id, .string x.data, .int .i64 x.refs] 1 Try.underlying22 hi0 hz1 (by show 1 = min 1 (n + 1 - i); omega) rfl
    (World.news_of_block (cs := #[.int .i64 x.id, .string x.data, .int .i64 x.refs]) hb3) (by simp; omega) (by simp [Value.oneCell'])
  have hl0 : ((flat Itm.cell 3 ls).take (i * 3)).length = i * 3 := by rw [List.length_take, flat_length]; omega
  have hb4 : Below w.heap.size w w3 := hb2.grown hgr3 hb2.size (by intro j hj; cases hj; exact Nat.le_refl _)
  have hglt : g < w.heap.size := (h.lt g rfl).2
  obtain ⟨w4, hcp2, hown4, hgr4⟩ := copy_own (P := Try.prog) (w := w3.drew) (dT := 22) (sT := 22) (ty := 3) hown3.drew ((i + 1) * 3) (n - i) (c' - (i + 1)) ⟨g, i * 3, none⟩ (n - i) (cap - i) (flat Itm.cell 3 (ls.drop i)) (n - i) Try.underlying22 hi0 hz1
    (by show n - i = min (n - i) (n - i); omega) (by rw [flat_length, List.length_drop, hn])
    (by
      intro j u hj
      have hjl := (List.getElem?_eq_some_iff.1 hj).1
      rw [flat_length, List.length_drop] at hjl
      rw [Addr.add_lit]
      have e := (hb4.cell (p := ⟨g, i * 3 + j, none⟩) hglt)
      show w3.cell? ⟨g, i * 3 + j, none⟩ = some u
      rw [e, h.cellAt _ (by omega), ← hj, ← flat_drop, List.getElem?_drop])
    (by rw [flat_length, List.length_drop]; omega) (itm_one _)
  have hne1 : ¬ c' = i := by omega
  have hne2 : ¬ cap = i := by omega
  have hne3 : ¬ c' = i + 1 := by omega
  have HRUN := Lib.hid hrun
  have HO3 := Lib.hid hown3
  have HGR3 := Lib.hid hgr3
  have HO4 := Lib.hid hown4
  have HL0 := Lib.hid hl0
  have HN := Lib.hid hn
  have HB4 := Lib.hid hb4
  have HGR4 := Lib.hid hgr4
  have HO := Lib.hid h
  have HBB := Lib.hid hb
  have HO2 := Lib.hid hown2
  have HGR2 := Lib.hid hgr2
  have HLT := Lib.hid (fun k hk => (h.lt k hk).1)
  have d1 : ((i : Int) == (n : Int)) = false := by rw [beq_eq_false_iff_ne]; omega
  have d2 : decide ((n : Int) + 1 > (cap : Int)) = true := decide_eq_true (by omega)
  clear h hb hn hrun hown2 hgr2 hsh hi0 hz0 hz1 hz2 hsum hb2 hblt hb3 hown3 hgr3 hl0 hb4 hglt hown4 hgr4
  go_enter Try.func46, Try.ntmps46
  go_wp2_with (at_builtin; refine Lib.wpList_append_run _ rfl (.tmp 34) (.tmp 39) 22 3 rfl _ _ rfl rfl _ _ HRUN.out ?_)
  go_wp2
  have b1 : (0 : Int) ≤ (i : Int) := by omega
  have b2 : (i : Int) ≤ (n : Int) := by omega
  have b3 : (0 : Int) ≤ (i : Int) + 1 := by omega
  have b4 : (i : Int) + 1 ≤ (n : Int) + 1 := by omega
  go_region
  go_wp2
  go_ret
  have ho := HO4.out
  have hl3 := HO3.out.1
  have ht0 : ((flat Itm.cell 3 ls).take (i * 3) ++ (Builtin.zeroCells (Value.agg #[.int .i64 0, .string ByteArray.empty, .int .i64 0]).cells (n + 1 - i)).toList).take (i * 3) = (flat Itm.cell 3 ls).take (i * 3) := List.take_left' HL0.out
  rw [ht0] at ho hl3
  rw [ins_list _ _ _ _ _ (by rw [HL0.out]; simp; omega) (by rw [hl3, flat_length, List.length_drop]; have := HN.out; omega), flat_take] at ho
  refine ⟨_, c', rfl, ?_, ?_⟩
  · rw [flat_append, flat_append, itm_flat_1]; exact ho
  · exact ((((Below.refl _ _).grown HGR2.out hbase (by intro k hk; cases hk)).grown HGR3.out (by have := HGR2.out.size; omega) (by intro k hk; cases hk; exact hbase)).drew).grown HGR4.out (by have := HGR2.out.size; have := HGR3.out.size; simp; omega) (by intro k hk; cases hk; exact hbase)
end Go.Proofs.Ytphbebcbbfbgpab
