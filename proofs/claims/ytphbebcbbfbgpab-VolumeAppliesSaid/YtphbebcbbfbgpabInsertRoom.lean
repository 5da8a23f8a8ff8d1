/- slices.Insert of one item: the arm with room. -/
import Derived.Test.YtphbebcbbfbgpabInsertGrow
import Derived.Lib.Overlaps
namespace Go.Proofs.Ytphbebcbbfbgpab
open Go Go.RowKit

theorem room_list {α : Type} (ys L D X : List α) (a m k : Nat) (hy : ys.take m = L) (hl : ys.length ≤ a + k + D.length) (ha : a ≤ m) (hm : m ≤ ys.length) (hx : X.length = k) (hak : a + k ≤ ys.length) :
    (ys.take (a + k) ++ D ++ ys.drop (a + k + D.length)).take a ++ X ++ (ys.take (a + k) ++ D ++ ys.drop (a + k + D.length)).drop (a + X.length) = L.take a ++ X ++ D := by
  rw [List.drop_of_length_le hl, List.append_nil, List.take_append_of_le_length (by rw [List.length_take]; omega), List.take_take, Nat.min_eq_left (by omega), hx,
    List.drop_append_of_le_length (by rw [List.length_take]; omega), List.drop_of_length_le (l := ys.take (a + k)) (by rw [List.length_take]; omega), List.nil_append, ← hy, List.take_take, Nat.min_eq_left ha]

set_option maxRecDepth 20000 in
set_option maxHeartbeats 2000000 in
theorem insert_room (g n cap i b base : Nat) (ls : List Itm) (x : Itm) (w : World) (h : w.ownsRow base 61 3 (.slice (some ⟨g, 0, none⟩) n cap) n (flat Itm.cell 3 ls)) (hn : n = ls.length) (h24 : n ≤ 24) (hi : i < n) (hcap : n + 1 ≤ cap) (hbase : base ≤ w.heap.size) (hgb : g ≠ b)
    (hb : w.heap[b]? = some (.cells #[.int .i64 x.id, .string x.data, .int .i64 x.refs] 61 (0, 0))) :
    Calls Try.prog 46 #[.slice (some ⟨g, 0, none⟩) n cap, .int .i64 i, .slice (some ⟨b, 0, none⟩) 1 1] w fun e w' =>
      ∃ A c, e = .returned (.slice A (n + 1) c) ∧ w'.ownsRow base 61 3 (.slice A (n + 1) c) (n + 1) (flat Itm.cell 3 (ls.take i ++ [x] ++ ls.drop i)) ∧ Below base w w' := by
  have hov : (callFunc 72 #[.slice (some ⟨b, 0, none⟩) 1 1, .slice (some ⟨g, (i + 1) * 3, none⟩) (n - i) (cap - (i + 1))]).run Try.prog w = .ok (.value (.bool false)) w := by
    rw [run_callFunc_extern Try.func72 (by kernel_rfl) (by kernel_rfl) (by kernel_rfl) (e := Extern.SlicesOverlaps.overlaps #[22, 22] #[4]) (by kernel_rfl)]
    obtain ⟨cur, hg⟩ : ∃ cur, w.heap[g]? = some (.cells cur 61 (0, 0)) ∧ cur.size ≠ 0 := by
      rcases h.2 with ⟨h', _⟩ | ⟨g', cap', cur, h', _, hg, hnc, _, hcs, _⟩
      · simp at h'
      · simp only [Value.slice.injEq, Option.some.injEq, Addr.mk.injEq, and_true, true_and] at h'
        obtain ⟨rfl, rfl⟩ := h'
        exact ⟨cur, hg, by omega⟩
    rw [Lib.run_overlaps_apart w 22 4 61 Try.underlying22 3 Try.sizeOf61 ⟨b, 0, none⟩ ⟨g, (i + 1) * 3, none⟩ 1 1 (n - i) (cap - (i + 1)) (fun e => hgb e.symm) 61 61 3 cur.size (by simp [World.shape?, hb]) (by simp [World.shape?, hg.1]) hg.2 (by simp [World.frozen?, hb]) (by simp [World.frozen?, hb])]
    rfl
  obtain ⟨i0, hi0, hz0, hz1, hz2⟩ := info_parts infoItem
  have hl0 : (flat Itm.cell 3 ls).length = n * 3 := by rw [flat_length, hn]
  have hdl : (flat Itm.cell 3 (ls.drop i)).length = (n - i) * 3 := by rw [flat_length, List.length_drop, hn]
  obtain ⟨ys, hys, hlong⟩ := own_longer h (n' := n + 1) (by omega) hcap
  have hyl := hlong.1
  obtain ⟨w2, hcp1, hown2, hgr2⟩ := copy_own (P := Try.prog) (w := w.drew) (dT := 22) (sT := 22) (ty := 3) hlong.drew ((i + 1) * 3) (n - i) (cap - (i + 1)) ⟨g, i * 3, none⟩ (n + 1 - i) (cap - i) (flat Itm.cell 3 (ls.drop i)) (n - i) Try.underlying22 hi0 hz1
    (by show n - i = min (n + 1 - i) (n - i); omega) hdl
    (by
      intro j u hj
      have hjl := (List.getElem?_eq_some_iff.1 hj).1
      rw [hdl] at hjl
      rw [Addr.add_lit]
      show w.cell? ⟨g, i * 3 + j, none⟩ = some u
      rw [h.cellAt _ (by omega), ← hj, ← flat_drop, List.getElem?_drop])
    (by rw [hdl]; omega) (itm_one _)
  have hb3 : w2.heap[b]? = some (.cells #[.int .i64 x.id, .string x.data, .int .i64 x.refs] 61 (0, 0)) := by
    obtain ⟨_, _, _, _, a5⟩ := hgr2
    rw [← hb]; exact a5 b (Array.getElem?_eq_some_iff.1 hb).1 (by simp; exact fun e => hgb e.symm)
  obtain ⟨w3, hcp2, hown3, hgr3⟩ := copy_own (P := Try.prog) (dT := 22) (sT := 22) (ty := 3) hown2 (i * 3) (n + 1 - i) (cap - i) ⟨b, 0, none⟩ 1 1 [.int .i64 x.id, .string x.data, .int .i64 x.refs] 1 Try.underlying22 hi0 hz1 (by show 1 = min 1 (n + 1 - i); omega) rfl
    (World.news_of_block (cs := #[.int .i64 x.id, .string x.data, .int .i64 x.refs]) hb3) (by simp; omega) (by simp [Value.oneCell'])
  have hlist := room_list ys (flat Itm.cell 3 ls) (flat Itm.cell 3 (ls.drop i)) [.int .i64 x.id, .string x.data, .int .i64 x.refs] (i * 3) (n * 3) 3 hys (by rw [hdl]; omega) (by omega) (by omega) rfl (by omega)
  rw [show i * 3 + 3 = (i + 1) * 3 from by omega, flat_take] at hlist
  rw [hlist] at hown3
  have HO3 := Lib.hid hown3
  have HGR2 := Lib.hid hgr2
  have HGR3 := Lib.hid hgr3
  have HLO := Lib.hid (h.lt g rfl).1
  have d1 : ((i : Int) == (n : Int)) = false := by rw [beq_eq_false_iff_ne]; omega
  have d2 : decide ((n : Int) + 1 > (cap : Int)) = false := decide_eq_false (by omega)
  have hcm2 : cap ≤ 9223372036854775807 := by
    obtain ⟨_, _, he, _, hcm, _⟩ := own_form h
    simp only [Value.slice.injEq, true_and] at he
    obtain ⟨_, rfl⟩ := he
    exact hcm
  have hne1 : ¬ cap = i := by omega
  have hne2 : ¬ cap = i + 1 := by omega
  have b1 : (0 : Int) ≤ (i : Int) := by omega
  have b2 : (i : Int) ≤ (n : Int) := by omega
  have b3 : (0 : Int) ≤ (i : Int) + 1 := by omega
  have b4 : (i : Int) + 1 ≤ (n : Int) + 1 := by omega
  clear h hb hn hlong hys hown2 hgr2 hb3 hown3 hgr3 hlist hl0 hdl hyl hi0 hz0 hz1 hz2
  go_enter Try.func46, Try.ntmps46
  go_wp2
  go_region
  go_wp2
  go_ret
  refine ⟨_, cap, rfl, ?_, ?_⟩
  · rw [flat_append, flat_append, itm_flat_1]; exact HO3.out
  · exact (((Below.refl base w).drew).grown HGR2.out hbase (by intro k hk; cases hk; exact HLO.out)).grown HGR3.out (by have := HGR2.out.size; have := hbase; simp at *; omega) (by intro k hk; cases hk; exact HLO.out)
end Go.Proofs.Ytphbebcbbfbgpab
