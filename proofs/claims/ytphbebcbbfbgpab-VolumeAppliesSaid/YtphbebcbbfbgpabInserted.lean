/- slices.Insert of one item into a row that the call owns: the walk. -/
import Derived.Test.YtphbebcbbfbgpabInsert
namespace Go.Proofs.Ytphbebcbbfbgpab
open Go Go.RowKit

theorem itm_flat_1 (x : Itm) : flat Itm.cell 3 [x] = [.int .i64 x.id, .string x.data, .int .i64 x.refs] := by
  rw [flat_one]; rfl

set_option maxRecDepth 20000 in
set_option maxHeartbeats 2000000 in
theorem insert_last (v0 : Value) (n b base : Nat) (ls : List Itm) (x : Itm) (w : World) (h : w.ownsRow base 61 3 v0 n (flat Itm.cell 3 ls)) (_hn : n = ls.length) (h24 : n ≤ 24) (hbase : base ≤ w.heap.size)
    (hb : w.heap[b]? = some (.cells #[.int .i64 x.id, .string x.data, .int .i64 x.refs] 61 (0, 0))) :
    Calls Try.prog 46 #[v0, .int .i64 n, .slice (some ⟨b, 0, none⟩) 1 1] w fun e w' =>
      ∃ A c, e = .returned (.slice A (n + 1) c) ∧ w'.ownsRow base 61 3 (.slice A (n + 1) c) (n + 1) (flat Itm.cell 3 (ls ++ [x])) ∧ Below base w w' := by
  obtain ⟨A, c, rfl, hnc, hcm, hnil⟩ := own_form h
  obtain ⟨i0, hi, hz0, hz1, hz2⟩ := info_parts infoItem
  have HI := Lib.hid hi
  have HZ0 := Lib.hid hz0
  have HZ1 := Lib.hid hz1
  have HZ2 := Lib.hid hz2
  have HO := Lib.hid h
  have HBB := Lib.hid hb
  have HLT := Lib.hid (fun k hk => (h.lt k hk).1)
  have hc2 : c ≤ 9223372036854775807 := hcm
  clear hi hz0 hz1 hz2 h hb _hn hcm hnil
  go_enter Try.func46, Try.ntmps46
  go_wp2_with (at_builtin; refine wpList_append_own _ rfl (.tmp 23) (.tmp 24) 22 rfl base 61 i0 _ 3 32 Try.underlying22 HI.out HZ0.out HZ1.out HZ2.out rfl (by decide) _ _ _ rfl HO.out ⟨b, 0, none⟩ 1 1 [.int .i64 x.id, .string x.data, .int .i64 x.refs] rfl rfl (World.news_of_block (cs := #[.int .i64 x.id, .string x.data, .int .i64 x.refs]) HBB.out) (by simp [Value.oneCell']) (by unfold maxLen; omega) (by omega) hbase ?_; intro v' w2 hown2 hgr2 _)
  all_goals
    go_ret
    obtain ⟨A2, c2, rfl, _⟩ := own_form hown2
    exact ⟨A2, c2, rfl, by rw [flat_append, itm_flat_1]; exact hown2, (Below.refl _ _).grown hgr2 hbase HLT.out⟩
end Go.Proofs.Ytphbebcbbfbgpab
