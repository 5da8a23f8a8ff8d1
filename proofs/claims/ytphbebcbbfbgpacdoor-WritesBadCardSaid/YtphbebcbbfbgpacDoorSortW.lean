/- slices.SortFunc at writes, by the closure of saltcellarkeep.Writes. -/
import Derived.Test.YtphbebcbbfbgpacDoorContainsW
import Derived.Test.YtphbebcbbfbgpacDoorSortLay
import Derived.Shelf.SlSortCmp.NoneTotal
namespace Go.Proofs.YtphbebcbbfbgpacDoor
open Go Go.RowKit Go.Sort Go.Shelf
set_option linter.unusedSimpArgs false
set_option linter.unusedVariables false

theorem cmpLaysW (blk off size : Nat) (w : World) : CmpLays Tryd.prog 64 #[] Wsm.enc 2 byBlock blk off size w := fun _ _ _ _ x y => writes2_any x y _
theorem sortW_any (Ao : Option Addr) (k co base : Nat) (ws : List Wrt) (w : World) (h : w.ownsRow base 55 2 (.slice Ao k co) k (flat Wrt.cell 2 ws)) (hk : ws.length = k) (hk12 : k ≤ 12) (hr : ∀ x ∈ ws, 0 ≤ x.block ∧ x.block < 100) (hnd : (ws.map (·.block)).Nodup) (hbase : base ≤ w.heap.size) :
    Calls Tryd.prog 63 #[.slice Ao k co, .func (.func 64) #[] #[]] w fun e w' => e = .returned (.tuple #[]) ∧
      ∃ ws' : List Wrt, ws'.Perm ws ∧ ws'.Pairwise (fun x y => x.block < y.block) ∧ w'.ownsRow base 55 2 (.slice Ao k co) k (flat Wrt.cell 2 ws') ∧ Below base w w' := by
  rcases Nat.eq_zero_or_pos k with h0 | h0
  · subst h0
    have hw : ws = [] := List.eq_nil_of_length_eq_zero hk
    subst hw
    have := AnyF.slices_SortFunc_none sortW Ao co (.func (.func 64) #[] #[]) w
    change Calls Tryd.prog 63 _ _ _ at this
    refine this.mono fun e w' ⟨he, hw⟩ => ⟨he, [], .refl _, .nil, ?_, ?_⟩
    · rw [hw]; exact h
    · rw [hw]; exact Below.refl _ _
  · obtain ⟨g, rfl⟩ : ∃ g, Ao = some ⟨g, 0, none⟩ := by
      rcases h.2 with ⟨_, hz⟩ | ⟨g, cap, cur, hv, _⟩
      · omega
      · simp only [Value.slice.injEq] at hv
        exact ⟨g, hv.1⟩
    obtain ⟨ds, hds⟩ := wsm_of hr
    subst hds
    rw [List.length_map] at hk
    have hg := h.lt g rfl
    have eg : ∀ args w, (callFunc 64 args).run Tryd.prog w = .ok (.enter 64 args) w := enters_of Tryd.func64 (by kernel_rfl) rfl
    have hcon := AnyQ.slices_SortFunc sortW 2 Tryd.isAgg55 Tryd.sizeOf55 Wsm.enc (fun _ => rfl) (fun x v hv => by simp [Wsm.enc] at hv; rcases hv with rfl | rfl <;> rfl) byBlock swo_block 64 #[] g 0 co ds.toArray w eg (cmpLaysW g 0 ds.toArray.size w) (holdsK_own hk.symm h) hg.2 (by simp; omega)
    change Calls Tryd.prog 63 _ _ _ at hcon
    rw [show ds.toArray.size = k by simpa using hk] at hcon
    refine hcon.mono fun e w' ⟨he, d', n, os, hp, hs, hw⟩ => ⟨he, d'.toList.map Wsm.w, ?_⟩
    have hsz : ds.toArray.size = k := by simpa using hk
    obtain ⟨p1, p2, p3⟩ := sorted_own (m := n) (os := os) hk.symm h (d' := d') (by rw [hsz]; exact hp)
    refine ⟨p1.map _, sorted_asc (by rw [hsz]; exact hs) p1 (by rw [List.map_map] at hnd; exact hnd), ?_, ?_⟩
    · rw [hw]; exact p2
    · rw [hw]
      exact (Below.refl base w).grown p3 hbase (fun j hj => by cases hj; exact hg.1)
end Go.Proofs.YtphbebcbbfbgpacDoor
