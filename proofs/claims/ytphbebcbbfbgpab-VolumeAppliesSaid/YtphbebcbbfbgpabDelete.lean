/- slices.Delete of one item of a row that the call owns. -/
import Derived.Test.YtphbebcbbfbgpabItems
import Derived.Deep.RegionLaw
import Derived.Lib.SliceRun
import Derived.Laws.Tables
namespace Go.Proofs.Ytphbebcbbfbgpab
open Go Go.RowKit

theorem step_append_run {P : Program} {w : World} {ops : Array Oper} {o : Oper} {a : Act} {K : Act → World → Prop} {Q : Exit → Act → World → Prop} {E : Prop} (hgd : o.guard = none) (s x : Operand) (t : TypeId)
    (ho : o.op = .call { callee := .builtin .append, args := #[s, x], argTypes := #[t, t] }) (v u r : Value) (w' : World) (hs : a.eval s = v) (hx : a.eval x = u)
    (hrun : (Builtin.append_ #[t, t] o.type #[v, u]).run P w = .ok r w') (h : K (a.put o.dst r) w') :
    if Region.wanted o (yielded ops a.tmps) = true then Oper.wp P o a w K Q else E := by
  have hw : Region.wanted o (yielded ops a.tmps) = true := by simp [Region.wanted, hgd]
  rw [if_pos hw]
  unfold Oper.wp execOp
  simp only [ho, resolve, invoke, builtin, Sem.run_bind, Sem.run_pure, Result.andThen_ok, List.map_toArray, List.map_cons, List.map_nil, hs, hx, hrun]
  exact h

/-- clear of one element of whatever cells -/
theorem run_clear_one {P : Program} (w : World) (t e ty : TypeId) (z : Value) (ht : P.underlying t = some (.slice e)) (hv : ∀ w, (zeroValue e).run P w = .ok z w) (b o c : Nat) (zs : List Value) (hz : z.cells = zs.toArray) (h1 : ∀ v ∈ zs, v.oneCell' = true)
    (hc : ∀ j, j < zs.length → (w.cell? ⟨b, o + j, none⟩).isSome = true) (hf : ∀ j, j < zs.length → w.frozen? ⟨b, o + j, none⟩ = false) :
    (Builtin.clear_ #[t] ty #[.slice (some ⟨b, o, none⟩) 1 c]).run P w = .ok (.tuple #[]) (w.setCells b o zs) := by
  have hzc : (Builtin.zeroCells z.cells 1).toList = zs := by
    rw [hz]
    simp [Builtin.zeroCells]
    apply List.ext_getElem
    · simp
    · intro i h1 h2
      simp [Nat.mod_eq_of_lt h2, List.getElem?_eq_getElem h2]
  have hst := run_storeCells_cells (P := P) b o zs 0 w (by simpa using hc) (by simpa using hf) h1
  simp only [Nat.add_zero] at hst
  simp [Builtin.clear_, run_underlying ht, hv, hzc, hst]

theorem zeroItem (w : World) : (zeroValue 61).run Try.prog w = .ok (.agg #[.int .i64 0, .string ByteArray.empty, .int .i64 0]) w := by kernel_rfl

/-- what stands in a row behind the part that is owned may be stored over -/
theorem own_stored_behind {w : World} {base : Nat} {e : TypeId} {size n cap g : Nat} {xs : List Value} (h : w.ownsRow base e size (.slice (some ⟨g, 0, none⟩) n cap) n xs) (vs : List Value) (o : Nat) (ho : n * size ≤ o) :
    (w.setCells g o vs).ownsRow base e size (.slice (some ⟨g, 0, none⟩) n cap) n xs ∧ w.grownBy (w.setCells g o vs) (some g) := by
  induction vs generalizing w o with
  | nil => exact ⟨h, ⟨rfl, rfl, rfl, Nat.le_refl _, fun _ _ _ => rfl⟩⟩
  | cons v vs ih =>
    have h1 := h.stored o v
    rw [List.set_eq_of_length_le (by rw [h.1]; exact ho)] at h1
    have h2 := ih h1.1 (o + 1) (by omega)
    refine ⟨h2.1, ?_⟩
    obtain ⟨a1, a2, a3, a4, a5⟩ := h1.2
    obtain ⟨c1, c2, c3, c4, c5⟩ := h2.2
    exact ⟨c1.trans a1, c2.trans a2, c3.trans a3, Nat.le_trans a4 c4, fun k hk hne => (c5 k (Nat.lt_of_lt_of_le hk a4) hne).trans (a5 k hk hne)⟩

/-- append(s[:i], s[i+1:]...): in place -/
theorem run_delete_append {P : Program} {w : World} {base : Nat} {e t ty : TypeId} {i0 : TypeInfo} {g n cap i : Nat} {ls : List Itm} (ht : P.underlying t = some (.slice e)) (hi0 : P.info? e = some i0) (hsz : i0.size = 3)
    (h : w.ownsRow base e 3 (.slice (some ⟨g, 0, none⟩) n cap) n (flat Itm.cell 3 ls)) (hn : n = ls.length) (hi : i < n) (a : Addr) (c : Nat) (ha : i + 1 < n → a = ⟨g, (i + 1) * 3, none⟩) :
    ∃ w', (Builtin.append_ #[t, t] ty #[.slice (some ⟨g, 0, none⟩) i cap, .slice (some a) (n - (i + 1)) c]).run P w = .ok (.slice (some ⟨g, 0, none⟩) (i + (n - (i + 1))) cap) w' ∧
      w'.ownsRow base e 3 (.slice (some ⟨g, 0, none⟩) (n - 1) cap) (n - 1) (flat Itm.cell 3 (ls.eraseIdx i)) ∧ w.grownBy w' (some g) ∧ (∀ j, j < cap * 3 → (w'.cell? ⟨g, j, none⟩).isSome = true) := by
  rcases h.2 with ⟨h', _⟩ | ⟨g', cap', cur, h', hb, hg, hnc, hcm, hcs, htake⟩
  · simp at h'
  simp only [Value.slice.injEq, Option.some.injEq, Addr.mk.injEq, and_true, true_and] at h'
  obtain ⟨rfl, rfl⟩ := h'
  have hl : (flat Itm.cell 3 (ls.drop (i + 1))).length = (n - (i + 1)) * i0.size := by rw [flat_length, List.length_drop, hsz, hn]
  have hnews : ∀ j u, (flat Itm.cell 3 (ls.drop (i + 1)))[j]? = some u → w.cell? (a.add j) = some u := by
    intro j u hj
    have hjl := (List.getElem?_eq_some_iff.1 hj).1
    rw [hl, hsz] at hjl
    have hlt : i + 1 < n := by omega
    rw [ha hlt, Addr.add_lit, h.cellAt _ (by omega), ← hj, ← flat_drop, List.getElem?_drop]
  have hrun := run_append_room (P := P) (w := w) t ty e i0 ht hi0 g i cap cur hg a (n - (i + 1)) c (flat Itm.cell 3 (ls.drop (i + 1))) hl hnews (itm_one _) (by omega) (by rw [hl, hsz, hcs]; omega)
  rw [hsz] at hrun
  have hlen : (flat Itm.cell 3 (ls.drop (i + 1))).length = (n - (i + 1)) * 3 := by rw [hl, hsz]
  have hcl : cur.toList.length = cap * 3 := by simpa using hcs
  have hlist : (cur.toList.take (i * 3) ++ flat Itm.cell 3 (ls.drop (i + 1)) ++ cur.toList.drop (i * 3 + (flat Itm.cell 3 (ls.drop (i + 1))).length)).length = cap * 3 := by
    rw [List.length_append, List.length_append, List.length_take, List.length_drop, hlen, hcl]; omega
  have hpre : cur.toList.take (i * 3) = flat Itm.cell 3 (ls.take i) := by
    rw [← flat_take, ← htake, List.take_take, Nat.min_eq_left (by omega)]
  refine ⟨_, hrun, ⟨?_, .inr ⟨g, cap, _, rfl, hb, setRow_heap w g cur _ e (0, 0) hg, by omega, hcm, by simpa using hlist, ?_⟩⟩, ⟨rfl, rfl, rfl, by simp, fun k _ hk => setRow_other w g k _ (fun e => hk (by rw [e]))⟩, ?_⟩
  · rw [flat_length, List.length_eraseIdx, if_pos (by omega), ← hn]
  · rw [List.toList_toArray, List.take_append_of_le_length (by rw [List.length_append, List.length_take, hlen, hcl]; omega), List.take_of_length_le (by rw [List.length_append, List.length_take, hlen, hcl]; omega), hpre, ← flat_append, List.eraseIdx_eq_take_drop_succ]
  · intro j hj
    rw [cell_setRow_same w g j cur _ e (0, 0) hg, List.getElem?_toArray, List.getElem?_eq_getElem (by rw [hlist]; exact hj)]
    rfl

set_option maxRecDepth 20000 in
set_option maxHeartbeats 2000000 in
theorem delete_any (g n cap i base : Nat) (ls : List Itm) (w : World) (h : w.ownsRow base 61 3 (.slice (some ⟨g, 0, none⟩) n cap) n (flat Itm.cell 3 ls)) (hn : n = ls.length) (hi : i < n) (h24 : n ≤ 24) :
    Calls Try.prog 35 #[.slice (some ⟨g, 0, none⟩) n cap, .int .i64 i, .int .i64 ((i : Int) + 1)] w fun e w' =>
      e = .returned (.slice (some ⟨g, 0, none⟩) (n - 1) cap) ∧ w'.ownsRow base 61 3 (.slice (some ⟨g, 0, none⟩) (n - 1) cap) (n - 1) (flat Itm.cell 3 (ls.eraseIdx i)) ∧ w.grownBy w' (some g) := by
  have hcaps : n ≤ cap ∧ cap ≤ maxLen := by
    obtain ⟨A', c', he, hnc, hcm, _⟩ := own_form h
    simp only [Value.slice.injEq] at he
    obtain ⟨_, _, rfl⟩ := he
    exact ⟨hnc, hcm⟩
  obtain ⟨hnc, hcm⟩ := hcaps
  have hne : ((i : Int) == (i : Int) + 1) = false := by rw [beq_eq_false_iff_ne]; omega
  have hcm2 : cap ≤ 9223372036854775807 := hcm
  have H := Lib.hid h
  have HN := Lib.hid hn
  have b1 : (0 : Int) ≤ (i : Int) := by omega
  have b2 : (i : Int) ≤ (cap : Int) := by omega
  have b3 : (0 : Int) ≤ (i : Int) + 1 := by omega
  have b4 : (i : Int) + 1 ≤ (n : Int) := by omega
  have b5 : (n : Int) ≤ (cap : Int) := by omega
  obtain ⟨i0, hi0, hz0, hz1, hz2⟩ := info_parts infoItem
  have b6 : (i : Int) ≤ (i : Int) + 1 := by omega
  by_cases hlast : cap = i + 1
  · obtain ⟨w', hrun, hown, hgr, hcells⟩ := run_delete_append (w := w.drew) (ty := 22) Try.underlying22 hi0 hz1 h.drew hn hi ⟨g, 0, none⟩ (cap - (i + 1)) (fun hlt => by omega)
    have hclr : (Builtin.clear_ #[22] 0 #[.slice (some ⟨g, (n - 1) * 3, none⟩) (n - (n - 1)) (cap - (n - 1))]).run Try.prog w' = .ok (.tuple #[]) (w'.setCells g ((n - 1) * 3) [.int .i64 0, .string ByteArray.empty, .int .i64 0]) := by
      rw [show n - (n - 1) = 1 from by omega]
      exact run_clear_one (P := Try.prog) w' 22 61 0 _ Try.underlying22 zeroItem g ((n - 1) * 3) (cap - (n - 1)) [.int .i64 0, .string ByteArray.empty, .int .i64 0] rfl (by simp [Value.oneCell']) (fun j hj => hcells _ (by simp at hj; omega)) (fun j _ => hown.frozenAt _)
    rw [hlast] at hclr
    have hfin := own_stored_behind hown [.int .i64 0, .string ByteArray.empty, .int .i64 0] ((n - 1) * 3) (Nat.le_refl _)
    have HFIN := Lib.hid hfin
    have HGR := Lib.hid hgr
    have HRUN := Lib.hid hrun
    have hsum : i + (n - (i + 1)) = n - 1 := by omega
    have HSUM := Lib.hid hsum
    clear h hn hcm hi0 hz0 hz1 hz2 hcells hgr hown hfin hrun hsum
    go_enter Try.func35, Try.ntmps35
    go_wp2
    go_region_law (refine step_append_run rfl (.tmp 22) (.tmp 25) 22 rfl (.slice (some ⟨g, 0, none⟩) i cap) (.slice (some ⟨g, 0, none⟩) (n - (i + 1)) (cap - (i + 1))) _ _ (by simp [Act.eval, Act.put, hlast]) (by simp [Act.eval, Act.put, hlast]) HRUN.out ?_; rw [HSUM.out])
    go_wp2
    go_ret
    obtain ⟨c1, c2, c3, c4, c5⟩ := HFIN.out.2
    obtain ⟨d1, d2, d3, d4, d5⟩ := HGR.out
    exact ⟨by rw [hlast]; rfl, HFIN.out.1, ⟨c1.trans d1, c2.trans d2, c3.trans d3, Nat.le_trans d4 c4, fun k hk hne => (c5 k (Nat.lt_of_lt_of_le hk d4) hne).trans (d5 k hk hne)⟩⟩
  · obtain ⟨w', hrun, hown, hgr, hcells⟩ := run_delete_append (w := w.drew) (ty := 22) Try.underlying22 hi0 hz1 h.drew hn hi ⟨g, (i + 1) * 3, none⟩ (cap - (i + 1)) (fun hlt => rfl)
    have hclr : (Builtin.clear_ #[22] 0 #[.slice (some ⟨g, (n - 1) * 3, none⟩) (n - (n - 1)) (cap - (n - 1))]).run Try.prog w' = .ok (.tuple #[]) (w'.setCells g ((n - 1) * 3) [.int .i64 0, .string ByteArray.empty, .int .i64 0]) := by
      rw [show n - (n - 1) = 1 from by omega]
      exact run_clear_one (P := Try.prog) w' 22 61 0 _ Try.underlying22 zeroItem g ((n - 1) * 3) (cap - (n - 1)) [.int .i64 0, .string ByteArray.empty, .int .i64 0] rfl (by simp [Value.oneCell']) (fun j hj => hcells _ (by simp at hj; omega)) (fun j _ => hown.frozenAt _)
    have hfin := own_stored_behind hown [.int .i64 0, .string ByteArray.empty, .int .i64 0] ((n - 1) * 3) (Nat.le_refl _)
    have HFIN := Lib.hid hfin
    have HGR := Lib.hid hgr
    have HRUN := Lib.hid hrun
    have hsum : i + (n - (i + 1)) = n - 1 := by omega
    have HSUM := Lib.hid hsum
    clear h hn hcm hi0 hz0 hz1 hz2 hcells hgr hown hfin hrun hsum
    go_enter Try.func35, Try.ntmps35
    go_wp2
    go_region_law (refine step_append_run rfl (.tmp 22) (.tmp 25) 22 rfl (.slice (some ⟨g, 0, none⟩) i cap) (.slice (some ⟨g, (i + 1) * 3, none⟩) (n - (i + 1)) (cap - (i + 1))) _ _ (by first | rfl | simp [Act.eval, Act.put]) (by first | rfl | simp [Act.eval, Act.put]) HRUN.out ?_; rw [HSUM.out])
    go_wp2
    go_ret
    obtain ⟨c1, c2, c3, c4, c5⟩ := HFIN.out.2
    obtain ⟨d1, d2, d3, d4, d5⟩ := HGR.out
    exact ⟨rfl, HFIN.out.1, ⟨c1.trans d1, c2.trans d2, c3.trans d3, Nat.le_trans d4 c4, fun k hk hne => (c5 k (Nat.lt_of_lt_of_le hk d4) hne).trans (d5 k hk hne)⟩⟩
end Go.Proofs.Ytphbebcbbfbgpab
