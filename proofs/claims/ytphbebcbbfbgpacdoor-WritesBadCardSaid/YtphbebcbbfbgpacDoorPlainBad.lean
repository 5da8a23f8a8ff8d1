/- slices.Delete of one item of a row that the call owns. repo.Drop and saltcellarref.DroppedOf, and the law RepoDrops. What applying writes makes (P3.4), and that a valid volume stays so: no program in sight. Writes that no volume takes, in plain Lean. -/
import Derived.Test.YtphbebcbbfbgpacDoorKept
import Derived.Deep.RegionLaw
import Derived.Lib.SliceRun
import Derived.Laws.Tables
import Derived.Test.YtphbebcbbfbgpacDoorRepBlock
namespace Go.Proofs.YtphbebcbbfbgpacDoor
open Go Go.RowKit

theorem step_append_run {P : Program} {w : World} {ops : Array Oper} {o : Oper} {a : Act} {K : Act → World → Prop} {Q : Exit → Act → World → Prop} {E : Prop} (hgd : o.guard = none) (s x : Operand) (t : TypeId)
    (ho : o.op = .call { callee := .builtin .append, args := #[s, x], argTypes := #[t, t] }) (v u r : Value) (w' : World) (hs : a.eval s = v) (hx : a.eval x = u)
    (hrun : (Builtin.append_ #[t, t] o.type #[v, u]).run P w = .ok r w') (h : K (a.put o.dst r) w') :
    if Region.wanted o (yielded ops a.tmps) = true then Oper.wp P o a w K Q else E := by
  have hw : Region.wanted o (yielded ops a.tmps) = true := by simp [Region.wanted, hgd]
  rw [if_pos hw]
  unfold Oper.wp execOp
  simp only [ho, resolve, invoke, builtin, Sem.run_bind, Sem.run_pure, Result.andThen_ok, List.map_toArray, List.map_cons, List.map_nil, hs, hx, hrun]
  exact h

/-- clear of one element of whatever cells -/
theorem run_clear_one {P : Program} (w : World) (t e ty : TypeId) (z : Value) (ht : P.underlying t = some (.slice e)) (hv : ∀ w, (zeroValue e).run P w = .ok z w) (b o c : Nat) (zs : List Value) (hz : z.cells = zs.toArray) (h1 : ∀ v ∈ zs, v.oneCell' = true)
    (hc : ∀ j, j < zs.length → (w.cell? ⟨b, o + j, none⟩).isSome = true) (hf : ∀ j, j < zs.length → w.frozen? ⟨b, o + j, none⟩ = false) :
    (Builtin.clear_ #[t] ty #[.slice (some ⟨b, o, none⟩) 1 c]).run P w = .ok (.tuple #[]) (w.setCells b o zs) := by
  have hzc : (Builtin.zeroCells z.cells 1).toList = zs := by
    rw [hz]
    simp [Builtin.zeroCells]
    apply List.ext_getElem
    · simp
    · intro i h1 h2
      simp [Nat.mod_eq_of_lt h2, List.getElem?_eq_getElem h2]
  have hst := run_storeCells_cells (P := P) b o zs 0 w (by simpa using hc) (by simpa using hf) h1
  simp only [Nat.add_zero] at hst
  simp [Builtin.clear_, run_underlying ht, hv, hzc, hst]

theorem zeroItem (w : World) : (zeroValue 42).run Tryd.prog w = .ok (.agg #[.int .i64 0, .string ByteArray.empty, .int .i64 0]) w := by kernel_rfl

/-- what stands in a row behind the part that is owned may be stored over -/
theorem own_stored_behind {w : World} {base : Nat} {e : TypeId} {size n cap g : Nat} {xs : List Value} (h : w.ownsRow base e size (.slice (some ⟨g, 0, none⟩) n cap) n xs) (vs : List Value) (o : Nat) (ho : n * size ≤ o) :
    (w.setCells g o vs).ownsRow base e size (.slice (some ⟨g, 0, none⟩) n cap) n xs ∧ w.grownBy (w.setCells g o vs) (some g) := by
  induction vs generalizing w o with
  | nil => exact ⟨h, ⟨rfl, rfl, rfl, Nat.le_refl _, fun _ _ _ => rfl⟩⟩
  | cons v vs ih =>
    have h1 := h.stored o v
    rw [List.set_eq_of_length_le (by rw [h.1]; exact ho)] at h1
    have h2 := ih h1.1 (o + 1) (by omega)
    refine ⟨h2.1, ?_⟩
    obtain ⟨a1, a2, a3, a4, a5⟩ := h1.2
    obtain ⟨c1, c2, c3, c4, c5⟩ := h2.2
    exact ⟨c1.trans a1, c2.trans a2, c3.trans a3, Nat.le_trans a4 c4, fun k hk hne => (c5 k (Nat.lt_of_lt_of_le hk a4) hne).trans (a5 k hk hne)⟩

/-- append(s[:i], s[i+1:]...): in place -/
theorem run_delete_append {P : Program} {w : World} {base : Nat} {e t ty : TypeId} {i0 : TypeInfo} {g n cap i : Nat} {ls : List Itm} (ht : P.underlying t = some (.slice e)) (hi0 : P.info? e = some i0) (hsz : i0.size = 3)
    (h : w.ownsRow base e 3 (.slice (some ⟨g, 0, none⟩) n cap) n (flat Itm.cell 3 ls)) (hn : n = ls.length) (hi : i < n) (a : Addr) (c : Nat) (ha : i + 1 < n → a = ⟨g, (i + 1) * 3, none⟩) :
    ∃ w', (Builtin.append_ #[t, t] ty #[.slice (some ⟨g, 0, none⟩) i cap, .slice (some a) (n - (i + 1)) c]).run P w = .ok (.slice (some ⟨g, 0, none⟩) (i + (n - (i + 1))) cap) w' ∧
      w'.ownsRow base e 3 (.slice (some ⟨g, 0, none⟩) (n - 1) cap) (n - 1) (flat Itm.cell 3 (ls.eraseIdx i)) ∧ w.grownBy w' (some g) ∧ (∀ j, j < cap * 3 → (w'.cell? ⟨g, j, none⟩).isSome = true) := by
  rcases h.2 with ⟨h', _⟩ | ⟨g', cap', cur, h', hb, hg, hnc, hcm, hcs, htake⟩
  · simp at h'
  simp only [Value.slice.injEq, Option.some.injEq, Addr.mk.injEq, and_true, true_and] at h'
  obtain ⟨rfl, rfl⟩ := h'
  have hl : (flat Itm.cell 3 (ls.drop (i + 1))).length = (n - (i + 1)) * i0.size := by rw [flat_length, List.length_drop, hsz, hn]
  have hnews : ∀ j u, (flat Itm.cell 3 (ls.drop (i + 1)))[j]? = some u → w.cell? (a.add j) = some u := by
    intro j u hj
    have hjl := (List.getElem?_eq_some_iff.1 hj).1
    rw [hl, hsz] at hjl
    have hlt : i + 1 < n := by omega
    rw [ha hlt, Addr.add_lit, h.cellAt _ (by omega), ← hj, ← flat_drop, List.getElem?_drop]
  have hrun := run_append_room (P := P) (w := w) t ty e i0 ht hi0 g i cap cur hg a (n - (i + 1)) c (flat Itm.cell 3 (ls.drop (i + 1))) hl hnews (itm_one _) (by omega) (by rw [hl, hsz, hcs]; omega)
  rw [hsz] at hrun
  have hlen : (flat Itm.cell 3 (ls.drop (i + 1))).length = (n - (i + 1)) * 3 := by rw [hl, hsz]
  have hcl : cur.toList.length = cap * 3 := by simpa using hcs
  have hlist : (cur.toList.take (i * 3) ++ flat Itm.cell 3 (ls.drop (i + 1)) ++ cur.toList.drop (i * 3 + (flat Itm.cell 3 (ls.drop (i + 1))).length)).length = cap * 3 := by
    rw [List.length_append, List.length_append, List.length_take, List.length_drop, hlen, hcl]; omega
  have hpre : cur.toList.take (i * 3) = flat Itm.cell 3 (ls.take i) := by
    rw [← flat_take, ← htake, List.take_take, Nat.min_eq_left (by omega)]
  refine ⟨_, hrun, ⟨?_, .inr ⟨g, cap, _, rfl, hb, setRow_heap w g cur _ e (0, 0) hg, by omega, hcm, by simpa using hlist, ?_⟩⟩, ⟨rfl, rfl, rfl, by simp, fun k _ hk => setRow_other w g k _ (fun e => hk (by rw [e]))⟩, ?_⟩
  · rw [flat_length, List.length_eraseIdx, if_pos (by omega), ← hn]
  · rw [List.toList_toArray, List.take_append_of_le_length (by rw [List.length_append, List.length_take, hlen, hcl]; omega), List.take_of_length_le (by rw [List.length_append, List.length_take, hlen, hcl]; omega), hpre, ← flat_append, List.eraseIdx_eq_take_drop_succ]
  · intro j hj
    rw [cell_setRow_same w g j cur _ e (0, 0) hg, List.getElem?_toArray, List.getElem?_eq_getElem (by rw [hlist]; exact hj)]
    rfl

set_option maxRecDepth 20000 in
set_option maxHeartbeats 2000000 in
theorem delete_any (g n cap i base : Nat) (ls : List Itm) (w : World) (h : w.ownsRow base 42 3 (.slice (some ⟨g, 0, none⟩) n cap) n (flat Itm.cell 3 ls)) (hn : n = ls.length) (hi : i < n) (h24 : n ≤ 24) :
    Calls Tryd.prog 53 #[.slice (some ⟨g, 0, none⟩) n cap, .int .i64 i, .int .i64 ((i : Int) + 1)] w fun e w' =>
      e = .returned (.slice (some ⟨g, 0, none⟩) (n - 1) cap) ∧ w'.ownsRow base 42 3 (.slice (some ⟨g, 0, none⟩) (n - 1) cap) (n - 1) (flat Itm.cell 3 (ls.eraseIdx i)) ∧ w.grownBy w' (some g) := by
  have hcaps : n ≤ cap ∧ cap ≤ maxLen := by
    obtain ⟨A', c', he, hnc, hcm, _⟩ := own_form h
    simp only [Value.slice.injEq] at he
    obtain ⟨_, _, rfl⟩ := he
    exact ⟨hnc, hcm⟩
  obtain ⟨hnc, hcm⟩ := hcaps
  have hne : ((i : Int) == (i : Int) + 1) = false := by rw [beq_eq_false_iff_ne]; omega
  have hcm2 : cap ≤ 9223372036854775807 := hcm
  have H := Lib.hid h
  have HN := Lib.hid hn
  have b1 : (0 : Int) ≤ (i : Int) := by omega
  have b2 : (i : Int) ≤ (cap : Int) := by omega
  have b3 : (0 : Int) ≤ (i : Int) + 1 := by omega
  have b4 : (i : Int) + 1 ≤ (n : Int) := by omega
  have b5 : (n : Int) ≤ (cap : Int) := by omega
  obtain ⟨i0, hi0, hz0, hz1, hz2⟩ := info_parts infoItem
  have b6 : (i : Int) ≤ (i : Int) + 1 := by omega
  by_cases hlast : cap = i + 1
  · obtain ⟨w', hrun, hown, hgr, hcells⟩ := run_delete_append (w := w.drew) (ty := 27) Tryd.underlying27 hi0 hz1 h.drew hn hi ⟨g, 0, none⟩ (cap - (i + 1)) (fun hlt => by omega)
    have hclr : (Builtin.clear_ #[27] 0 #[.slice (some ⟨g, (n - 1) * 3, none⟩) (n - (n - 1)) (cap - (n - 1))]).run Tryd.prog w' = .ok (.tuple #[]) (w'.setCells g ((n - 1) * 3) [.int .i64 0, .string ByteArray.empty, .int .i64 0]) := by
      rw [show n - (n - 1) = 1 from by omega]
      exact run_clear_one (P := Tryd.prog) w' 27 42 0 _ Tryd.underlying27 zeroItem g ((n - 1) * 3) (cap - (n - 1)) [.int .i64 0, .string ByteArray.empty, .int .i64 0] rfl (by simp [Value.oneCell']) (fun j hj => hcells _ (by simp at hj; omega)) (fun j _ => hown.frozenAt _)
    rw [hlast] at hclr
    have hfin := own_stored_behind hown [.int .i64 0, .string ByteArray.empty, .int .i64 0] ((n - 1) * 3) (Nat.le_refl _)
    have HFIN := Lib.hid hfin
    have HGR := Lib.hid hgr
    have HRUN := Lib.hid hrun
    have hsum : i + (n - (i + 1)) = n - 1 := by omega
    have HSUM := Lib.hid hsum
    clear h hn hcm hi0 hz0 hz1 hz2 hcells hgr hown hfin hrun hsum
    go_enter Tryd.func53, Tryd.ntmps53
    go_wp2
    go_region_law (refine step_append_run rfl (.tmp 22) (.tmp 25) 27 rfl (.slice (some ⟨g, 0, none⟩) i cap) (.slice (some ⟨g, 0, none⟩) (n - (i + 1)) (cap - (i + 1))) _ _ (by simp [Act.eval, Act.put, hlast]) (by simp [Act.eval, Act.put, hlast]) HRUN.out ?_; rw [HSUM.out])
    go_wp2
    go_ret
    obtain ⟨c1, c2, c3, c4, c5⟩ := HFIN.out.2
    obtain ⟨d1, d2, d3, d4, d5⟩ := HGR.out
    exact ⟨by rw [hlast]; rfl, HFIN.out.1, ⟨c1.trans d1, c2.trans d2, c3.trans d3, Nat.le_trans d4 c4, fun k hk hne => (c5 k (Nat.lt_of_lt_of_le hk d4) hne).trans (d5 k hk hne)⟩⟩
  · obtain ⟨w', hrun, hown, hgr, hcells⟩ := run_delete_append (w := w.drew) (ty := 27) Tryd.underlying27 hi0 hz1 h.drew hn hi ⟨g, (i + 1) * 3, none⟩ (cap - (i + 1)) (fun hlt => rfl)
    have hclr : (Builtin.clear_ #[27] 0 #[.slice (some ⟨g, (n - 1) * 3, none⟩) (n - (n - 1)) (cap - (n - 1))]).run Tryd.prog w' = .ok (.tuple #[]) (w'.setCells g ((n - 1) * 3) [.int .i64 0, .string ByteArray.empty, .int .i64 0]) := by
      rw [show n - (n - 1) = 1 from by omega]
      exact run_clear_one (P := Tryd.prog) w' 27 42 0 _ Tryd.underlying27 zeroItem g ((n - 1) * 3) (cap - (n - 1)) [.int .i64 0, .string ByteArray.empty, .int .i64 0] rfl (by simp [Value.oneCell']) (fun j hj => hcells _ (by simp at hj; omega)) (fun j _ => hown.frozenAt _)
    have hfin := own_stored_behind hown [.int .i64 0, .string ByteArray.empty, .int .i64 0] ((n - 1) * 3) (Nat.le_refl _)
    have HFIN := Lib.hid hfin
    have HGR := Lib.hid hgr
    have HRUN := Lib.hid hrun
    have hsum : i + (n - (i + 1)) = n - 1 := by omega
    have HSUM := Lib.hid hsum
    clear h hn hcm hi0 hz0 hz1 hz2 hcells hgr hown hfin hrun hsum
    go_enter Tryd.func53, Tryd.ntmps53
    go_wp2
    go_region_law (refine step_append_run rfl (.tmp 22) (.tmp 25) 27 rfl (.slice (some ⟨g, 0, none⟩) i cap) (.slice (some ⟨g, (i + 1) * 3, none⟩) (n - (i + 1)) (cap - (i + 1))) _ _ (by first | rfl | simp [Act.eval, Act.put]) (by first | rfl | simp [Act.eval, Act.put]) HRUN.out ?_; rw [HSUM.out])
    go_wp2
    go_ret
    obtain ⟨c1, c2, c3, c4, c5⟩ := HFIN.out.2
    obtain ⟨d1, d2, d3, d4, d5⟩ := HGR.out
    exact ⟨rfl, HFIN.out.1, ⟨c1.trans d1, c2.trans d2, c3.trans d3, Nat.le_trans d4 c4, fun k hk hne => (c5 k (Nat.lt_of_lt_of_le hk d4) hne).trans (d5 k hk hne)⟩⟩
end Go.Proofs.YtphbebcbbfbgpacDoor

namespace Go.Proofs.YtphbebcbbfbgpacDoor
open Go Go.RowKit

def dropL (ls : List Itm) (id : Int) : List Itm := (upRefs ls id (-1)).filter fun x => decide (0 < x.refs)
noncomputable def droppedR (ls : List Itm) (id : Int) : List Itm := if gotK ls id = 0 then dropL ls id else []
theorem dropL_set {ls : List Itm} {id : Int} {k : Nat} (g : Good ls) (hk : k < ls.length) (hid : ls[k].id = id) (h1 : ls[k].refs ≠ 1) : dropL ls id = ls.set k { ls[k] with refs := ls[k].refs - 1 } := by
  have hr := (g.2.ok _ (List.getElem_mem hk)).2.2.2.1
  rw [dropL, upRefs_set g hk hid, List.filter_eq_self.2]
  · rfl
  · intro x hx
    rcases List.mem_or_eq_of_mem_set hx with hx | rfl
    · have := (g.2.ok _ hx).2.2.2.1
      simp; omega
    · simp; omega
theorem dropL_erase {ls : List Itm} {id : Int} {k : Nat} (g : Good ls) (hk : k < ls.length) (hid : ls[k].id = id) (h1 : ls[k].refs = 1) : dropL ls id = ls.eraseIdx k := by
  have hall : ∀ l : List Itm, (∀ x ∈ l, x ∈ ls) → l.filter (fun x => decide (0 < x.refs)) = l := fun l h => List.filter_eq_self.2 fun x hx => by
    have := (g.2.ok _ (h x hx)).2.2.2.1
    simp; omega
  rw [dropL, upRefs_set g hk hid, List.set_eq_take_append_cons_drop, if_pos hk, List.filter_append, List.filter_cons_of_neg (by simp [h1]), hall _ (fun x hx => List.mem_of_mem_take hx), hall _ (fun x hx => List.mem_of_mem_drop hx), List.eraseIdx_eq_take_drop_succ]
theorem dropL_snoc (l : List Itm) (x : Itm) (id : Int) : dropL (l ++ [x]) id = dropL l id ++ dropL [x] id := by simp [dropL, upRefs]
theorem dropL_one (x : Itm) (id : Int) : dropL [x] id = if 0 < (if x.id = id then { x with refs := x.refs + -1 } else x).refs then [if x.id = id then { x with refs := x.refs + -1 } else x] else [] := by
  simp only [dropL, upRefs, List.map_cons, List.map_nil, List.filter_cons, List.filter_nil, decide_eq_true_eq]

set_option maxRecDepth 20000 in
set_option maxHeartbeats 2000000 in
theorem drop_any (A : Option Addr) (n c : Nat) (id : Int) (ls : List Itm) (w : World) (h : Rep w w.heap.size 3 Itm.cell A n ls) (hn : n ≤ maxLen) (hnil : A = none → n = 0 ∧ c = 0) :
    Calls Tryd.prog 24 #[.slice A n c, .int .i64 id] w (ItemsPost w (droppedR ls id) (gotK ls id)) := by
  have hc : ∀ W, Below w.heap.size w W → Calls Tryd.prog 23 #[.slice A n c, .int .i64 id] W fun e w' => GetPost ls id e ∧ Below W.heap.size W w' :=
    fun W hb => get_any A n c id ls W ((h.below hb (Nat.le_refl _)).mono hb.size) hn
  have HC := Lib.hid hc
  clear hc
  by_cases h0 : gotK ls id = 0
  · obtain ⟨hG, k, hk, hid, _, hR, hX⟩ := got_zero h0
    have h24 : n ≤ 24 := by have := h.1; have := hG.1; omega
    have hkn : k < n := by have := h.1; omega
    have hn1 := h.1
    have hcl : ∀ W, Below w.heap.size w W → Calls Tryd.prog 46 #[.slice A n c] W (OwnPost W 42 3 n (flat Itm.cell 3 ls)) :=
      fun W hb => cloneItems A n c ls W ((h.below hb (Nat.le_refl _)).mono hb.size) hnil (by omega)
    have HCL := Lib.hid hcl
    have hdr : droppedR ls id = dropL ls id := by rw [droppedR, if_pos h0]
    have hfs := flat_set ls k hk (ls[k].refs - 1)
    have hd1 := dropL_set hG hk hid
    have hd2 := dropL_erase hG hk hid
    obtain ⟨x, hx⟩ : ∃ x, ls[k] = x := ⟨_, rfl⟩
    have hrf := (hG.2.ok _ (List.getElem_mem hk)).2.2.2
    rw [hx] at hR hX hrf hfs hd1 hd2
    have HR := Lib.hid hR
    have HX := Lib.hid hx
    have HG := Lib.hid hG
    have HID := Lib.hid hid
    have H0 := Lib.hid h0
    have HN := Lib.hid hn1
    have HFS := Lib.hid hfs
    obtain ⟨xi, xd, xr⟩ := x
    dsimp only at hrf
    rw [hdr, h0]
    have s1 : IntKind.i64.wrap (xr - 1) = xr - 1 := IntWalk.i64_in _ (by omega)
    by_cases h1 : xr = 1
    · rw [hd2 h1]
      have d1 : ((xr - 1 : Int) == 0) = true := by simp [h1]
      clear hcl hX hR hx hG hid h0 hn1 h hnil hdr hd1 hd2 hfs
      have H1 := Lib.hid h1
      clear h1
      go_enter Tryd.func24, Tryd.ntmps24
      go_wp2_with fail
      refine (HC.out _ (Below.refl _ _)).mono ?_
      rintro e w1 ⟨he, hb1⟩
      rw [GetPost, H0.out, HR.out] at he
      subst he
      have HB1 : Hid (Below w.heap.size w (w1.alloc (.cells #[.int .i64 xi, .string xd, .int .i64 xr] 42))) := Lib.hid (hb1.alloc hb1.size _)
      clear hb1
      go_wp2_with fail
      refine (HCL.out _ HB1.out).mono ?_
      rintro e w2 ⟨A1, c1, rfl, hown, hb2, _, _, hn2⟩
      have HB2 := Lib.hid (HB1.out.trans (hb2.mono HB1.out.size))
      have hrep := Rep.of_own HN.out hown (Nat.le_refl _)
      have HREP := Lib.hid hrep
      have HOWN := Lib.hid (own_mono hown (base' := w.heap.size) HB1.out.size)
      clear hb2 hown hrep
      go_wp2_with fail
      refine (at_any A1 n c1 k id ls w2 HREP.out HG.out hk HID.out).mono ?_
      rintro e w3 ⟨rfl, hb3⟩
      obtain ⟨g, cap, hA, _, _⟩ := HOWN.out.form (by omega)
      simp only [Value.slice.injEq] at hA
      obtain ⟨rfl, _, rfl⟩ := hA
      have hown3 := own_below HOWN.out hb3
      have z2 := hown3.frozenAt (k * 3 + 2)
      obtain ⟨hbs, x0, x1, x2⟩ := items_of (k := k) (HREP.out.below hb3 (Nat.le_refl _)) hkn
      rw [HX.out] at x0 x1 x2
      have x2' : w3.cell? ⟨g, k * 3 + 2, none⟩ = some (.int .i64 xr) := by rw [← x2, Nat.zero_add]
      have HB3 := Lib.hid (HB2.out.trans (hb3.mono HB2.out.size))
      have hst := hown3.stored (k * 3 + 2) (.int .i64 (xr - 1))
      rw [HFS.out] at hst
      have HST := Lib.hid hst
      have HLO := Lib.hid (HOWN.out.lt g rfl).1
      clear hb3 hown3 x0 x1 hst
      go_wp2_with fail
      refine (delete_any g n c1 k w.heap.size _ _ HST.out.1 (by rw [List.length_set]; exact HN.out) hkn h24).mono ?_
      rintro e w4 ⟨rfl, hown4, hgr4⟩
      have HO4 := Lib.hid hown4
      have HB4 := Lib.hid ((HB3.out.grown HST.out.2 HB3.out.size (by intro j hj; cases hj; exact HLO.out)).grown hgr4 (by simp; exact HB3.out.size) (by intro j hj; cases hj; exact HLO.out))
      clear hown4 hgr4
      go_wp2
      go_ret2
      have he : (ls.set k ⟨xi, xd, xr - 1⟩).eraseIdx k = ls.eraseIdx k := by rw [List.eraseIdx_eq_take_drop_succ, List.eraseIdx_eq_take_drop_succ, List.take_set_of_le (Nat.le_refl k), List.drop_set_of_lt (by omega)]
      have ho := HO4.out
      rw [he] at ho
      exact ItemsPost.mk' (by rw [List.length_eraseIdx, if_pos hk, ← HN.out]) ho HB4.out
    · rw [hd1 h1]
      have d1 : ((xr - 1 : Int) == 0) = false := by rw [beq_eq_false_iff_ne]; omega
      clear hcl hX hR hx hG hid h0 hn1 h hnil hdr hd1 hd2 hfs
      have H1 := Lib.hid h1
      clear h1
      go_enter Tryd.func24, Tryd.ntmps24
      go_wp2_with fail
      refine (HC.out _ (Below.refl _ _)).mono ?_
      rintro e w1 ⟨he, hb1⟩
      rw [GetPost, H0.out, HR.out] at he
      subst he
      have HB1 : Hid (Below w.heap.size w (w1.alloc (.cells #[.int .i64 xi, .string xd, .int .i64 xr] 42))) := Lib.hid (hb1.alloc hb1.size _)
      clear hb1
      go_wp2_with fail
      refine (HCL.out _ HB1.out).mono ?_
      rintro e w2 ⟨A1, c1, rfl, hown, hb2, _, _, hn2⟩
      have HB2 := Lib.hid (HB1.out.trans (hb2.mono HB1.out.size))
      have hrep := Rep.of_own HN.out hown (Nat.le_refl _)
      have HREP := Lib.hid hrep
      have HOWN := Lib.hid (own_mono hown (base' := w.heap.size) HB1.out.size)
      clear hb2 hown hrep
      go_wp2_with fail
      refine (at_any A1 n c1 k id ls w2 HREP.out HG.out hk HID.out).mono ?_
      rintro e w3 ⟨rfl, hb3⟩
      obtain ⟨g, cap, hA, _, _⟩ := HOWN.out.form (by omega)
      simp only [Value.slice.injEq] at hA
      obtain ⟨rfl, _, rfl⟩ := hA
      have hown3 := own_below HOWN.out hb3
      have z2 := hown3.frozenAt (k * 3 + 2)
      obtain ⟨hbs, x0, x1, x2⟩ := items_of (k := k) (HREP.out.below hb3 (Nat.le_refl _)) hkn
      rw [HX.out] at x0 x1 x2
      have x2' : w3.cell? ⟨g, k * 3 + 2, none⟩ = some (.int .i64 xr) := by rw [← x2, Nat.zero_add]
      have HB3 := Lib.hid (HB2.out.trans (hb3.mono HB2.out.size))
      have hst := hown3.stored (k * 3 + 2) (.int .i64 (xr - 1))
      rw [HFS.out] at hst
      have HST := Lib.hid hst
      have HLO := Lib.hid (HOWN.out.lt g rfl).1
      clear hb3 hown3 x0 x1 hst
      go_wp2
      go_ret2
      exact ItemsPost.mk' (by rw [List.length_set]; exact HN.out) HST.out.1 (HB3.out.grown HST.out.2 HB3.out.size (by intro j hj; cases hj; exact HLO.out))
  · have hR' : droppedR ls id = [] := by rw [droppedR, if_neg h0]
    rw [hR']
    obtain ⟨x, y, hx, hy⟩ : ∃ x y, gotR ls id = x ∧ gotK ls id = y := ⟨_, _, rfl, rfl⟩
    rw [hy] at h0 ⊢
    have HX := Lib.hid hx
    have HY := Lib.hid hy
    have d0 : (y != 0) = true := by simp [h0]
    clear hR' hx hy h hnil h0
    go_enter Tryd.func24, Tryd.ntmps24
    go_wp2_with fail
    refine (HC.out _ (Below.refl _ _)).mono ?_
    rintro e w1 ⟨he, hb1⟩
    rw [GetPost, HX.out, HY.out] at he
    subst he
    have HB1 : Hid (Below w.heap.size w (w1.alloc (.cells #[.int .i64 x.id, .string x.data, .int .i64 x.refs] 42))) := Lib.hid (hb1.alloc hb1.size _)
    clear hb1
    go_wp2
    go_ret2
    exact ItemsPost.nil HB1.out

theorem own_slice' {w : World} {base : Nat} {e : TypeId} {size : Nat} {v : Value} {n : Nat} {xs : List Value} (h : w.ownsRow base e size v n xs) : ∃ A cap, v = .slice A n cap := by
  obtain ⟨A, c, h, _⟩ := own_form h
  exact ⟨A, c, h⟩
theorem itm_flat_one (x : Itm) : flat Itm.cell 3 [x] = [.int .i64 x.id, .string x.data, .int .i64 x.refs] := by
  rw [flat_one]; rfl

end Go.Proofs.YtphbebcbbfbgpacDoor

namespace Go.Proofs.YtphbebcbbfbgpacDoor
open Go

theorem pre_len {l : List Itm} (h : GoodPre l) : l.length ≤ 24 := by
  have h1 := length_le_of_subset (ids_nodup h) (m := (List.range 24).map (fun k : Nat => (k : Int))) (fun y hy => by
    obtain ⟨x, hx, rfl⟩ := List.mem_map.1 hy
    have := h.ok x hx
    refine List.mem_map.2 ⟨x.id.toNat, List.mem_range.2 ?_, ?_⟩
    · have h1 := this.1; have h2 := this.2.1; omega
    · have h1 := this.1; omega)
  simpa using h1
theorem id_unique {l : List Itm} (h : GoodPre l) {x y : Itm} (hx : x ∈ l) (hy : y ∈ l) (e : x.id = y.id) : x = y := by
  obtain ⟨i, hi, rfl⟩ := List.getElem_of_mem hx
  obtain ⟨j, hj, rfl⟩ := List.getElem_of_mem hy
  rcases Nat.lt_trichotomy i j with hlt | rfl | hlt
  · have := List.pairwise_iff_getElem.1 h.ids i j hi hj hlt; omega
  · rfl
  · have := List.pairwise_iff_getElem.1 h.ids j i hj hi hlt; omega
theorem gotK_of_mem {l : List Itm} (g : Good l) {x : Itm} (hx : x ∈ l) : gotK l x.id = 0 := by
  obtain ⟨j, hj, rfl⟩ := List.getElem_of_mem hx
  exact (got_some g hj rfl).1

/-- one item's count changed -/
def upOne (id d : Int) (x : Itm) : Itm := if x.id = id then { x with refs := x.refs + d } else x
theorem upOne_id (id d : Int) (x : Itm) : (upOne id d x).id = x.id := by unfold upOne; split <;> rfl
theorem upOne_data (id d : Int) (x : Itm) : (upOne id d x).data = x.data := by unfold upOne; split <;> rfl
theorem upOne_refs (id d : Int) (x : Itm) : (upOne id d x).refs = if x.id = id then x.refs + d else x.refs := by unfold upOne; split <;> rfl
theorem mem_upRefs {ls : List Itm} {id d : Int} {y : Itm} : y ∈ upRefs ls id d ↔ ∃ x ∈ ls, upOne id d x = y := List.mem_map
theorem mem_dropL {ls : List Itm} {id : Int} {y : Itm} : y ∈ dropL ls id ↔ (∃ x ∈ ls, upOne id (-1) x = y) ∧ 0 < y.refs := by
  rw [dropL, List.mem_filter, mem_upRefs, decide_eq_true_iff]
theorem upRefs_ids {ls : List Itm} (id d : Int) (h : ls.Pairwise (fun x y => x.id < y.id)) : (upRefs ls id d).Pairwise (fun x y => x.id < y.id) := by
  rw [upRefs, List.pairwise_map]
  exact h.imp (fun {a b} hab => by
    have e1 := upOne_id id d a
    have e2 := upOne_id id d b
    unfold upOne at e1 e2
    rw [e1, e2]; exact hab)
theorem upRefs_datas {ls : List Itm} (id d : Int) (h : ls.Pairwise (fun x y => x.data ≠ y.data)) : (upRefs ls id d).Pairwise (fun x y => x.data ≠ y.data) := by
  rw [upRefs, List.pairwise_map]
  exact h.imp (fun {a b} hab => by
    have e1 := upOne_data id d a
    have e2 := upOne_data id d b
    unfold upOne at e1 e2
    rw [e1, e2]; exact hab)

theorem mem_set_count {bs : List Int} {k : Nat} (hk : k < bs.length) (v a : Int) : (bs.set k v).count a = bs.count a - (if bs[k] = a then 1 else 0) + (if v = a then 1 else 0) := by
  have := List.count_set (l := bs) (i := k) (a := v) (b := a) hk
  simpa using this
theorem count_pos_at {bs : List Int} {k : Nat} (hk : k < bs.length) : 0 < bs.count bs[k] := List.count_pos_iff.2 (List.getElem_mem hk)

/-- a volume whose block is emptied is valid -/
theorem drop_good {ls : List Itm} {bs : List Int} {k : Nat} (g : GoodVol ls bs) (hk : k < bs.length) (_h0 : 0 ≤ bs[k]) : GoodVol (dropL ls bs[k]) (bs.set k (-1)) := by
  have hcp := count_pos_at hk
  have hpre : GoodPre (dropL ls bs[k]) := by
    refine ⟨fun y hy => ?_, (upRefs_ids _ _ g.good.2.ids).filter _, (upRefs_datas _ _ g.good.2.datas).filter _⟩
    obtain ⟨⟨x, hx, rfl⟩, hr⟩ := mem_dropL.1 hy
    have ok := g.good.2.ok x hx
    unfold itmOk at ok ⊢
    rw [upOne_refs] at hr
    rw [upOne_id, upOne_data, upOne_refs]
    split <;> rename_i h
    · rw [if_pos h] at hr; omega
    · omega
  refine ⟨⟨pre_len hpre, hpre⟩, by rw [List.length_set]; exact g.lo, by rw [List.length_set]; exact g.hi, fun b hb => ?_, fun b hb hb0 => ?_, fun y hy => ?_, fun y hy => ?_⟩
  · rcases List.mem_or_eq_of_mem_set hb with hb | rfl
    · exact g.ge b hb
    · omega
  · rcases List.mem_or_eq_of_mem_set hb with hb' | rfl
    · obtain ⟨x, hx, rfl⟩ := g.ids b hb' hb0
      refine ⟨upOne bs[k] (-1) x, mem_dropL.2 ⟨⟨x, hx, rfl⟩, ?_⟩, upOne_id _ _ _⟩
      have hr := g.refs x hx
      have hp := List.count_pos_iff.2 hb
      rw [mem_set_count hk] at hp
      have ok := (g.good.2.ok x hx).2.2.2.1
      rw [upOne_refs]
      split <;> rename_i h
      · rw [if_pos h.symm, if_neg (by omega)] at hp
        omega
      · omega
    · omega
  · obtain ⟨⟨x, hx, rfl⟩, hr⟩ := mem_dropL.1 hy
    have hc := g.refs x hx
    have ok := (g.good.2.ok x hx)
    unfold itmOk at ok
    rw [upOne_id, upOne_refs, mem_set_count hk, if_neg (show ¬ (-1 : Int) = x.id by omega)]
    by_cases h : x.id = bs[k]
    · rw [if_pos h.symm, if_pos h]
      rw [← h] at hcp
      omega
    · rw [if_neg (fun e => h e.symm), if_neg h]; omega
  · obtain ⟨⟨x, hx, rfl⟩, hr⟩ := mem_dropL.1 hy
    rw [upOne_data]; exact g.data x hx

/-- a volume into an empty block of which data is kept is valid -/
theorem keep_good {ls us : List Itm} {bs : List Int} {k : Nat} {d : ByteArray} {id : Int} (g : GoodVol ls bs) (hk : k < bs.length) (h0 : bs[k] = -1) (hd : d.size ≠ 0) (he : keptR ls d = (us, id, 0)) : GoodVol us (bs.set k id) := by
  have hgB : goodB ls = true := goodB_true g.good
  by_cases h48 : d.size ≤ 48
  · cases hix : ls.findIdx? (fun x => decide (x.data = d)) with
    | some j =>
      obtain ⟨hj, hjd, _⟩ := List.findIdx?_eq_some_iff_getElem.1 hix
      by_cases h32 : ls[j].refs = 32
      · rw [kept_full hgB h48 hix hj h32] at he
        simp at he
      · rw [kept_up hgB h48 hix hj h32] at he
        simp only [Prod.mk.injEq, and_true] at he
        obtain ⟨rfl, rfl⟩ := he
        have hmem : ls[j] ∈ ls := List.getElem_mem hj
        have hok0 := g.good.2.ok _ hmem
        unfold itmOk at hok0
        rw [← upRefs_set g.good hj rfl]
        have hpre : GoodPre (upRefs ls ls[j].id 1) := by
          refine ⟨fun y hy => ?_, upRefs_ids _ _ g.good.2.ids, upRefs_datas _ _ g.good.2.datas⟩
          obtain ⟨x, hx, rfl⟩ := mem_upRefs.1 hy
          have ok := g.good.2.ok x hx
          unfold itmOk at ok ⊢
          rw [upOne_id, upOne_data, upOne_refs]
          split <;> rename_i h
          · have := id_unique g.good.2 hx hmem h
            subst this
            omega
          · omega
        refine ⟨⟨pre_len hpre, hpre⟩, by rw [List.length_set]; exact g.lo, by rw [List.length_set]; exact g.hi, fun b hb => ?_, fun b hb hb0 => ?_, fun y hy => ?_, fun y hy => ?_⟩
        · rcases List.mem_or_eq_of_mem_set hb with hb | rfl
          · exact g.ge b hb
          · omega
        · rcases List.mem_or_eq_of_mem_set hb with hb' | rfl
          · obtain ⟨x, hx, rfl⟩ := g.ids b hb' hb0
            exact ⟨upOne ls[j].id 1 x, mem_upRefs.2 ⟨x, hx, rfl⟩, upOne_id _ _ _⟩
          · exact ⟨upOne ls[j].id 1 ls[j], mem_upRefs.2 ⟨_, hmem, rfl⟩, upOne_id _ _ _⟩
        · obtain ⟨x, hx, rfl⟩ := mem_upRefs.1 hy
          have hc := g.refs x hx
          have ok := g.good.2.ok x hx
          unfold itmOk at ok
          rw [upOne_id, upOne_refs, mem_set_count hk, if_neg (by omega)]
          split <;> rename_i h
          · rw [if_pos h.symm]; omega
          · rw [if_neg (fun e => h e.symm)]; omega
        · obtain ⟨x, hx, rfl⟩ := mem_upRefs.1 hy
          rw [upOne_data]; exact g.data x hx
    | none =>
      have hno : ∀ x ∈ ls, x.data ≠ d := fun x hx => by
        have := List.findIdx?_eq_none_iff.1 hix x hx
        simpa using this
      by_cases hf : freeIx ls < 24
      · rw [kept_new hgB h48 hix hf] at he
        simp only [Prod.mk.injEq, and_true] at he
        obtain ⟨rfl, rfl⟩ := he
        have hmem : ∀ y, y ∈ ls.take (freeIx ls) ++ [(⟨freeIx ls, d, 1⟩ : Itm)] ++ ls.drop (freeIx ls) ↔ y ∈ ls ∨ y = ⟨freeIx ls, d, 1⟩ := by
          intro y
          rw [List.mem_append, List.mem_append, List.mem_singleton]
          have hm : y ∈ ls ↔ y ∈ ls.take (freeIx ls) ∨ y ∈ ls.drop (freeIx ls) := by
            rw [← List.mem_append, List.take_append_drop]
          rw [hm]
          constructor
          · rintro ((h | h) | h)
            · exact .inl (.inl h)
            · exact .inr h
            · exact .inl (.inr h)
          · rintro ((h | h) | h)
            · exact .inl (.inl h)
            · exact .inr h
            · exact .inl (.inr h)
        have hfree := free_none g.good
        have hcz : bs.count ((freeIx ls : Nat) : Int) = 0 := by
          rw [List.count_eq_zero]
          intro hb
          obtain ⟨x, hx, e⟩ := g.ids _ hb (by omega)
          exact hfree x hx e
        have hlow : ∀ x ∈ ls.take (freeIx ls), x.id < (freeIx ls : Int) := fun x hx => by
          rw [← free_low g.good] at hx
          simpa using (List.mem_filter.1 hx).2
        have hhigh : ∀ x ∈ ls.drop (freeIx ls), x.id > (freeIx ls : Int) := fun x hx => by
          rw [← free_high g.good] at hx
          simpa using (List.mem_filter.1 hx).2
        have hsplit : ls.take (freeIx ls) ++ ls.drop (freeIx ls) = ls := List.take_append_drop _ _
        have hpre : GoodPre (ls.take (freeIx ls) ++ [(⟨freeIx ls, d, 1⟩ : Itm)] ++ ls.drop (freeIx ls)) := by
          refine ⟨fun y hy => ?_, ?_, ?_⟩
          · rcases (hmem y).1 hy with hy | rfl
            · exact g.good.2.ok y hy
            · unfold itmOk; simp only; omega
          · have h1 := g.good.2.ids
            rw [← hsplit] at h1
            obtain ⟨p1, p2, p3⟩ := List.pairwise_append.1 h1
            refine List.pairwise_append.2 ⟨List.pairwise_append.2 ⟨p1, by simp, fun a ha b hb => ?_⟩, p2, fun a ha b hb => ?_⟩
            · rw [List.mem_singleton.1 hb]; exact hlow a ha
            · rcases List.mem_append.1 ha with ha | ha
              · exact p3 a ha b hb
              · rw [List.mem_singleton.1 ha]; exact hhigh b hb
          · have h1 := g.good.2.datas
            rw [← hsplit] at h1
            obtain ⟨p1, p2, p3⟩ := List.pairwise_append.1 h1
            refine List.pairwise_append.2 ⟨List.pairwise_append.2 ⟨p1, by simp, fun a ha b hb => ?_⟩, p2, fun a ha b hb => ?_⟩
            · rw [List.mem_singleton.1 hb]; exact hno a (List.mem_of_mem_take ha)
            · rcases List.mem_append.1 ha with ha | ha
              · exact p3 a ha b hb
              · rw [List.mem_singleton.1 ha]; exact fun e => hno b (List.mem_of_mem_drop hb) e.symm
        refine ⟨⟨pre_len hpre, hpre⟩, by rw [List.length_set]; exact g.lo, by rw [List.length_set]; exact g.hi, fun b hb => ?_, fun b hb hb0 => ?_, fun y hy => ?_, fun y hy => ?_⟩
        · rcases List.mem_or_eq_of_mem_set hb with hb | rfl
          · exact g.ge b hb
          · omega
        · rcases List.mem_or_eq_of_mem_set hb with hb' | rfl
          · obtain ⟨x, hx, e⟩ := g.ids b hb' hb0
            exact ⟨x, (hmem x).2 (.inl hx), e⟩
          · exact ⟨_, (hmem _).2 (.inr rfl), rfl⟩
        · rw [mem_set_count hk]
          rcases (hmem y).1 hy with hy | rfl
          · have hc := g.refs y hy
            have hne := hfree y hy
            have ok := g.good.2.ok y hy
            unfold itmOk at ok
            rw [if_neg (by omega), if_neg (fun e => hne e.symm)]; omega
          · simp only [h0, if_true, hcz]
            rw [if_neg (by omega)]; rfl
        · rcases (hmem y).1 hy with hy | rfl
          · exact g.data y hy
          · exact hd
      · rw [kept_no hgB h48 hix hf] at he
        simp at he
  · rw [kept_long hgB h48] at he
    simp at he

def dropStep (s : List Itm × List Int) (w : Wrt) : List Itm × List Int :=
  if 0 ≤ s.2.getD w.block.toNat 0 then (dropL s.1 (s.2.getD w.block.toNat 0), s.2.set w.block.toNat (-1)) else s
noncomputable def keepAll : List Itm → List Int → List Wrt → List Itm × List Int × Int
  | ls, bs, [] => (ls, bs, 0)
  | ls, bs, w :: r => if w.data.size = 0 then keepAll ls bs r else
      if (keptR ls w.data).2.2 = 0 then keepAll (keptR ls w.data).1 (bs.set w.block.toNat (keptR ls w.data).2.1) r else ([], [], (keptR ls w.data).2.2)
noncomputable def appliedR (ls : List Itm) (bs : List Int) (ws : List Wrt) : List Itm × List Int × Int :=
  if goodVB ls bs then
    if writesK ws bs.length = 0 then keepAll (ws.foldl dropStep (ls, bs)).1 (ws.foldl dropStep (ls, bs)).2 ws else ([], [], writesK ws bs.length)
  else ([], [], 7)

theorem getD_lt {bs : List Int} {k : Nat} (hk : k < bs.length) (z : Int) : bs.getD k z = bs[k] := by
  rw [List.getD_eq_getElem?_getD, List.getElem?_eq_getElem hk]; rfl
theorem dropStep_len (s : List Itm × List Int) (w : Wrt) : (dropStep s w).2.length = s.2.length := by unfold dropStep; split <;> simp
theorem dropStep_good {s : List Itm × List Int} {w : Wrt} (g : GoodVol s.1 s.2) (h0 : 0 ≤ w.block) (h1 : w.block < s.2.length) : GoodVol (dropStep s w).1 (dropStep s w).2 := by
  have hk : w.block.toNat < s.2.length := by omega
  unfold dropStep
  rw [getD_lt hk]
  split
  · rename_i h; exact drop_good g hk h
  · exact g
theorem dropAll_good {ws : List Wrt} : ∀ {s : List Itm × List Int}, GoodVol s.1 s.2 → (∀ w ∈ ws, 0 ≤ w.block ∧ w.block < s.2.length) → GoodVol (ws.foldl dropStep s).1 (ws.foldl dropStep s).2 ∧ (ws.foldl dropStep s).2.length = s.2.length := by
  induction ws with
  | nil => intro s g _; exact ⟨g, rfl⟩
  | cons w r ih =>
    intro s g h
    have hw := h w (by simp)
    have := ih (s := dropStep s w) (dropStep_good g hw.1 hw.2) (fun x hx => by rw [dropStep_len]; exact h x (by simp [hx]))
    rw [List.foldl_cons]
    exact ⟨this.1, by rw [this.2, dropStep_len]⟩
/-- a block that is written, and those that are empty, are empty behind the drops -/
theorem dropAll_at {ws : List Wrt} : ∀ {s : List Itm × List Int} {k : Nat} (_ : k < s.2.length), (∀ b ∈ s.2, -1 ≤ b) → (∀ w ∈ ws, 0 ≤ w.block ∧ w.block < s.2.length) →
    (ws.foldl dropStep s).2[k]? = some (if ((k : Int) ∈ ws.map (·.block)) then -1 else s.2[k]) := by
  induction ws with
  | nil => intro s k hk _ _; simp [hk]
  | cons w r ih =>
    intro s k hk hge h
    have hw := h w (by simp)
    have hkw : w.block.toNat < s.2.length := by omega
    rw [List.foldl_cons]
    have hge' : ∀ b ∈ (dropStep s w).2, -1 ≤ b := by
      intro b hb
      unfold dropStep at hb
      split at hb
      · rcases List.mem_or_eq_of_mem_set hb with hb | rfl
        · exact hge b hb
        · omega
      · exact hge b hb
    rw [ih (s := dropStep s w) (k := k) (by rw [dropStep_len]; exact hk) hge' (fun x hx => by rw [dropStep_len]; exact h x (by simp [hx]))]
    congr 1
    by_cases hm : (k : Int) ∈ r.map (·.block)
    · rw [if_pos hm, if_pos (by simp [List.map_cons]; right; simpa using hm)]
    · rw [if_neg hm]
      by_cases hkb : (k : Int) = w.block
      · rw [if_pos (by simp [hkb])]
        have e : w.block.toNat = k := by omega
        subst e
        have hd := getD_lt hkw 0
        by_cases hn : 0 ≤ s.2[w.block.toNat]
        · have e2 : (dropStep s w).2 = s.2.set w.block.toNat (-1) := by unfold dropStep; rw [if_pos (by rw [hd]; exact hn)]
          simp only [e2, List.getElem_set_self]
        · have e2 : (dropStep s w).2 = s.2 := by unfold dropStep; rw [if_neg (by rw [hd]; exact hn)]
          have := hge _ (List.getElem_mem hkw)
          simp only [e2]
          omega
      · rw [if_neg (by rw [List.map_cons, List.mem_cons]; rintro (h | h); exact hkb h; exact hm h)]
        by_cases hn : 0 ≤ s.2.getD w.block.toNat 0
        · have e2 : (dropStep s w).2 = s.2.set w.block.toNat (-1) := by unfold dropStep; rw [if_pos hn]
          simp only [e2]
          rw [List.getElem_set_ne (by omega)]
        · have e2 : (dropStep s w).2 = s.2 := by unfold dropStep; rw [if_neg hn]
          simp only [e2]

theorem keepAll_good : ∀ {ws : List Wrt} {ls us : List Itm} {bs cs : List Int}, GoodVol ls bs → (∀ w ∈ ws, 0 ≤ w.block ∧ w.block < bs.length) → ws.Pairwise (fun x y => x.block < y.block) →
    (∀ w ∈ ws, bs[w.block.toNat]? = some (-1)) → keepAll ls bs ws = (us, cs, 0) → GoodVol us cs ∧ cs.length = bs.length
  | [], ls, us, bs, cs, g, _, _, _, h => by
    simp only [keepAll, Prod.mk.injEq, and_true] at h
    obtain ⟨rfl, rfl⟩ := h
    exact ⟨g, rfl⟩
  | w :: r, ls, us, bs, cs, g, hr, hp, he, h => by
    have hw := hr w (by simp)
    have hk : w.block.toNat < bs.length := by omega
    obtain ⟨hp1, hp2⟩ := List.pairwise_cons.1 hp
    rw [keepAll] at h
    by_cases hd : w.data.size = 0
    · rw [if_pos hd] at h
      exact keepAll_good g (fun x hx => hr x (by simp [hx])) hp2 (fun x hx => he x (by simp [hx])) h
    · rw [if_neg hd] at h
      by_cases h0 : (keptR ls w.data).2.2 = 0
      · rw [if_pos h0] at h
        have hm1 := he w (by simp)
        rw [List.getElem?_eq_getElem hk] at hm1
        have g2 := keep_good (us := (keptR ls w.data).1) (id := (keptR ls w.data).2.1) g hk (by simpa using hm1) hd (by
          rw [← h0])
        have := keepAll_good g2 (fun x hx => by rw [List.length_set]; exact hr x (by simp [hx])) hp2 (fun x hx => by
          have h1 := hp1 x hx
          have h2 := hr x (by simp [hx])
          rw [List.getElem?_set_ne (by omega)]
          exact he x (by simp [hx])) h
        exact ⟨this.1, by rw [this.2, List.length_set]⟩
      · rw [if_neg h0] at h
        simp only [Prod.mk.injEq] at h
        exact absurd h.2.2 h0
theorem keepAll_err : ∀ (ws : List Wrt) (ls : List Itm) (bs : List Int), (keepAll ls bs ws).2.2 ≠ 0 → (keepAll ls bs ws).1 = [] ∧ (keepAll ls bs ws).2.1 = []
  | [], ls, bs, h => absurd rfl h
  | w :: r, ls, bs, h => by
    rw [keepAll] at h ⊢
    split
    · rename_i hd; rw [if_pos hd] at h; exact keepAll_err r ls bs h
    · rename_i hd
      rw [if_neg hd] at h
      split
      · rename_i h0; rw [if_pos h0] at h; exact keepAll_err r _ _ h
      · exact ⟨rfl, rfl⟩
theorem applied_err {ls : List Itm} {bs : List Int} {ws : List Wrt} (h : (appliedR ls bs ws).2.2 ≠ 0) : (appliedR ls bs ws).1 = [] ∧ (appliedR ls bs ws).2.1 = [] := by
  unfold appliedR at h ⊢
  split
  · rename_i hg
    rw [if_pos hg] at h
    split
    · rename_i hw; rw [if_pos hw] at h; exact keepAll_err _ _ _ h
    · exact ⟨rfl, rfl⟩
  · exact ⟨rfl, rfl⟩
/-- what applied without a fault makes a valid volume of as many blocks -/
theorem applied_good {ls us : List Itm} {bs cs : List Int} {ws : List Wrt} (h : appliedR ls bs ws = (us, cs, 0)) : GoodVol ls bs ∧ GoodW ws bs.length ∧ GoodVol us cs ∧ cs.length = bs.length := by
  unfold appliedR at h
  split at h
  · rename_i hg
    have g : GoodVol ls bs := by simpa [goodVB] using hg
    split at h
    · rename_i hw
      have gw := writesK_zero.1 hw
      have hrng : ∀ w ∈ ws, 0 ≤ w.block ∧ w.block < bs.length := fun w hw => ⟨gw.lo w hw, gw.hi w hw⟩
      have h1 := dropAll_good (s := (ls, bs)) g hrng
      have h2 := keepAll_good h1.1 (fun w hw => by rw [h1.2]; exact hrng w hw) gw.asc (fun w hw => by
        have hw' := hrng w hw
        have hk : w.block.toNat < bs.length := by omega
        rw [dropAll_at (s := (ls, bs)) hk g.ge hrng, if_pos (by rw [show ((w.block.toNat : Nat) : Int) = w.block from by omega]; exact List.mem_map.2 ⟨w, hw, rfl⟩)]) h
      exact ⟨g, gw, h2.1, by rw [h2.2, h1.2]⟩
    · rename_i hw
      simp only [Prod.mk.injEq] at h
      exact absurd h.2.2 hw
  · simp at h
end Go.Proofs.YtphbebcbbfbgpacDoor

namespace Go.Proofs.YtphbebcbbfbgpacDoor
open Go

/-- the five writes of WritesBad: too many, a block too high, one below zero, a block twice, data too long -/
def badW (k : Nat) (d : ByteArray) : Nat → List Wrt
  | 0 => List.replicate 13 ⟨0, ⟨#[]⟩⟩
  | 1 => [⟨16 + k, ⟨#[]⟩⟩]
  | 2 => [⟨-1 - k, ⟨#[]⟩⟩]
  | 3 => [⟨k, ⟨#[]⟩⟩, ⟨k, ⟨#[]⟩⟩]
  | _ => [⟨k, d⟩]
def badE : Nat → Int
  | 0 => 1
  | 1 => 6
  | 2 => 6
  | 3 => 4
  | _ => 1
theorem bad_writes {k : Nat} {d : ByteArray} (hk : k < 16) (hd : d.size = 49) (i : Nat) : writesK (badW k d i) 16 = badE i := by
  have hz : (⟨#[]⟩ : ByteArray).size = 0 := rfl
  match i with
  | 0 => rfl
  | 1 =>
    rw [badW, badE, writesK, if_pos (by simp), faultL, if_neg (by simp only; omega)]
  | 2 =>
    rw [badW, badE, writesK, if_pos (by simp), faultL, if_neg (by simp only; omega)]
  | 3 =>
    rw [badW, badE, writesK, if_pos (by simp), faultL, if_pos (by simp only; omega), if_pos (by simp only; omega), if_pos (by intro q h; cases h), faultL, if_pos (by simp only; omega), if_pos (by simp only; omega), if_neg (fun h => by have := h _ rfl; simp only at this; omega)]
  | i + 4 =>
    show writesK [⟨(k : Int), d⟩] 16 = 1
    rw [writesK, if_pos (by simp), faultL, if_pos (by simp only; omega), if_neg (by simp only; omega)]
theorem bad_applied {us : List Itm} {cs : List Int} (g : GoodVol us cs) (hl : cs.length = 16) {k : Nat} {d : ByteArray} (hk : k < 16) (hd : d.size = 49) (i : Nat) : appliedR us cs (badW k d i) = ([], [], badE i) := by
  have hw := bad_writes hk hd i
  have hne : badE i ≠ 0 := by
    match i with
    | 0 => decide
    | 1 => decide
    | 2 => decide
    | 3 => decide
    | i + 4 => exact (by decide : (1 : Int) ≠ 0)
  rw [appliedR, if_pos (goodVB_yes g), hl]
  rw [show ((16 : Nat) : Int) = 16 from rfl, hw, if_neg hne]
end Go.Proofs.YtphbebcbbfbgpacDoor
