/- repo.Drop and saltcellarref.DroppedOf, and the law RepoDrops. -/
import Derived.Test.YtphbebcbbfbgpabDelete
namespace Go.Proofs.Ytphbebcbbfbgpab
open Go Go.RowKit

def dropL (ls : List Itm) (id : Int) : List Itm := (upRefs ls id (-1)).filter fun x => decide (0 < x.refs)
noncomputable def droppedR (ls : List Itm) (id : Int) : List Itm := if gotK ls id = 0 then dropL ls id else []
theorem dropL_set {ls : List Itm} {id : Int} {k : Nat} (g : Good ls) (hk : k < ls.length) (hid : ls[k].id = id) (h1 : ls[k].refs ≠ 1) : dropL ls id = ls.set k { ls[k] with refs := ls[k].refs - 1 } := by
  have hr := (g.2.ok _ (List.getElem_mem hk)).2.2.2.1
  rw [dropL, upRefs_set g hk hid, List.filter_eq_self.2]
  · rfl
  · intro x hx
    rcases List.mem_or_eq_of_mem_set hx with hx | rfl
    · have := (g.2.ok _ hx).2.2.2.1
      simp; omega
    · simp; omega
theorem dropL_erase {ls : List Itm} {id : Int} {k : Nat} (g : Good ls) (hk : k < ls.length) (hid : ls[k].id = id) (h1 : ls[k].refs = 1) : dropL ls id = ls.eraseIdx k := by
  have hall : ∀ l : List Itm, (∀ x ∈ l, x ∈ ls) → l.filter (fun x => decide (0 < x.refs)) = l := fun l h => List.filter_eq_self.2 fun x hx => by
    have := (g.2.ok _ (h x hx)).2.2.2.1
    simp; omega
  rw [dropL, upRefs_set g hk hid, List.set_eq_take_append_cons_drop, if_pos hk, List.filter_append, List.filter_cons_of_neg (by simp [h1]), hall _ (fun x hx => List.mem_of_mem_take hx), hall _ (fun x hx => List.mem_of_mem_drop hx), List.eraseIdx_eq_take_drop_succ]
theorem dropL_snoc (l : List Itm) (x : Itm) (id : Int) : dropL (l ++ [x]) id = dropL l id ++ dropL [x] id := by simp [dropL, upRefs]
theorem dropL_one (x : Itm) (id : Int) : dropL [x] id = if 0 < (if x.id = id then { x with refs := x.refs + -1 } else x).refs then [if x.id = id then { x with refs := x.refs + -1 } else x] else [] := by
  simp only [dropL, upRefs, List.map_cons, List.map_nil, List.filter_cons, List.filter_nil, decide_eq_true_eq]

set_option maxRecDepth 20000 in
set_option maxHeartbeats 2000000 in
theorem drop_any (A : Option Addr) (n c : Nat) (id : Int) (ls : List Itm) (w : World) (h : Rep w w.heap.size 3 Itm.cell A n ls) (hn : n ≤ maxLen) (hnil : A = none → n = 0 ∧ c = 0) :
    Calls Try.prog 11 #[.slice A n c, .int .i64 id] w (ItemsPost w (droppedR ls id) (gotK ls id)) := by
  have hc : ∀ W, Below w.heap.size w W → Calls Try.prog 32 #[.slice A n c, .int .i64 id] W fun e w' => GetPost ls id e ∧ Below W.heap.size W w' :=
    fun W hb => get_any A n c id ls W ((h.below hb (Nat.le_refl _)).mono hb.size) hn
  have HC := Lib.hid hc
  clear hc
  by_cases h0 : gotK ls id = 0
  · obtain ⟨hG, k, hk, hid, _, hR, hX⟩ := got_zero h0
    have h24 : n ≤ 24 := by have := h.1; have := hG.1; omega
    have hkn : k < n := by have := h.1; omega
    have hn1 := h.1
    have hcl : ∀ W, Below w.heap.size w W → Calls Try.prog 33 #[.slice A n c] W (OwnPost W 61 3 n (flat Itm.cell 3 ls)) :=
      fun W hb => cloneItems A n c ls W ((h.below hb (Nat.le_refl _)).mono hb.size) hnil (by omega)
    have HCL := Lib.hid hcl
    have hdr : droppedR ls id = dropL ls id := by rw [droppedR, if_pos h0]
    have hfs := flat_set ls k hk (ls[k].refs - 1)
    have hd1 := dropL_set hG hk hid
    have hd2 := dropL_erase hG hk hid
    obtain ⟨x, hx⟩ : ∃ x, ls[k] = x := ⟨_, rfl⟩
    have hrf := (hG.2.ok _ (List.getElem_mem hk)).2.2.2
    rw [hx] at hR hX hrf hfs hd1 hd2
    have HR := Lib.hid hR
    have HX := Lib.hid hx
    have HG := Lib.hid hG
    have HID := Lib.hid hid
    have H0 := Lib.hid h0
    have HN := Lib.hid hn1
    have HFS := Lib.hid hfs
    obtain ⟨xi, xd, xr⟩ := x
    dsimp only at hrf
    rw [hdr, h0]
    have s1 : IntKind.i64.wrap (xr - 1) = xr - 1 := IntWalk.i64_in _ (by omega)
    by_cases h1 : xr = 1
    · rw [hd2 h1]
      have d1 : ((xr - 1 : Int) == 0) = true := by simp [h1]
      clear hcl hX hR hx hG hid h0 hn1 h hnil hdr hd1 hd2 hfs
      have H1 := Lib.hid h1
      clear h1
      go_enter Try.func11, Try.ntmps11
      go_wp2_with fail
      refine (HC.out _ (Below.refl _ _)).mono ?_
      rintro e w1 ⟨he, hb1⟩
      rw [GetPost, H0.out, HR.out] at he
      subst he
      have HB1 : Hid (Below w.heap.size w (w1.alloc (.cells #[.int .i64 xi, .string xd, .int .i64 xr] 61))) := Lib.hid (hb1.alloc hb1.size _)
      clear hb1
      go_wp2_with fail
      refine (HCL.out _ HB1.out).mono ?_
      rintro e w2 ⟨A1, c1, rfl, hown, hb2, _, _, hn2⟩
      have HB2 := Lib.hid (HB1.out.trans (hb2.mono HB1.out.size))
      have hrep := Rep.of_own HN.out hown (Nat.le_refl _)
      have HREP := Lib.hid hrep
      have HOWN := Lib.hid (own_mono hown (base' := w.heap.size) HB1.out.size)
      clear hb2 hown hrep
      go_wp2_with fail
      refine (at_any A1 n c1 k id ls w2 HREP.out HG.out hk HID.out).mono ?_
      rintro e w3 ⟨rfl, hb3⟩
      obtain ⟨g, cap, hA, _, _⟩ := HOWN.out.form (by omega)
      simp only [Value.slice.injEq] at hA
      obtain ⟨rfl, _, rfl⟩ := hA
      have hown3 := own_below HOWN.out hb3
      have z2 := hown3.frozenAt (k * 3 + 2)
      obtain ⟨hbs, x0, x1, x2⟩ := items_of (k := k) (HREP.out.below hb3 (Nat.le_refl _)) hkn
      rw [HX.out] at x0 x1 x2
      have x2' : w3.cell? ⟨g, k * 3 + 2, none⟩ = some (.int .i64 xr) := by rw [← x2, Nat.zero_add]
      have HB3 := Lib.hid (HB2.out.trans (hb3.mono HB2.out.size))
      have hst := hown3.stored (k * 3 + 2) (.int .i64 (xr - 1))
      rw [HFS.out] at hst
      have HST := Lib.hid hst
      have HLO := Lib.hid (HOWN.out.lt g rfl).1
      clear hb3 hown3 x0 x1 hst
      go_wp2_with fail
      refine (delete_any g n c1 k w.heap.size _ _ HST.out.1 (by rw [List.length_set]; exact HN.out) hkn h24).mono ?_
      rintro e w4 ⟨rfl, hown4, hgr4⟩
      have HO4 := Lib.hid hown4
      have HB4 := Lib.hid ((HB3.out.grown HST.out.2 HB3.out.size (by intro j hj; cases hj; exact HLO.out)).grown hgr4 (by simp; exact HB3.out.size) (by intro j hj; cases hj; exact HLO.out))
      clear hown4 hgr4
      go_wp2
      go_ret2
      have he : (ls.set k ⟨xi, xd, xr - 1⟩).eraseIdx k = ls.eraseIdx k := by rw [List.eraseIdx_eq_take_drop_succ, List.eraseIdx_eq_take_drop_succ, List.take_set_of_le (Nat.le_refl k), List.drop_set_of_lt (by omega)]
      have ho := HO4.out
      rw [he] at ho
      exact ItemsPost.mk' (by rw [List.length_eraseIdx, if_pos hk, ← HN.out]) ho HB4.out
    · rw [hd1 h1]
      have d1 : ((xr - 1 : Int) == 0) = false := by rw [beq_eq_false_iff_ne]; omega
      clear hcl hX hR hx hG hid h0 hn1 h hnil hdr hd1 hd2 hfs
      have H1 := Lib.hid h1
      clear h1
      go_enter Try.func11, Try.ntmps11
      go_wp2_with fail
      refine (HC.out _ (Below.refl _ _)).mono ?_
      rintro e w1 ⟨he, hb1⟩
      rw [GetPost, H0.out, HR.out] at he
      subst he
      have HB1 : Hid (Below w.heap.size w (w1.alloc (.cells #[.int .i64 xi, .string xd, .int .i64 xr] 61))) := Lib.hid (hb1.alloc hb1.size _)
      clear hb1
      go_wp2_with fail
      refine (HCL.out _ HB1.out).mono ?_
      rintro e w2 ⟨A1, c1, rfl, hown, hb2, _, _, hn2⟩
      have HB2 := Lib.hid (HB1.out.trans (hb2.mono HB1.out.size))
      have hrep := Rep.of_own HN.out hown (Nat.le_refl _)
      have HREP := Lib.hid hrep
      have HOWN := Lib.hid (own_mono hown (base' := w.heap.size) HB1.out.size)
      clear hb2 hown hrep
      go_wp2_with fail
      refine (at_any A1 n c1 k id ls w2 HREP.out HG.out hk HID.out).mono ?_
      rintro e w3 ⟨rfl, hb3⟩
      obtain ⟨g, cap, hA, _, _⟩ := HOWN.out.form (by omega)
      simp only [Value.slice.injEq] at hA
      obtain ⟨rfl, _, rfl⟩ := hA
      have hown3 := own_below HOWN.out hb3
      have z2 := hown3.frozenAt (k * 3 + 2)
      obtain ⟨hbs, x0, x1, x2⟩ := items_of (k := k) (HREP.out.below hb3 (Nat.le_refl _)) hkn
      rw [HX.out] at x0 x1 x2
      have x2' : w3.cell? ⟨g, k * 3 + 2, none⟩ = some (.int .i64 xr) := by rw [← x2, Nat.zero_add]
      have HB3 := Lib.hid (HB2.out.trans (hb3.mono HB2.out.size))
      have hst := hown3.stored (k * 3 + 2) (.int .i64 (xr - 1))
      rw [HFS.out] at hst
      have HST := Lib.hid hst
      have HLO := Lib.hid (HOWN.out.lt g rfl).1
      clear hb3 hown3 x0 x1 hst
      go_wp2
      go_ret2
      exact ItemsPost.mk' (by rw [List.length_set]; exact HN.out) HST.out.1 (HB3.out.grown HST.out.2 HB3.out.size (by intro j hj; cases hj; exact HLO.out))
  · have hR' : droppedR ls id = [] := by rw [droppedR, if_neg h0]
    rw [hR']
    obtain ⟨x, y, hx, hy⟩ : ∃ x y, gotR ls id = x ∧ gotK ls id = y := ⟨_, _, rfl, rfl⟩
    rw [hy] at h0 ⊢
    have HX := Lib.hid hx
    have HY := Lib.hid hy
    have d0 : (y != 0) = true := by simp [h0]
    clear hR' hx hy h hnil h0
    go_enter Try.func11, Try.ntmps11
    go_wp2_with fail
    refine (HC.out _ (Below.refl _ _)).mono ?_
    rintro e w1 ⟨he, hb1⟩
    rw [GetPost, HX.out, HY.out] at he
    subst he
    have HB1 : Hid (Below w.heap.size w (w1.alloc (.cells #[.int .i64 x.id, .string x.data, .int .i64 x.refs] 61))) := Lib.hid (hb1.alloc hb1.size _)
    clear hb1
    go_wp2
    go_ret2
    exact ItemsPost.nil HB1.out

theorem own_slice' {w : World} {base : Nat} {e : TypeId} {size : Nat} {v : Value} {n : Nat} {xs : List Value} (h : w.ownsRow base e size v n xs) : ∃ A cap, v = .slice A n cap := by
  obtain ⟨A, c, h, _⟩ := own_form h
  exact ⟨A, c, h⟩
theorem itm_flat_one (x : Itm) : flat Itm.cell 3 [x] = [.int .i64 x.id, .string x.data, .int .i64 x.refs] := by
  rw [flat_one]; rfl

set_option maxRecDepth 20000 in
set_option maxHeartbeats 2000000 in
theorem dropped_any (A : Option Addr) (n c : Nat) (id : Int) (ls : List Itm) (w : World) (h : Rep w w.heap.size 3 Itm.cell A n ls) (hn : n ≤ maxLen) :
    Calls Try.prog 12 #[.slice A n c, .int .i64 id] w (ItemsPost w (droppedR ls id) (gotK ls id)) := by
  have hc : ∀ W, Below w.heap.size w W → Calls Try.prog 36 #[.slice A n c, .int .i64 id] W fun e w' => GetPost ls id e ∧ Below W.heap.size W w' :=
    fun W hb => gotOf_any A n c id ls W ((h.below hb (Nat.le_refl _)).mono hb.size) hn
  have HC := Lib.hid hc
  clear hc
  by_cases h0 : gotK ls id = 0
  · obtain ⟨hG, _⟩ := got_zero h0
    have h24 : n ≤ 24 := by have := h.1; have := hG.1; omega
    have hn1 := h.1
    have hdr : droppedR ls id = dropL ls id := by rw [droppedR, if_pos h0]
    have HREP := Lib.hid h
    have HG := Lib.hid hG
    have H0 := Lib.hid h0
    have HN := Lib.hid hn1
    obtain ⟨i0, hi, hz0, hz1, hz2⟩ := info_parts infoItem
    have HI := Lib.hid hi
    have HZ0 := Lib.hid hz0
    have HZ1 := Lib.hid hz1
    have HZ2 := Lib.hid hz2
    obtain ⟨r, hr⟩ : ∃ r, gotR ls id = r := ⟨_, rfl⟩
    have HR := Lib.hid hr
    rw [hdr, h0]
    clear hG h0 hn1 h hdr hi hz0 hz1 hz2 hr
    go_enter Try.func12, Try.ntmps12
    go_wp2_with fail
    refine (HC.out _ (Below.refl _ _)).mono ?_
    rintro e w1 ⟨he, hb1⟩
    rw [GetPost, H0.out, HR.out] at he
    subst he
    have HB1 : Hid (Below w.heap.size w (w1.alloc (.cells #[.int .i64 r.id, .string r.data, .int .i64 r.refs] 61))) := Lib.hid (hb1.alloc hb1.size _)
    clear hb1
    go_wp2
    go_loopw [8, 9] (fun v t wr => ∃ (i : Nat) (out : List Itm), i ≤ n ∧ out.length ≤ i ∧ t = .int .i64 i ∧ wr.ownsRow w.heap.size 61 3 v out.length (flat Itm.cell 3 out) ∧ Below w.heap.size w wr ∧ Hid (out = dropL (ls.take i) id)) (fun _ t _ => n - (intOf t).toNat)
    case atStart => exact ⟨0, [], by omega, Nat.le_refl _, rfl, World.ownsRow_nil _ _ _ _, HB1.out, Lib.hid (by rw [List.take_zero]; rfl)⟩
    case round =>
      obtain ⟨i, out, hin, hol, rfl, hown, hbel, hout⟩ := hrel
      have HO := Lib.hid hown
      have HB := Lib.hid hbel
      by_cases hlt : i < n
      · have hil : i < ls.length := by have := HN.out; omega
        obtain ⟨b, off, rfl, hb, c0, c1, c2⟩ := items_at (k := i) (HREP.out.below hbel (Nat.le_refl _)) hlt
        have hstep : dropL (ls.take (i + 1)) id = out ++ dropL [ls[i]] id := by rw [take_snoc ls i hil, dropL_snoc, hout.out]
        have hrf := (HG.out.2.ok _ (List.getElem_mem hil)).2.2.2
        rw [dropL_one] at hstep
        obtain ⟨x, hx⟩ : ∃ x, ls[i] = x := ⟨_, rfl⟩
        rw [hx] at c0 c1 c2 hstep hrf
        obtain ⟨xi, xd, xr⟩ := x
        dsimp only at c0 c1 c2 hrf hstep
        have HSTEP := Lib.hid hstep
        have s1 : IntKind.i64.wrap (xr - 1) = xr - 1 := IntWalk.i64_in _ (by omega)
        have HLT := Lib.hid (fun k hk => (HO.out.lt k hk).1)
        have HOA := Lib.hid (HO.out.alloc (.cells #[.int .i64 xi, .string xd, .int .i64 (xr - 1)] 61))
        have HBA := Lib.hid (HB.out.alloc HB.out.size (.cells #[.int .i64 xi, .string xd, .int .i64 (xr - 1)] 61))
        clear hx hown hbel hb hstep
        by_cases hid : xi = id
        · have d1 : (xi == id) = true := by simp [hid]
          by_cases h1 : 0 < xr - 1
          · have d2 : decide (xr - 1 > 0) = true := decide_eq_true h1
            have hnew : dropL (ls.take (i + 1)) id = out ++ [⟨xi, xd, xr - 1⟩] := by
              rw [HSTEP.out, if_pos hid]
              show out ++ (if 0 < xr + -1 then [_] else []) = _
              rw [if_pos (by omega)]; rfl
            have HNEW := Lib.hid hnew
            have HID := Lib.hid hid
            clear hid hnew
            go_wp2_with (at_builtin; refine wpList_append_own _ rfl (.tmp 41) (.tmp 43) 22 rfl w.heap.size 61 i0 _ 3 32 Try.underlying22 HI.out HZ0.out HZ1.out HZ2.out rfl (by decide) _ _ _ rfl (HOA.out.alloc _) ⟨wr.heap.size + 1, 0, none⟩ 1 1 [.int .i64 xi, .string xd, .int .i64 (xr - 1)] rfl rfl (World.news_of_block (cs := #[.int .i64 xi, .string xd, .int .i64 (xr - 1)]) (t := 61) (fr := (0, 0)) (by have := heap_alloc_new (wr.alloc (.cells #[.int .i64 xi, .string xd, .int .i64 (xr - 1)] 61)) (.cells #[.int .i64 xi, .string xd, .int .i64 (xr - 1)] 61); simpa using this)) (by simp [Value.oneCell']) (by unfold maxLen; omega) (by omega) (by have := HB.out.size; simp; omega) ?_; intro v' w2 hown2 hgr2 _)
            have HB2 := Lib.hid ((HBA.out.alloc HBA.out.size _).grown hgr2 (by have := HB.out.size; simp; omega) HLT.out)
            have ho2 : w2.ownsRow w.heap.size 61 3 v' (out ++ [(⟨xi, xd, xr - 1⟩ : Itm)]).length (flat Itm.cell 3 (out ++ [⟨xi, xd, xr - 1⟩])) := by
              rw [flat_append, itm_flat_one, List.length_append]; exact hown2
            clear hgr2 hown2
            go_wp2
            go_roundw
            case rel => exact ⟨i + 1, _, by omega, by rw [List.length_append]; simp; omega, by go_num, ho2, HB2.out, Lib.hid HNEW.out.symm⟩
            case measure => simp [intOf]; omega
          · have d2 : decide (xr - 1 > 0) = false := decide_eq_false h1
            have hnew : dropL (ls.take (i + 1)) id = out := by
              rw [HSTEP.out, if_pos hid]
              show out ++ (if 0 < xr + -1 then [_] else []) = _
              rw [if_neg (by omega), List.append_nil]
            have HNEW := Lib.hid hnew
            have HID := Lib.hid hid
            clear hid hnew
            go_wp2
            go_roundw
            case rel => exact ⟨i + 1, _, by omega, by omega, by go_num, HOA.out, HBA.out, Lib.hid HNEW.out.symm⟩
            case measure => simp [intOf]; omega
        · have d1 : (xi == id) = false := by simp [hid]
          have d2 : decide (xr > 0) = true := decide_eq_true (by omega)
          have hnew : dropL (ls.take (i + 1)) id = out ++ [⟨xi, xd, xr⟩] := by
            rw [HSTEP.out, if_neg hid]
            show out ++ (if 0 < xr then [_] else []) = _
            rw [if_pos (by omega)]
          have HNEW := Lib.hid hnew
          have HID := Lib.hid hid
          have HBC := Lib.hid (HB.out.alloc HB.out.size (.cells #[.int .i64 xi, .string xd, .int .i64 xr] 61))
          clear hid hnew
          go_wp2_with (at_builtin; refine wpList_append_own _ rfl (.tmp 41) (.tmp 43) 22 rfl w.heap.size 61 i0 _ 3 32 Try.underlying22 HI.out HZ0.out HZ1.out HZ2.out rfl (by decide) _ _ _ rfl ((HO.out.alloc _).alloc _) ⟨wr.heap.size + 1, 0, none⟩ 1 1 [.int .i64 xi, .string xd, .int .i64 xr] rfl rfl (World.news_of_block (cs := #[.int .i64 xi, .string xd, .int .i64 xr]) (t := 61) (fr := (0, 0)) (by have := heap_alloc_new (wr.alloc (.cells #[.int .i64 xi, .string xd, .int .i64 xr] 61)) (.cells #[.int .i64 xi, .string xd, .int .i64 xr] 61); simpa using this)) (by simp [Value.oneCell']) (by unfold maxLen; omega) (by omega) (by have := HB.out.size; simp; omega) ?_; intro v' w2 hown2 hgr2 _)
          have HB2 := Lib.hid ((HBC.out.alloc HBC.out.size _).grown hgr2 (by have := HB.out.size; simp; omega) HLT.out)
          have ho2 : w2.ownsRow w.heap.size 61 3 v' (out ++ [(⟨xi, xd, xr⟩ : Itm)]).length (flat Itm.cell 3 (out ++ [⟨xi, xd, xr⟩])) := by
            rw [flat_append, itm_flat_one, List.length_append]; exact hown2
          clear hgr2 hown2
          go_wp2
          go_roundw
          case rel => exact ⟨i + 1, _, by omega, by rw [List.length_append]; simp; omega, by go_num, ho2, HB2.out, Lib.hid HNEW.out.symm⟩
          case measure => simp [intOf]; omega
      · have hfin : out = dropL ls id := by rw [hout.out, List.take_of_length_le (by have := HN.out; omega)]
        have HFIN := Lib.hid hfin
        have hwr := own_slice' hown
        clear hfin hbel hown
        obtain ⟨A1, c1, rfl⟩ := hwr
        go_wp2
        go_ret2
        rw [← HFIN.out]
        exact ItemsPost.mk' rfl HO.out HB.out
  · have hR' : droppedR ls id = [] := by rw [droppedR, if_neg h0]
    rw [hR']
    obtain ⟨x, y, hx, hy⟩ : ∃ x y, gotR ls id = x ∧ gotK ls id = y := ⟨_, _, rfl, rfl⟩
    rw [hy] at h0 ⊢
    have HX := Lib.hid hx
    have HY := Lib.hid hy
    have d0 : (y != 0) = true := by simp [h0]
    clear hR' hx hy h h0
    go_enter Try.func12, Try.ntmps12
    go_wp2_with fail
    refine (HC.out _ (Below.refl _ _)).mono ?_
    rintro e w1 ⟨he, hb1⟩
    rw [GetPost, HX.out, HY.out] at he
    subst he
    have HB1 : Hid (Below w.heap.size w (w1.alloc (.cells #[.int .i64 x.id, .string x.data, .int .i64 x.refs] 61))) := Lib.hid (hb1.alloc hb1.size _)
    clear hb1
    go_wp2
    go_ret2
    exact ItemsPost.nil HB1.out
end Go.Proofs.Ytphbebcbbfbgpab
