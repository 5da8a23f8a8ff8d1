/- slices.Insert of one item: the arm with room. repo.Keep. A volume that a call changes in a block of its own: what stands there, and how it is kept. volume.Apply. -/
import Derived.Test.YtphbebcbbfbgpacDoorInsertGrow
import Derived.Lib.Overlaps
import Derived.Test.YtphbebcbbfbgpacDoorKept
import Derived.Test.YtphbebcbbfbgpacDoorPlainBad
import Derived.Test.YtphbebcbbfbgpacDoorSame
import Derived.Test.YtphbebcbbfbgpacDoorPressRun
namespace Go.Proofs.YtphbebcbbfbgpacDoor
open Go Go.RowKit
set_option linter.unusedSimpArgs false
set_option linter.unusedVariables false

theorem room_list {α : Type} (ys L D X : List α) (a m k : Nat) (hy : ys.take m = L) (hl : ys.length ≤ a + k + D.length) (ha : a ≤ m) (hm : m ≤ ys.length) (hx : X.length = k) (hak : a + k ≤ ys.length) :
    (ys.take (a + k) ++ D ++ ys.drop (a + k + D.length)).take a ++ X ++ (ys.take (a + k) ++ D ++ ys.drop (a + k + D.length)).drop (a + X.length) = L.take a ++ X ++ D := by
  rw [List.drop_of_length_le hl, List.append_nil, List.take_append_of_le_length (by rw [List.length_take]; omega), List.take_take, Nat.min_eq_left (by omega), hx,
    List.drop_append_of_le_length (by rw [List.length_take]; omega), List.drop_of_length_le (l := ys.take (a + k)) (by rw [List.length_take]; omega), List.nil_append, ← hy, List.take_take, Nat.min_eq_left ha]

set_option maxRecDepth 20000 in
set_option maxHeartbeats 2000000 in
theorem insert_room (g n cap i b base : Nat) (ls : List Itm) (x : Itm) (w : World) (h : w.ownsRow base 42 3 (.slice (some ⟨g, 0, none⟩) n cap) n (flat Itm.cell 3 ls)) (hn : n = ls.length) (h24 : n ≤ 24) (hi : i < n) (hcap : n + 1 ≤ cap) (hbase : base ≤ w.heap.size) (hgb : g ≠ b)
    (hb : w.heap[b]? = some (.cells #[.int .i64 x.id, .string x.data, .int .i64 x.refs] 42 (0, 0))) :
    Calls Tryd.prog 49 #[.slice (some ⟨g, 0, none⟩) n cap, .int .i64 i, .slice (some ⟨b, 0, none⟩) 1 1] w fun e w' =>
      ∃ A c, e = .returned (.slice A (n + 1) c) ∧ w'.ownsRow base 42 3 (.slice A (n + 1) c) (n + 1) (flat Itm.cell 3 (ls.take i ++ [x] ++ ls.drop i)) ∧ Below base w w' := by
  have hov : (callFunc 75 #[.slice (some ⟨b, 0, none⟩) 1 1, .slice (some ⟨g, (i + 1) * 3, none⟩) (n - i) (cap - (i + 1))]).run Tryd.prog w = .ok (.value (.bool false)) w := by
    rw [run_callFunc_extern Tryd.func75 (by kernel_rfl) (by kernel_rfl) (by kernel_rfl) (e := Extern.SlicesOverlaps.overlaps #[27, 27] #[4]) (by kernel_rfl)]
    obtain ⟨cur, hg⟩ : ∃ cur, w.heap[g]? = some (.cells cur 42 (0, 0)) ∧ cur.size ≠ 0 := by
      rcases h.2 with ⟨h', _⟩ | ⟨g', cap', cur, h', _, hg, hnc, _, hcs, _⟩
      · simp at h'
      · simp only [Value.slice.injEq, Option.some.injEq, Addr.mk.injEq, and_true, true_and] at h'
        obtain ⟨rfl, rfl⟩ := h'
        exact ⟨cur, hg, by omega⟩
    rw [Lib.run_overlaps_apart w 27 4 42 Tryd.underlying27 3 Tryd.sizeOf42 ⟨b, 0, none⟩ ⟨g, (i + 1) * 3, none⟩ 1 1 (n - i) (cap - (i + 1)) (fun e => hgb e.symm) 42 42 3 cur.size (by simp [World.shape?, hb]) (by simp [World.shape?, hg.1]) hg.2 (by simp [World.frozen?, hb]) (by simp [World.frozen?, hb])]
    rfl
  obtain ⟨i0, hi0, hz0, hz1, hz2⟩ := info_parts infoItem
  have hl0 : (flat Itm.cell 3 ls).length = n * 3 := by rw [flat_length, hn]
  have hdl : (flat Itm.cell 3 (ls.drop i)).length = (n - i) * 3 := by rw [flat_length, List.length_drop, hn]
  obtain ⟨ys, hys, hlong⟩ := own_longer h (n' := n + 1) (by omega) hcap
  have hyl := hlong.1
  obtain ⟨w2, hcp1, hown2, hgr2⟩ := copy_own (P := Tryd.prog) (w := w.drew) (dT := 27) (sT := 27) (ty := 3) hlong.drew ((i + 1) * 3) (n - i) (cap - (i + 1)) ⟨g, i * 3, none⟩ (n + 1 - i) (cap - i) (flat Itm.cell 3 (ls.drop i)) (n - i) Tryd.underlying27 hi0 hz1
    (by show n - i = min (n + 1 - i) (n - i); omega) hdl
    (by
      intro j u hj
      have hjl := (List.getElem?_eq_some_iff.1 hj).1
      rw [hdl] at hjl
      rw [Addr.add_lit]
      show w.cell? ⟨g, i * 3 + j, none⟩ = some u
      rw [h.cellAt _ (by omega), ← hj, ← flat_drop, List.getElem?_drop])
    (by rw [hdl]; omega) (itm_one _)
  have hb3 : w2.heap[b]? = some (.cells #[.int .i64 x.id, .string x.data, .int .i64 x.refs] 42 (0, 0)) := by
    obtain ⟨_, _, _, _, a5⟩ := hgr2
    rw [← hb]; exact a5 b (Array.getElem?_eq_some_iff.1 hb).1 (by simp; exact fun e => hgb e.symm)
  obtain ⟨w3, hcp2, hown3, hgr3⟩ := copy_own (P := Tryd.prog) (dT := 27) (sT := 27) (ty := 3) hown2 (i * 3) (n + 1 - i) (cap - i) ⟨b, 0, none⟩ 1 1 [.int .i64 x.id, .string x.data, .int .i64 x.refs] 1 Tryd.underlying27 hi0 hz1 (by show 1 = min 1 (n + 1 - i); omega) rfl
    (World.news_of_block (cs := #[.int .i64 x.id, .string x.data, .int .i64 x.refs]) hb3) (by simp; omega) (by simp [Value.oneCell'])
  have hlist := room_list ys (flat Itm.cell 3 ls) (flat Itm.cell 3 (ls.drop i)) [.int .i64 x.id, .string x.data, .int .i64 x.refs] (i * 3) (n * 3) 3 hys (by rw [hdl]; omega) (by omega) (by omega) rfl (by omega)
  rw [show i * 3 + 3 = (i + 1) * 3 from by omega, flat_take] at hlist
  rw [hlist] at hown3
  have HO3 := Lib.hid hown3
  have HGR2 := Lib.hid hgr2
  have HGR3 := Lib.hid hgr3
  have HLO := Lib.hid (h.lt g rfl).1
  have d1 : ((i : Int) == (n : Int)) = false := by rw [beq_eq_false_iff_ne]; omega
  have d2 : decide ((n : Int) + 1 > (cap : Int)) = false := decide_eq_false (by omega)
  have hcm2 : cap ≤ 9223372036854775807 := by
    obtain ⟨_, _, he, _, hcm, _⟩ := own_form h
    simp only [Value.slice.injEq, true_and] at he
    obtain ⟨_, rfl⟩ := he
    exact hcm
  have hne1 : ¬ cap = i := by omega
  have hne2 : ¬ cap = i + 1 := by omega
  have b1 : (0 : Int) ≤ (i : Int) := by omega
  have b2 : (i : Int) ≤ (n : Int) := by omega
  have b3 : (0 : Int) ≤ (i : Int) + 1 := by omega
  have b4 : (i : Int) + 1 ≤ (n : Int) + 1 := by omega
  clear h hb hn hlong hys hown2 hgr2 hb3 hown3 hgr3 hlist hl0 hdl hyl hi0 hz0 hz1 hz2
  go_enter Tryd.func49, Tryd.ntmps49
  go_wp2
  go_region
  go_wp2
  go_ret
  refine ⟨_, cap, rfl, ?_, ?_⟩
  · rw [flat_append, flat_append, itm_flat_1]; exact HO3.out
  · exact (((Below.refl base w).drew).grown HGR2.out hbase (by intro k hk; cases hk; exact HLO.out)).grown HGR3.out (by have := HGR2.out.size; have := hbase; simp at *; omega) (by intro k hk; cases hk; exact HLO.out)
end Go.Proofs.YtphbebcbbfbgpacDoor

namespace Go.Proofs.YtphbebcbbfbgpacDoor
open Go Go.RowKit

theorem insert_any (v0 : Value) (n i b base : Nat) (ls : List Itm) (x : Itm) (w : World) (h : w.ownsRow base 42 3 v0 n (flat Itm.cell 3 ls)) (hn : n = ls.length) (h24 : n ≤ 24) (hi : i ≤ n) (hbase : base ≤ w.heap.size)
    (hgb : ∀ g cap, v0 = .slice (some ⟨g, 0, none⟩) n cap → g ≠ b) (hb : w.heap[b]? = some (.cells #[.int .i64 x.id, .string x.data, .int .i64 x.refs] 42 (0, 0))) :
    Calls Tryd.prog 49 #[v0, .int .i64 i, .slice (some ⟨b, 0, none⟩) 1 1] w fun e w' =>
      ∃ A c, e = .returned (.slice A (n + 1) c) ∧ w'.ownsRow base 42 3 (.slice A (n + 1) c) (n + 1) (flat Itm.cell 3 (ls.take i ++ [x] ++ ls.drop i)) ∧ Below base w w' := by
  by_cases hin : i = n
  · subst hin
    refine (insert_last v0 i b base ls x w h hn h24 hbase hb).mono ?_
    rintro e w' ⟨A, c, he, ho, hbe⟩
    refine ⟨A, c, he, ?_, hbe⟩
    rw [List.take_of_length_le (by omega), List.drop_of_length_le (by omega), List.append_nil]
    exact ho
  · have hlt : i < n := by omega
    obtain ⟨g, cap, rfl, _, _⟩ := h.form (by omega)
    have hnc : n ≤ cap := by
      obtain ⟨_, _, he, hle, _⟩ := own_form h
      simp only [Value.slice.injEq] at he
      obtain ⟨_, _, rfl⟩ := he
      exact hle
    by_cases hc : cap < n + 1
    · exact insert_grow g n cap i b base ls x w h hn h24 hlt hc hnc hbase hb
    · exact insert_room g n cap i b base ls x w h hn h24 hlt (by omega) hbase (hgb g cap rfl) hb

structure StrBox (w : World) (d : ByteArray) (W : World) : Prop where
  a0 : W.cell? ⟨w.heap.size, 0, none⟩ = some (.string d)
  sz : w.heap.size < W.heap.size
  be : Below w.heap.size w W
theorem StrBox.step {w W W' : World} {d : ByteArray} (h : StrBox w d W) (hb : Below W.heap.size W W') : StrBox w d W' where
  a0 := (hb.cell h.sz).trans h.a0
  sz := Nat.lt_of_lt_of_le h.sz hb.size
  be := h.be.trans (hb.mono h.be.size)
theorem own_len {w : World} {base : Nat} {e : TypeId} {v : Value} {n : Nat} {xs : List Value} (h : w.ownsRow base e 3 v n xs) : xs.length = n * 3 := h.1

set_option maxRecDepth 20000 in
set_option maxHeartbeats 4000000 in
theorem keep_any (A : Option Addr) (n c : Nat) (d : ByteArray) (ls : List Itm) (w : World) (h : Rep w w.heap.size 3 Itm.cell A n ls) (hn : n ≤ maxLen) (hnil : A = none → n = 0 ∧ c = 0) (hd64 : d.size ≤ maxLen) :
    Calls Tryd.prog 22 #[.slice A n c, .string d] w (KeepPost w (keptR ls d)) := by
  have hmf : ∀ (fn : Fn) (first cap : Array Value) (w : World), (Instr.makeFunc fn first cap).run Tryd.prog w = .ok (.func fn first cap) w := fun _ _ _ _ => rfl
  have hc : ∀ W, Below w.heap.size w W → Calls Tryd.prog 29 #[.slice A n c] W fun e w' => CheckPost ls e ∧ Below W.heap.size W w' :=
    fun W hb => check_any A n c ls W ((h.below hb (Nat.le_refl _)).mono hb.size) hn
  have HC := Lib.hid hc
  have HREP := Lib.hid h
  have hn1 := h.1
  have HN := Lib.hid hn1
  have hd2 : d.size ≤ 9223372036854775807 := hd64
  have hbx : StrBox w d (w.alloc (.cells #[.string d] 9)) := by
    refine ⟨by simp [go_sem], by simp, (Below.refl _ _).alloc (Nat.le_refl _) _⟩
  have HBX := Lib.hid hbx
  clear hc hd64 hbx
  cases hg : goodB ls with
  | false =>
    have E1 := Lib.hid (show goodN ls = 7 by rw [goodN_eq, hg]; rfl)
    have E2 := Lib.hid (kept_bad d hg)
    clear hg h hn1
    go_enter Tryd.func22, Tryd.ntmps22
    go_wp2_with fail
    refine (HC.out _ HBX.out.be).mono ?_
    rintro e w1 ⟨he, hb1⟩
    rw [CheckPost, E1.out] at he
    subst he
    have HB1 := Lib.hid (HBX.out.step hb1).be
    clear hb1
    go_wp2
    refine bodyPost_ret (v := .tuple #[.slice none 0 0, .int .i64 0, .int .i64 7]) (by simp [results, Tryd.results22, go_sem]) rfl ?_
    exact KeepPost.nil E2.out HB1.out
  | true =>
    have hG := good_of_B hg
    have HG := Lib.hid hG
    have E1 := Lib.hid (show goodN ls = 0 by rw [goodN_eq, hg]; rfl)
    have h24 : n ≤ 24 := by have := hG.1; omega
    by_cases hd : d.size ≤ 48
    · have d48 : decide ((d.size : Int) > 48) = false := decide_eq_false (by omega)
      have hcl : ∀ W, Below w.heap.size w W → Calls Tryd.prog 46 #[.slice A n c] W (OwnPost W 42 3 n (flat Itm.cell 3 ls)) :=
        fun W hb => cloneItems A n c ls W ((h.below hb (Nat.le_refl _)).mono hb.size) hnil (by omega)
      have HCL := Lib.hid hcl
      have hix : ∀ (A1 : Option Addr) (c1 : Nat) (W : World), Rep W W.heap.size 3 Itm.cell A1 n ls → StrBox w d W → Calls Tryd.prog 47 #[.slice A1 n c1, .func (.func 48) #[] #[.pointer (some ⟨w.heap.size, 0, none⟩)]] W
          fun e w' => e = .returned (.int .i64 (firstIx (fun x => decide (x.data = d)) ls)) ∧ Below W.heap.size W w' :=
        fun A1 c1 W hr hbx => index_any 48 #[.pointer (some ⟨w.heap.size, 0, none⟩)] (fun x => decide (x.data = d)) A1 n c1 ls W hr h24 (enters_of Tryd.func48 rfl rfl)
          (fun x _ W' hb' => keep1_any x d w.heap.size W' (hbx.step hb').a0 (hbx.step hb').sz)
      have HIX := Lib.hid hix
      cases hfx : ls.findIdx? (fun x => decide (x.data = d)) with
      | some k =>
        have hfi : firstIx (fun x => decide (x.data = d)) ls = k := by rw [firstIx, hfx]
        rw [hfi] at hix
        have HIX2 := Lib.hid hix
        obtain ⟨hk, hkd, _⟩ := List.findIdx?_eq_some_iff_getElem.1 hfx
        have hkn : k < n := by omega
        have hfs := flat_set ls k hk (ls[k].refs + 1)
        have hrf := (hG.2.ok _ (List.getElem_mem hk)).2.2.2
        have hup : ls[k].refs ≠ 32 → keptR ls d = (ls.set k { ls[k] with refs := ls[k].refs + 1 }, ls[k].id, 0) := kept_up hg hd hfx hk
        have hfull : ls[k].refs = 32 → keptR ls d = ([], 0, 1) := kept_full hg hd hfx hk
        obtain ⟨x, hx⟩ : ∃ x, ls[k] = x := ⟨_, rfl⟩
        rw [hx] at hfs hrf hup hfull
        have HX := Lib.hid hx
        have HFS := Lib.hid hfs
        have HUP := Lib.hid hup
        have HFULL := Lib.hid hfull
        have hk0 : decide ((k : Int) ≥ 0) = true := decide_eq_true (by omega)
        clear hg h hn1 hG hd hfx hx hfs hup hfull hcl hix hfi hkd HIX hnil
        obtain ⟨xi, xd, xr⟩ := x
        dsimp only at hrf HFS HUP HFULL
        go_enter Tryd.func22, Tryd.ntmps22
        go_wp2_with fail
        refine (HC.out _ HBX.out.be).mono ?_
        rintro e w1 ⟨he, hb1⟩
        rw [CheckPost, E1.out] at he
        subst he
        have HB1 := Lib.hid (HBX.out.step hb1)
        have a1 := HB1.out.a0
        clear hb1
        go_wp2_with fail
        refine (HCL.out _ HB1.out.be).mono ?_
        rintro e w2 ⟨A1, c1, rfl, hown, hb2, _, _, hn2⟩
        have HB2 := Lib.hid (HB1.out.step hb2)
        have hrep := Rep.of_own HN.out hown (Nat.le_refl _)
        have HR2 := Lib.hid hrep
        have HO2 := Lib.hid (own_mono hown (base' := w.heap.size) HB1.out.be.size)
        clear hb2 hown hrep a1
        go_wp2_with fail
        refine (HIX2.out A1 c1 _ HR2.out HB2.out).mono ?_
        rintro e w3 ⟨rfl, hb3⟩
        obtain ⟨g, cap, hA, _, _⟩ := HO2.out.form (by omega)
        simp only [Value.slice.injEq] at hA
        obtain ⟨rfl, _, rfl⟩ := hA
        have hown3 := own_below HO2.out hb3
        have z2 := hown3.frozenAt (k * 3 + 2)
        obtain ⟨hbs, x0, x1, x2⟩ := items_of (k := k) (HR2.out.below hb3 (Nat.le_refl _)) hkn
        rw [HX.out] at x0 x1 x2
        have x2' : w3.cell? ⟨g, k * 3 + 2, none⟩ = some (.int .i64 xr) := by rw [← x2, Nat.zero_add]
        have x0' : w3.cell? ⟨g, k * 3, none⟩ = some (.int .i64 xi) := by rw [← x0, Nat.zero_add]
        have HB3 := Lib.hid (HB2.out.step hb3).be
        have hst := hown3.stored (k * 3 + 2) (.int .i64 (xr + 1))
        rw [HFS.out] at hst
        have HST := Lib.hid hst
        have HLO := Lib.hid (HO2.out.lt g rfl).1
        clear hb3 hown3 x0 x1 hst
        by_cases h32 : xr = 32
        · have d32 : (xr == 32) = true := by simp [h32]
          have HKR := Lib.hid (HFULL.out h32)
          clear h32
          go_wp2
          refine bodyPost_ret (v := .tuple #[.slice none 0 0, .int .i64 0, .int .i64 1]) (by simp [results, Tryd.results22, go_sem]) rfl ?_
          exact KeepPost.nil HKR.out HB3.out
        · have d32 : (xr == 32) = false := by simp [h32]
          have HKR := Lib.hid (HUP.out h32)
          clear h32
          go_wp2
          go_quiet (fail)
          go_wp2
          refine bodyPost_ret (v := .tuple #[.slice (some ⟨g, 0, none⟩) n c1, .int .i64 xi, .int .i64 0]) (by simp [results, Tryd.results22, go_sem]) rfl ?_
          exact KeepPost.mk' HKR.out (by rw [List.length_set]; exact HN.out) (own_below HST.out.1 (below_drewN (Below.refl _ _) _)) (below_drewN (HB3.out.grown HST.out.2 HB3.out.size (by intro j hj; cases hj; exact HLO.out)) _)
      | none =>
        have hfi : firstIx (fun x => decide (x.data = d)) ls = -1 := by rw [firstIx, hfx]
        rw [hfi] at hix
        have HIX2 := Lib.hid hix
        obtain ⟨hf1, hf2, hf3⟩ := freeIx_spec ls
        have hnew : freeIx ls < 24 → keptR ls d = (ls.take (freeIx ls) ++ [⟨freeIx ls, d, 1⟩] ++ ls.drop (freeIx ls), ((freeIx ls : Nat) : Int), 0) := kept_new hg hd hfx
        have hno : ¬ freeIx ls < 24 → keptR ls d = ([], 0, 1) := kept_no hg hd hfx
        obtain ⟨f, hf⟩ : ∃ f, freeIx ls = f := ⟨_, rfl⟩
        rw [hf] at hf1 hf2 hnew hno
        have hf3' : ∀ h : f < ls.length, ls[f].id ≠ (f : Int) := by subst hf; exact hf3
        have hfn : f ≤ n := by omega
        have HF2 := Lib.hid hf2
        have HF3 := Lib.hid hf3'
        have HNEW := Lib.hid hnew
        have HNO := Lib.hid hno
        have dm1 : decide ((-1 : Int) ≥ 0) = false := rfl
        clear hg h hn1 hG hd hfx hcl hix hfi HIX hnil hf1 hf2 hf3 hf3' hnew hno hf
        go_enter Tryd.func22, Tryd.ntmps22
        go_wp2_with fail
        refine (HC.out _ HBX.out.be).mono ?_
        rintro e w1 ⟨he, hb1⟩
        rw [CheckPost, E1.out] at he
        subst he
        have HB1 := Lib.hid (HBX.out.step hb1)
        have a1 := HB1.out.a0
        clear hb1
        go_wp2_with fail
        refine (HCL.out _ HB1.out.be).mono ?_
        rintro e w2 ⟨A1, c1, rfl, hown, hb2, _, _, hn2⟩
        have HB2 := Lib.hid (HB1.out.step hb2)
        have hrep := Rep.of_own HN.out hown (Nat.le_refl _)
        have HR2 := Lib.hid hrep
        have HO2 := Lib.hid (own_mono hown (base' := w.heap.size) HB1.out.be.size)
        have HLT2 := Lib.hid (fun g hg => (hown.lt g hg).2)
        clear hb2 hown hrep a1
        go_wp2_with fail
        refine (HIX2.out A1 c1 _ HR2.out HB2.out).mono ?_
        rintro e w3 ⟨rfl, hb3⟩
        have HB3 := Lib.hid (HB2.out.step hb3)
        have HR3 := Lib.hid (HR2.out.below hb3 (Nat.le_refl _))
        have HO3 := Lib.hid (own_below HO2.out hb3)
        clear hb3
        go_wp2
        go_loop [10] (fun t => ∃ j : Nat, j ≤ f ∧ t = .int .i64 j) (fun t => f - (intOf t).toNat)
        case atStart => exact ⟨0, Nat.zero_le _, rfl⟩
        case round =>
          obtain ⟨j, hj, rfl⟩ := hrel
          by_cases hjf : j < f
          · have hjl : j < ls.length := by have := HN.out; omega
            obtain ⟨b, off, rfl, _, c0, _, _⟩ := items_at (k := j) HR3.out (by omega)
            rw [HF2.out j hjf hjl] at c0
            have dl : decide ((j : Int) < (n : Int)) = true := decide_eq_true (by omega)
            go_wp2
            go_round
            case rel => exact ⟨j + 1, by omega, by go_num⟩
            case measure => simp [intOf]; omega
          · obtain rfl : j = f := by omega
            have hins : ∀ W : World, W.ownsRow w.heap.size 42 3 (.slice A1 n c1) n (flat Itm.cell 3 ls) → w.heap.size ≤ W.heap.size → (∀ g cap, (Value.slice A1 n c1) = .slice (some ⟨g, 0, none⟩) n cap → g ≠ W.heap.size) →
                Calls Tryd.prog 49 #[.slice A1 n c1, .int .i64 j, .slice (some ⟨W.heap.size, 0, none⟩) 1 1] (W.alloc (.cells #[.int .i64 j, .string d, .int .i64 1] 42)) fun e w' =>
                  ∃ A c, e = .returned (.slice A (n + 1) c) ∧ w'.ownsRow w.heap.size 42 3 (.slice A (n + 1) c) (n + 1) (flat Itm.cell 3 (ls.take j ++ [⟨j, d, 1⟩] ++ ls.drop j)) ∧ Below w.heap.size (W.alloc (.cells #[.int .i64 j, .string d, .int .i64 1] 42)) w' :=
              fun W ho hb hne => insert_any _ n j W.heap.size w.heap.size ls ⟨j, d, 1⟩ _ (ho.alloc _) HN.out h24 hfn (by simp; omega) hne (heap_alloc_new W _)
            have HINS := Lib.hid hins
            clear hins
            have a3 := HB3.out.a0
            have hne2 : ∀ (W : World), w3.heap.size ≤ W.heap.size → ∀ g cap, (Value.slice A1 n c1) = .slice (some ⟨g, 0, none⟩) n cap → g ≠ W.heap.size := by
              intro W hW g cap e1 e2
              have := (HO3.out.lt g (by rw [e1]; rfl)).2
              omega
            have HNE2 := Lib.hid hne2
            clear hne2
            by_cases h24f : j < 24
            · have HKR := Lib.hid (HNEW.out h24f)
              have d24 : ((j : Int) == 24) = false := by rw [beq_eq_false_iff_ne]; omega
              by_cases hjn : j < n
              · have hjl : j < ls.length := by have := HN.out; omega
                obtain ⟨b, off, rfl, _, c0, _, _⟩ := items_at (k := j) HR3.out hjn
                have hne := HF3.out hjl
                obtain ⟨y, hy⟩ : ∃ y, (ls[j]'hjl).id = y := ⟨_, rfl⟩
                rw [hy] at c0 hne
                have dn : (y == (j : Int)) = false := by rw [beq_eq_false_iff_ne]; exact hne
                have dl : decide ((j : Int) < (n : Int)) = true := decide_eq_true (by omega)
                clear hy hne
                go_wp2_with fail
                refine (HINS.out w3 HO3.out HB3.out.be.size (HNE2.out w3 (Nat.le_refl _))).mono ?_
                rintro e w4 ⟨A4, c4, rfl, hown4, hb4⟩
                have HO4 := Lib.hid hown4
                have HB4 := Lib.hid ((HB3.out.be.alloc HB3.out.be.size _).trans hb4)
                clear hown4 hb4
                go_wp2
                refine bodyPost_ret (v := .tuple #[.slice A4 (n + 1) c4, .int .i64 j, .int .i64 0]) (by simp [results, Tryd.results22, go_sem]) rfl ?_
                exact KeepPost.mk' HKR.out (by rw [List.length_append, List.length_append, List.length_take, List.length_drop, List.length_singleton]; have := HN.out; omega) HO4.out HB4.out
              · have dl : decide ((j : Int) < (n : Int)) = false := decide_eq_false (by omega)
                go_wp2_with fail
                refine (HINS.out w3 HO3.out HB3.out.be.size (HNE2.out w3 (Nat.le_refl _))).mono ?_
                rintro e w4 ⟨A4, c4, rfl, hown4, hb4⟩
                have HO4 := Lib.hid hown4
                have HB4 := Lib.hid ((HB3.out.be.alloc HB3.out.be.size _).trans hb4)
                clear hown4 hb4
                go_wp2
                refine bodyPost_ret (v := .tuple #[.slice A4 (n + 1) c4, .int .i64 j, .int .i64 0]) (by simp [results, Tryd.results22, go_sem]) rfl ?_
                exact KeepPost.mk' HKR.out (by rw [List.length_append, List.length_append, List.length_take, List.length_drop, List.length_singleton]; have := HN.out; omega) HO4.out HB4.out
            · have HKR := Lib.hid (HNO.out h24f)
              have d24 : ((j : Int) == 24) = true := by rw [beq_iff_eq]; omega
              have dl : decide ((j : Int) < (n : Int)) = false := decide_eq_false (by omega)
              go_wp2
              refine bodyPost_ret (v := .tuple #[.slice none 0 0, .int .i64 0, .int .i64 1]) (by simp [results, Tryd.results22, go_sem]) rfl ?_
              exact KeepPost.nil HKR.out HB3.out.be
    · have d48 : decide ((d.size : Int) > 48) = true := decide_eq_true (by omega)
      have E2 := Lib.hid (kept_long hg hd)
      clear hg h hn1 hG hd
      go_enter Tryd.func22, Tryd.ntmps22
      go_wp2_with fail
      refine (HC.out _ HBX.out.be).mono ?_
      rintro e w1 ⟨he, hb1⟩
      rw [CheckPost, E1.out] at he
      subst he
      have HB1 := Lib.hid (HBX.out.step hb1)
      have a1 := HB1.out.a0
      clear hb1
      go_wp2
      refine bodyPost_ret (v := .tuple #[.slice none 0 0, .int .i64 0, .int .i64 1]) (by simp [results, Tryd.results22, go_sem]) rfl ?_
      exact KeepPost.nil E2.out HB1.out.be
end Go.Proofs.YtphbebcbbfbgpacDoor

namespace Go.Proofs.YtphbebcbbfbgpacDoor
open Go Go.RowKit

theorem flat_int_set (bs : List Int) (k : Nat) (v : Int) : (flat intCell 1 bs).set k (.int .i64 v) = flat intCell 1 (bs.set k v) := by
  have e : ∀ l : List Int, flat intCell 1 l = l.map (fun b => Value.int .i64 b) := fun l => by
    induction l with
    | nil => rfl
    | cons b l ih => rw [flat_cons, ih]; rfl
  rw [e, e, List.map_set]
theorem own_setCell_other {w : World} {base : Nat} {e : TypeId} {size : Nat} {v : Value} {n : Nat} {xs : List Value} (h : w.ownsRow base e size v n xs) {p : Addr} (hp : ∀ g, v.ownBlock = some g → g ≠ p.block) (u : Value) : (w.setCell p u).ownsRow base e size v n xs :=
  h.kept (row := some p.block) ⟨rfl, rfl, rfl, by simp [World.setCell], fun k hk hne => Below.heap_setCell _ _ _ _ (fun e => hne (by rw [e]))⟩ (by
    cases hv : v.ownBlock with
    | none => exact .inl rfl
    | some g => exact .inr (fun e => hp g hv (by simpa using e)))
/-- rows of two types lie in two blocks -/
theorem own_apart {w : World} {b1 b2 : Nat} {e1 e2 : TypeId} {s1 s2 : Nat} {v1 v2 : Value} {n1 n2 : Nat} {x1 x2 : List Value} (h1 : w.ownsRow b1 e1 s1 v1 n1 x1) (h2 : w.ownsRow b2 e2 s2 v2 n2 x2) (he : e1 ≠ e2) : ∀ g1 g2, v1.ownBlock = some g1 → v2.ownBlock = some g2 → g1 ≠ g2 := by
  intro g1 g2 hg1 hg2 e
  subst e
  rcases h1.2 with ⟨rfl, _⟩ | ⟨k1, c1, cur1, rfl, _, hh1, _⟩
  · simp [Value.ownBlock] at hg1
  rcases h2.2 with ⟨rfl, _⟩ | ⟨k2, c2, cur2, rfl, _, hh2, _⟩
  · simp [Value.ownBlock] at hg2
  simp only [Value.ownBlock, Option.some.injEq] at hg1 hg2
  subst hg1 hg2
  rw [hh1] at hh2
  simp only [Option.some.injEq, Obj.cells.injEq] at hh2
  exact he hh2.2.1

theorem CopyF.stepB {w W W' : World} {s1 s2 : Value} (h : CopyF w s1 s2 W) (hb : Below (w.heap.size + 2) W W') : CopyF w s1 s2 W' where
  a0 := (hb.cell (by dsimp only; omega)).trans h.a0
  a1 := (hb.cell (by dsimp only; omega)).trans h.a1
  r0 := (hb.cell (by dsimp only; omega)).trans h.r0
  r1 := (hb.cell (by dsimp only; omega)).trans h.r1
  z0 := (hb.frozen (by dsimp only; omega)).trans h.z0
  z1 := (hb.frozen (by dsimp only; omega)).trans h.z1
  sz := Nat.lt_of_lt_of_le h.sz hb.size
  be := h.be.trans (hb.mono (by omega))

structure ApF (w : World) (s1 s2 : Value) (P : Nat) (A1 : Option Addr) (n1 c1 : Nat) (B1 : Option Addr) (m1 d1 : Nat) (its : List Itm) (bs : List Int) (W : World) : Prop where
  cf : CopyF w s1 s2 W
  p0 : W.cell? ⟨P, 0, none⟩ = some (.slice A1 n1 c1)
  p1 : W.cell? ⟨P, 1, none⟩ = some (.slice B1 m1 d1)
  f0 : W.frozen? ⟨P, 0, none⟩ = false
  f1 : W.frozen? ⟨P, 1, none⟩ = false
  pw : w.heap.size + 2 ≤ P
  ps : P < W.heap.size
  oi : W.ownsRow (w.heap.size + 2) 42 3 (.slice A1 n1 c1) n1 (flat Itm.cell 3 its)
  ob : W.ownsRow (w.heap.size + 2) 3 1 (.slice B1 m1 d1) m1 (flat intCell 1 bs)
  si : ∀ g, (Value.slice A1 n1 c1).ownBlock = some g → g ≠ P
  sb : ∀ g, (Value.slice B1 m1 d1).ownBlock = some g → g ≠ P
  ni : n1 = its.length
  nb : m1 = bs.length
section
variable {w W W' : World} {s1 s2 : Value} {P : Nat} {A1 : Option Addr} {n1 c1 : Nat} {B1 : Option Addr} {m1 d1 : Nat} {its : List Itm} {bs : List Int}
theorem ApF.step (h : ApF w s1 s2 P A1 n1 c1 B1 m1 d1 its bs W) (hb : Below W.heap.size W W') : ApF w s1 s2 P A1 n1 c1 B1 m1 d1 its bs W' where
  cf := h.cf.step hb
  p0 := (hb.cell h.ps).trans h.p0
  p1 := (hb.cell h.ps).trans h.p1
  f0 := (hb.frozen h.ps).trans h.f0
  f1 := (hb.frozen h.ps).trans h.f1
  pw := h.pw
  ps := Nat.lt_of_lt_of_le h.ps hb.size
  oi := own_below h.oi hb
  ob := own_below h.ob hb
  si := h.si
  sb := h.sb
  ni := h.ni
  nb := h.nb
theorem ApF.rep (h : ApF w s1 s2 P A1 n1 c1 B1 m1 d1 its bs W) : Rep W W.heap.size 3 Itm.cell A1 n1 its := Rep.of_own h.ni h.oi (Nat.le_refl _)
theorem ApF.repB (h : ApF w s1 s2 P A1 n1 c1 B1 m1 d1 its bs W) : Rep W W.heap.size 1 intCell B1 m1 bs := Rep.of_own h.nb h.ob (Nat.le_refl _)
/-- other items, into the volume -/
theorem ApF.items {A2 : Option Addr} {n2 c2 : Nat} {us : List Itm} (h : ApF w s1 s2 P A1 n1 c1 B1 m1 d1 its bs W) (ho : W.ownsRow (w.heap.size + 2) 42 3 (.slice A2 n2 c2) n2 (flat Itm.cell 3 us)) (hn : n2 = us.length)
    (hs : ∀ g, (Value.slice A2 n2 c2).ownBlock = some g → g ≠ P) : ApF w s1 s2 P A2 n2 c2 B1 m1 d1 us bs (W.setCell ⟨P, 0, none⟩ (.slice A2 n2 c2)) where
  cf := h.cf.stepB ((Below.refl _ _).setCell (by exact h.pw) _)
  p0 := World.cell?_setCell_same _ _ _ h.p0
  p1 := (World.cell?_setCell_other _ _ _ _ (by intro e; cases e)).trans h.p1
  f0 := (World.frozen?_setCell _ _ _ _).trans h.f0
  f1 := (World.frozen?_setCell _ _ _ _).trans h.f1
  pw := h.pw
  ps := by simpa [World.setCell] using h.ps
  oi := own_setCell_other ho hs _
  ob := own_setCell_other h.ob h.sb _
  si := hs
  sb := h.sb
  ni := hn
  nb := h.nb
/-- a block of the volume -/
theorem ApF.block {g : Nat} (h : ApF w s1 s2 P A1 n1 c1 (some ⟨g, 0, none⟩) m1 d1 its bs W) (k : Nat) (v : Int) : ApF w s1 s2 P A1 n1 c1 (some ⟨g, 0, none⟩) m1 d1 its (bs.set k v) (W.setCell ⟨g, k, none⟩ (.int .i64 v)) := by
  have hg := (h.ob.lt g rfl).1
  have hgP := h.sb g rfl
  have hst := (h.ob.stored k (.int .i64 v)).1
  rw [flat_int_set] at hst
  exact {
    cf := h.cf.stepB ((Below.refl _ _).setCell (by exact hg) _)
    p0 := (World.cell?_setCell_other _ _ _ _ (by intro e; cases e; exact hgP rfl)).trans h.p0
    p1 := (World.cell?_setCell_other _ _ _ _ (by intro e; cases e; exact hgP rfl)).trans h.p1
    f0 := (World.frozen?_setCell _ _ _ _).trans h.f0
    f1 := (World.frozen?_setCell _ _ _ _).trans h.f1
    pw := h.pw
    ps := by simpa [World.setCell] using h.ps
    oi := own_setCell_other h.oi (fun g1 h1 => own_apart h.oi h.ob (by decide) g1 g h1 rfl) _
    ob := hst
    si := h.si
    sb := h.sb
    ni := h.ni
    nb := by rw [List.length_set]; exact h.nb }
end
/-- A volume and an error's number that a call hands back. -/
def VolErrPost (w : World) (r : List Itm × List Int × Int) (e : Ending) (w' : World) : Prop :=
  ∃ A c B d, e = .returned (.tuple #[.agg #[.slice A r.1.length c, .slice B r.2.1.length d], .int .i64 r.2.2]) ∧ w'.ownsRow w.heap.size 42 3 (.slice A r.1.length c) r.1.length (flat Itm.cell 3 r.1) ∧
    w'.ownsRow w.heap.size 3 1 (.slice B r.2.1.length d) r.2.1.length (flat intCell 1 r.2.1) ∧ Below w.heap.size w w'
theorem VolErrPost.nil {w w' : World} {r : List Itm × List Int × Int} {k : Int} (h : r = ([], [], k)) (hb : Below w.heap.size w w') : VolErrPost w r (.returned (.tuple #[.agg #[.slice none 0 0, .slice none 0 0], .int .i64 k])) w' := by
  subst h
  exact ⟨none, 0, none, 0, rfl, World.ownsRow_nil _ _ _ _, World.ownsRow_nil _ _ _ _, hb⟩
theorem VolErrPost.mk' {w w' : World} {A B : Option Addr} {n c m d : Nat} {r : List Itm × List Int × Int} {ls : List Itm} {bs : List Int} {k : Int} (h : r = (ls, bs, k)) (hn : n = ls.length) (hm : m = bs.length)
    (ho : w'.ownsRow w.heap.size 42 3 (.slice A n c) n (flat Itm.cell 3 ls)) (ho' : w'.ownsRow w.heap.size 3 1 (.slice B m d) m (flat intCell 1 bs)) (hb : Below w.heap.size w w') :
    VolErrPost w r (.returned (.tuple #[.agg #[.slice A n c, .slice B m d], .int .i64 k])) w' := by
  subst h hn hm
  exact ⟨A, c, B, d, rfl, ho, ho', hb⟩
end Go.Proofs.YtphbebcbbfbgpacDoor

namespace Go.Proofs.YtphbebcbbfbgpacDoor
open Go Go.RowKit
set_option linter.unusedSimpArgs false
set_option linter.unusedVariables false

theorem applied_bad {ls : List Itm} {bs : List Int} (ws : List Wrt) (h : goodVB ls bs = false) : appliedR ls bs ws = ([], [], 7) := by rw [appliedR, h]; rfl
theorem applied_fault {ls : List Itm} {bs : List Int} {ws : List Wrt} (h : goodVB ls bs = true) (hw : writesK ws bs.length ≠ 0) : appliedR ls bs ws = ([], [], writesK ws bs.length) := by rw [appliedR, if_pos h, if_neg hw]
theorem applied_on {ls : List Itm} {bs : List Int} {ws : List Wrt} (h : goodVB ls bs = true) (hw : writesK ws bs.length = 0) : appliedR ls bs ws = keepAll (ws.foldl dropStep (ls, bs)).1 (ws.foldl dropStep (ls, bs)).2 ws := by rw [appliedR, if_pos h, if_pos hw]
theorem foldl_take_succ {α β : Type} (f : β → α → β) (s : β) (l : List α) {i : Nat} (h : i < l.length) : (l.take (i + 1)).foldl f s = f ((l.take i).foldl f s) l[i] := by
  rw [List.take_succ_eq_append_getElem h, List.foldl_append]; rfl

set_option maxRecDepth 100000 in
set_option maxHeartbeats 8000000 in
theorem apply_any (A B C : Option Addr) (n c m d k c' : Nat) (ls : List Itm) (bs : List Int) (ws : List Wrt) (w : World) (h : Rep w w.heap.size 3 Itm.cell A n ls) (h' : Rep w w.heap.size 1 intCell B m bs) (hw : Rep w w.heap.size 2 Wrt.cell C k ws)
    (hA : A = none → n = 0 ∧ c = 0) (hB : B = none → m = 0 ∧ d = 0) (hn : n ≤ maxLen) (hm : m ≤ maxLen) (hk : k ≤ maxLen) (hok : ∀ b ∈ bs, i64Ok b) :
    Calls Tryd.prog 26 #[.agg #[.slice A n c, .slice B m d], .slice C k c'] w (VolErrPost w (appliedR ls bs ws)) := by
  have hc : ∀ W, Below w.heap.size w W → Calls Tryd.prog 18 #[.agg #[.slice A n c, .slice B m d]] W fun e w' => VCheckPost ls bs e ∧ Below W.heap.size W w' :=
    fun W hb => volCheck_any A B n c m d ls bs W ((h.below hb (Nat.le_refl _)).mono hb.size) ((h'.below hb (Nat.le_refl _)).mono hb.size) hn hm hok
  have hcw : ∀ W, Below w.heap.size w W → Calls Tryd.prog 60 #[.slice C k c', .int .i64 m] W fun e w' => FaultPost ws m e ∧ Below W.heap.size W w' :=
    fun W hb => checkWrites_any C k c' m ws W ((hw.below hb (Nat.le_refl _)).mono hb.size) hk
  have hcf : CopyF w (.slice A n c) (.slice B m d) ((w.alloc (.cells #[.slice A n c, .slice B m d] 30)).alloc (.cells #[.slice none 0 0, .slice none 0 0] 30)) := by
    refine ⟨?_, ?_, ?_, ?_, ?_, ?_, by simp, ((Below.refl _ _).alloc (Nat.le_refl _) _).alloc (by simp) _⟩
    all_goals simp [go_sem]
  have HCF := Lib.hid hcf
  have HC := Lib.hid hc
  have HCW := Lib.hid hcw
  have HREPW := Lib.hid hw
  have hml := h'.1
  have HM := Lib.hid hml
  have HK := Lib.hid hw.1
  clear hcf hc hcw
  cases hg : goodVB ls bs with
  | false =>
    have E1 := Lib.hid (show goodVN ls bs = 7 by rw [goodVN_eq, hg]; rfl)
    have E2 := Lib.hid (applied_bad ws hg)
    clear hg h h' hw hml hok
    go_enter Tryd.func26, Tryd.ntmps26
    go_wp2_with fail
    refine (HC.out _ HCF.out.be).mono ?_
    rintro e w1 ⟨he, hb1⟩
    rw [VCheckPost, E1.out] at he
    subst he
    have HF1 := Lib.hid (HCF.out.step hb1)
    obtain ⟨a0, a1, r0, r1, z0, z1, hsz, hbe⟩ := HF1.out
    clear hb1 hbe
    go_wp2
    refine bodyPost_ret (v := .tuple #[.agg #[.slice none 0 0, .slice none 0 0], .int .i64 7]) (by simp [results, Tryd.results26, go_sem, r0, r1]) rfl ?_
    exact VolErrPost.nil E2.out ((HF1.out.be.setCell (p := ⟨w.heap.size + 1, 0, none⟩) (Nat.le_succ _) _).setCell (p := ⟨w.heap.size + 1, 1, none⟩) (Nat.le_succ _) _)
  | true =>
    have hgv := goodVB_of hg
    have E1 := Lib.hid (show goodVN ls bs = 0 by rw [goodVN_eq, hg]; rfl)
    have hm32 : m ≤ 32 := by have := hgv.hi; omega
    have h24 : n ≤ 24 := by have := hgv.good.1; have := h.1; omega
    by_cases hf : writesK ws m = 0
    · have hon : appliedR ls bs ws = keepAll (ws.foldl dropStep (ls, bs)).1 (ws.foldl dropStep (ls, bs)).2 ws := applied_on hg (by rw [← hml]; exact hf)
      have gw := writesK_zero.1 hf
      have hk12 : k ≤ 12 := by have := gw.len; have := hw.1; omega
      have hcp : ∀ W, Below w.heap.size w W → Calls Tryd.prog 44 #[.agg #[.slice A n c, .slice B m d]] W (VolPost W n m ls bs) :=
        fun W hb => copy_any A B n c m d ls bs W ((h.below hb (Nat.le_refl _)).mono hb.size) ((h'.below hb (Nat.le_refl _)).mono hb.size) hA hB (by omega) (by omega)
      have HCP := Lib.hid hcp
      have E2 := Lib.hid hf
      have GW := Lib.hid gw
      have GV := Lib.hid hgv
      have ON := Lib.hid hon
      have HNL := Lib.hid h.1
      clear hg hf hcp h h' hw hml hok gw hgv hon
      go_enter Tryd.func26, Tryd.ntmps26
      go_wp2_with fail
      refine (HC.out _ HCF.out.be).mono ?_
      rintro e w1 ⟨he, hb1⟩
      rw [VCheckPost, E1.out] at he
      subst he
      have HF1 := Lib.hid (HCF.out.step hb1)
      obtain ⟨a0, a1, _, _, _, _, _, hbe⟩ := HF1.out
      clear hb1 hbe
      go_wp2_with fail
      refine (HCW.out _ HF1.out.be).mono ?_
      rintro e w2 ⟨he, hb2⟩
      rw [FaultPost, E2.out] at he
      subst he
      have HF2 := Lib.hid (HF1.out.step hb2)
      clear hb2 a0 a1
      obtain ⟨a0, a1, _, _, _, _, _, hbe⟩ := HF2.out
      clear hbe
      go_wp2_with fail
      refine (HCP.out _ HF2.out.be).mono ?_
      rintro e w3 ⟨A1, c1, B1, d1, rfl, ho1, ho2, hb3, _, _, _, _, _, _⟩
      have HF3 := Lib.hid (HF2.out.step hb3)
      have hs2 := HF2.out.sz
      have hap : ApF w (.slice A n c) (.slice B m d) w3.heap.size A1 n c1 B1 m d1 ls bs (w3.alloc (.cells #[.slice A1 n c1, .slice B1 m d1] 30)) := by
        refine ⟨HF3.out.step ((Below.refl _ _).alloc (Nat.le_refl _) _), ?_, ?_, ?_, ?_, by have := hb3.size; omega, by simp, own_mono (ho1.alloc _) (by omega), own_mono (ho2.alloc _) (by omega), ?_, ?_, HNL.out, HM.out⟩
        · simp [go_sem]
        · simp [go_sem]
        · simp [go_sem]
        · simp [go_sem]
        · intro g hg; have := (ho1.lt g hg).2; omega
        · intro g hg; have := (ho2.lt g hg).2; omega
      have HAP := Lib.hid hap
      clear hap hb3 ho1 ho2 a0 a1 hs2
      obtain ⟨P, hP⟩ : ∃ P, w3.heap.size = P := ⟨_, rfl⟩
      rw [hP] at HAP
      go_wp2
      clear hP
      go_loopw [38] (fun t wr => ∃ (i : Nat) (A1 : Option Addr) (n1 c1 : Nat) (B1 : Option Addr) (d1 : Nat) (its : List Itm) (cs : List Int), i ≤ k ∧ t = .int .i64 i ∧ ApF w (.slice A n c) (.slice B m d) P A1 n1 c1 B1 m d1 its cs wr ∧ Hid ((its, cs) = (ws.take i).foldl dropStep (ls, bs))) (fun t _ => k - (intOf t).toNat)
      case atStart => exact ⟨0, A1, n, c1, B1, d1, ls, bs, Nat.zero_le _, rfl, HAP.out, Lib.hid (by rw [List.take_zero]; rfl)⟩
      case round =>
        obtain ⟨i, A2, n2, c2, B2, d2, its, cs, hi, rfl, hap, hst⟩ := hrel
        have HA := Lib.hid hap
        have hbel := hap.cf.be
        have hrng : ∀ x ∈ ws.take i, 0 ≤ x.block ∧ x.block < ((ls, bs).2.length : Int) := fun x hx => by
          have h1 := GW.out.lo x (List.mem_of_mem_take hx)
          have h2 := GW.out.hi x (List.mem_of_mem_take hx)
          have := HM.out
          exact ⟨h1, by simp only; omega⟩
        have hgd := dropAll_good (ws := ws.take i) (s := (ls, bs)) GV.out hrng
        rw [← hst.out] at hgd
        have hcm : cs.length = m := by rw [hgd.2]; exact HM.out.symm
        have hgv2 := hgd.1
        simp only at hgv2
        by_cases hlt : i < k
        · obtain ⟨gw, offw, rfl, hgb, e0, e1⟩ := writes_at (k := i) (HREPW.out.below hbel (Nat.le_refl _)) hlt
          have hil : i < ws.length := by have := HK.out; omega
          have hx0 := GW.out.lo _ (List.getElem_mem hil)
          have hx1 := GW.out.hi _ (List.getElem_mem hil)
          have hnext := foldl_take_succ dropStep (ls, bs) ws hil
          rw [← hst.out] at hnext
          obtain ⟨x, hx⟩ : ∃ x, ws[i]'hil = x := ⟨_, rfl⟩
          rw [hx] at e0 e1 hx0 hx1 hnext
          obtain ⟨xb, xd⟩ := x
          dsimp only at e0 e1 hx0 hx1
          obtain ⟨q, rfl⟩ : ∃ q : Nat, xb = q := ⟨xb.toNat, by omega⟩
          have hq : q < cs.length := by omega
          have hqm : q < m := by omega
          obtain ⟨g, cap, hB2, hg0, hg1⟩ := hap.ob.form (by omega)
          simp only [Value.slice.injEq] at hB2
          obtain ⟨rfl, _, rfl⟩ := hB2
          have HAA := Lib.hid (hap.step ((Below.refl _ _).alloc (Nat.le_refl _) (.cells #[.int .i64 q, .string xd] 55)))
          have hgP := hap.sb g rfl
          have hPg : P ≠ g := fun e => hgP e.symm
          obtain ⟨_, c0⟩ := ints_of (k := q) HAA.out.repB hqm
          rw [Nat.zero_add] at c0
          have hds : dropStep (its, cs) ⟨q, xd⟩ = if 0 ≤ cs[q] then (dropL its cs[q], cs.set q (-1)) else (its, cs) := by
            unfold dropStep
            simp only [Int.toNat_natCast, getD_lt hq]
          have hgot : 0 ≤ cs[q] → gotK its cs[q] = 0 := fun h0 => by
            obtain ⟨z, hz, he⟩ := hgv2.ids _ (List.getElem_mem hq) h0
            rw [← he]; exact gotK_of_mem hgv2.good hz
          obtain ⟨y, hy⟩ : ∃ y, cs[q] = y := ⟨_, rfl⟩
          rw [hy] at c0 hds hgot
          have p0 := HAA.out.p0
          have p1 := HAA.out.p1
          have hn2 : n2 ≤ maxLen ∧ (A2 = none → n2 = 0 ∧ c2 = 0) := by
            obtain ⟨_, _, he, h1, h2, h3⟩ := own_form hap.oi
            simp only [Value.slice.injEq] at he
            obtain ⟨rfl, _, rfl⟩ := he
            exact ⟨by omega, h3⟩
          have HN2 := Lib.hid hn2
          have HGV2 := Lib.hid hgv2
          have HNX := Lib.hid hnext
          have HDS := Lib.hid hds
          clear hx hap hst hbel hrng hgd hgv2 hnext hds hy hgb hn2 hcm hq
          by_cases hy0 : 0 ≤ y
          · have d1 : decide (y ≥ 0) = true := decide_eq_true hy0
            have hgot0 := Lib.hid (hgot hy0)
            have hdr : droppedR its y = dropL its y := by rw [droppedR, if_pos hgot0.out]
            have HDR := Lib.hid hdr
            have HD2 : Hid (dropStep (its, cs) ⟨q, xd⟩ = (dropL its y, cs.set q (-1))) := Lib.hid (by rw [HDS.out, if_pos hy0])
            clear hgot hdr
            go_wp2_with fail
            refine (drop_any A2 n2 c2 y its _ HAA.out.rep HN2.out.1 HN2.out.2).mono ?_
            rw [HDR.out, hgot0.out]
            rintro e w5 ⟨A3, c3, rfl, hown, hb5, _, _, _⟩
            obtain ⟨u, hu⟩ : ∃ u, (dropL its y).length = u := ⟨_, rfl⟩
            rw [hu] at hown ⊢
            have HU := Lib.hid hu
            have HF5 := Lib.hid (HAA.out.step hb5)
            have hsz5 := HAA.out.ps
            have hit := HF5.out.items (own_mono hown (by have := HAA.out.cf.sz; omega)) HU.out.symm (fun g' hg' => by have := (hown.lt g' hg').1; omega)
            have hPw : P < wr.heap.size := HA.out.ps
            have hne1 : ¬ wr.heap.size = P := by omega
            have hne2 : ¬ P = wr.heap.size := by omega
            have HIT := Lib.hid (hit.block q (-1))
            have p0' := HF5.out.p0
            have p1' := HF5.out.p1
            have f0' := HF5.out.f0
            obtain ⟨_, c0'⟩ := ints_of (k := q) HF5.out.repB hqm
            rw [Nat.zero_add] at c0'
            have z0' := HF5.out.ob.frozenAt q
            have v0' : w5.cell? ⟨w.heap.size + 1, 0, none⟩ = some (.slice none 0 0) := HF5.out.cf.r0
            obtain ⟨_, hx0', hx1'⟩ : ∃ b, w5.cell? ⟨wr.heap.size, 0, none⟩ = some (.int .i64 q) ∧ w5.cell? ⟨wr.heap.size, 1, none⟩ = some (.string xd) := ⟨0, (hb5.cell (by simp)).trans (by simp [go_sem]), (hb5.cell (by simp)).trans (by simp [go_sem])⟩
            clear p0 p1 c0 hu hown hb5 hsz5 hit
            go_wp2
            go_region
            go_wp2
            go_roundw
            case rel => exact ⟨i + 1, A3, u, c3, _, _, dropL its y, cs.set q (-1), by omega, by go_num, HIT.out.step (below_drewN (Below.refl _ _) 1), Lib.hid (by rw [HNX.out, HD2.out])⟩
            case measure => simp [intOf]; omega
          · have d1 : decide (y ≥ 0) = false := decide_eq_false hy0
            have HD2 : Hid (dropStep (its, cs) ⟨q, xd⟩ = (its, cs)) := Lib.hid (by rw [HDS.out, if_neg hy0])
            clear hgot
            go_wp2
            go_roundw
            case rel => exact ⟨i + 1, A2, n2, c2, _, _, its, cs, by omega, by go_num, HAA.out, Lib.hid (by rw [HNX.out, HD2.out])⟩
            case measure => simp [intOf]; omega
        · have hfin : keepAll its cs (ws.drop 0) = appliedR ls bs ws := by
            have e := hst.out
            rw [List.take_of_length_le (by have := HK.out; omega)] at e
            rw [ON.out, ← e, List.drop_zero]
          have HFIN := Lib.hid hfin
          have HCM := Lib.hid hcm
          clear hfin hap hst hbel hrng hgd hgv2 hcm
          obtain ⟨wo, rfl⟩ : ∃ wo, wo = wr := ⟨_, rfl⟩
          go_wp2
          go_loopw [71] (fun t wr => ∃ (i : Nat) (A1 : Option Addr) (n1 c1 : Nat) (B1 : Option Addr) (d1 : Nat) (its : List Itm) (cs : List Int), i ≤ k ∧ t = .int .i64 i ∧ ApF w (.slice A n c) (.slice B m d) P A1 n1 c1 B1 m d1 its cs wr ∧ Hid (keepAll its cs (ws.drop i) = appliedR ls bs ws)) (fun t _ => k - (intOf t).toNat)
          case atStart => exact ⟨0, A2, n2, c2, B2, d2, its, cs, Nat.zero_le _, rfl, HA.out, HFIN⟩
          case round =>
            obtain ⟨i, A2, n2, c2, B2, d2, its, cs, hi, rfl, hap, hst⟩ := hrel
            have HA := Lib.hid hap
            have hbel := hap.cf.be
            by_cases hlt : i < k
            · obtain ⟨gw, offw, rfl, hgb, e0, e1⟩ := writes_at (k := i) (HREPW.out.below hbel (Nat.le_refl _)) hlt
              have hil : i < ws.length := by have := HK.out; omega
              have hx0 := GW.out.lo _ (List.getElem_mem hil)
              have hx1 := GW.out.hi _ (List.getElem_mem hil)
              have hx48 := GW.out.size _ (List.getElem_mem hil)
              have hnext := hst.out
              rw [List.drop_eq_getElem_cons hil, keepAll] at hnext
              obtain ⟨x, hx⟩ : ∃ x, ws[i]'hil = x := ⟨_, rfl⟩
              rw [hx] at e0 e1 hx0 hx1 hnext hx48
              obtain ⟨xb, xd⟩ := x
              dsimp only at e0 e1 hx0 hx1 hnext hx48
              obtain ⟨q, rfl⟩ : ∃ q : Nat, xb = q := ⟨xb.toNat, by omega⟩
              rw [Int.toNat_natCast] at hnext
              have hcm : m = cs.length := hap.nb
              have hq : q < cs.length := by omega
              have hqm : q < m := by omega
              obtain ⟨g, cap, hB2, hg0, hg1⟩ := hap.ob.form (by omega)
              simp only [Value.slice.injEq] at hB2
              obtain ⟨rfl, _, rfl⟩ := hB2
              have HAA := Lib.hid (hap.step ((Below.refl _ _).alloc (Nat.le_refl _) (.cells #[.int .i64 q, .string xd] 55)))
              have hgP := hap.sb g rfl
              have hPg : P ≠ g := fun e => hgP e.symm
              have p0 := HAA.out.p0
              have p1 := HAA.out.p1
              have hn2 : n2 ≤ maxLen ∧ (A2 = none → n2 = 0 ∧ c2 = 0) := by
                obtain ⟨_, _, he, h1, h2, h3⟩ := own_form hap.oi
                simp only [Value.slice.injEq] at he
                obtain ⟨rfl, _, rfl⟩ := he
                exact ⟨by omega, h3⟩
              have HN2 := Lib.hid hn2
              have HNX := Lib.hid hnext
              have HCM := Lib.hid hcm
              clear hx hap hst hbel hnext hgb hn2 hcm hq
              by_cases hd0 : xd.size = 0
              · have hemp := isEmpty_yes hd0
                have HNX2 : Hid (keepAll its cs (ws.drop (i + 1)) = appliedR ls bs ws) := Lib.hid (by rw [← HNX.out, if_pos hd0])
                clear hd0
                go_wp2
                go_roundw
                case rel => exact ⟨i + 1, A2, n2, c2, _, _, its, cs, by omega, by go_num, HAA.out, HNX2⟩
                case measure => simp [intOf]; omega
              · have hemp := isEmpty_no hd0
                have hnx2 := HNX.out
                rw [if_neg hd0] at hnx2
                obtain ⟨r, hr⟩ : ∃ r, keptR its xd = r := ⟨_, rfl⟩
                rw [hr] at hnx2
                obtain ⟨us, id, e⟩ := r
                dsimp only at hnx2
                have HR := Lib.hid hr
                have HNX2 := Lib.hid hnx2
                have hd0' := Lib.hid hd0
                clear hr hnx2 hd0
                go_wp2_with fail
                refine (keep_any A2 n2 c2 xd its _ HAA.out.rep HN2.out.1 HN2.out.2 (by unfold maxLen; omega)).mono ?_
                rw [HR.out]
                rintro _ w5 ⟨A3, c3, rfl, hown, hb5⟩
                dsimp only at hown ⊢
                obtain ⟨u, hu⟩ : ∃ u, us.length = u := ⟨_, rfl⟩
                rw [hu] at hown ⊢
                have HU := Lib.hid hu
                have HF5 := Lib.hid (HAA.out.step hb5)
                have hsz5 := HAA.out.ps
                have hit := HF5.out.items (own_mono hown (by have := HAA.out.cf.sz; omega)) HU.out.symm (fun g' hg' => by have := (hown.lt g' hg').1; omega)
                have hPw : P < wr.heap.size := HA.out.ps
                have hne1 : ¬ wr.heap.size = P := by omega
                have hne2 : ¬ P = wr.heap.size := by omega
                have HIT := Lib.hid (hit.block q id)
                have p0' := HF5.out.p0
                have p1' := HF5.out.p1
                have f0' := HF5.out.f0
                have z0' := HF5.out.ob.frozenAt q
                have hx0' : w5.cell? ⟨wr.heap.size, 0, none⟩ = some (.int .i64 q) := (hb5.cell (by simp)).trans (by simp [go_sem])
                have hx1' : w5.cell? ⟨wr.heap.size, 1, none⟩ = some (.string xd) := (hb5.cell (by simp)).trans (by simp [go_sem])
                clear p0 p1 hu hown hb5 hsz5 hit
                by_cases he0 : e = 0
                · have c0' : ∃ y, w5.cell? ⟨g, q, none⟩ = some (.int .i64 y) := by
                    obtain ⟨_, c0'⟩ := ints_of (k := q) HF5.out.repB hqm
                    rw [Nat.zero_add] at c0'
                    exact ⟨_, c0'⟩
                  obtain ⟨y, c0'⟩ := c0'
                  have HNX3 : Hid (keepAll us (cs.set q id) (ws.drop (i + 1)) = appliedR ls bs ws) := Lib.hid (by have := HNX2.out; rwa [if_pos he0] at this)
                  subst he0
                  go_wp2
                  go_region
                  go_wp2
                  go_roundw
                  case rel => exact ⟨i + 1, A3, u, c3, _, _, us, cs.set q id, by omega, by go_num, HIT.out.step (below_drewN (Below.refl _ _) 1), HNX3⟩
                  case measure => simp [intOf]; omega
                · have HNX3 : Hid (appliedR ls bs ws = ([], [], e)) := Lib.hid (by have := HNX2.out; rw [if_neg he0] at this; exact this.symm)
                  have de : (e != 0) = true := by simp [he0]
                  have r0 := HF5.out.cf.r0
                  have r1 := HF5.out.cf.r1
                  have z0 := HF5.out.cf.z0
                  have z1 := HF5.out.cf.z1
                  clear he0
                  go_wp2
                  refine bodyPost_ret (v := .tuple #[.agg #[.slice none 0 0, .slice none 0 0], .int .i64 e]) (by simp [results, Tryd.results26, go_sem, r0, r1]) rfl ?_
                  exact VolErrPost.nil HNX3.out ((HF5.out.cf.be.setCell (p := ⟨w.heap.size + 1, 0, none⟩) (Nat.le_succ _) _).setCell (p := ⟨w.heap.size + 1, 1, none⟩) (Nat.le_succ _) _)
            · have hfin : appliedR ls bs ws = (its, cs, 0) := by
                rw [← hst.out, List.drop_of_length_le (by have := HK.out; omega)]; rfl
              have HFIN := Lib.hid hfin
              have p0 := HA.out.p0
              have p1 := HA.out.p1
              have r0 := HA.out.cf.r0
              have r1 := HA.out.cf.r1
              have z0 := HA.out.cf.z0
              have z1 := HA.out.cf.z1
              clear hfin hap hst hbel
              go_wp2
              refine bodyPost_ret (v := .tuple #[.agg #[.slice A2 n2 c2, .slice B2 m d2], .int .i64 0]) (by simp [results, Tryd.results26, go_sem, r0, r1]) rfl ?_
              have o1 := ownsRow_setCell_below (ownsRow_setCell_below HA.out.oi (a := ⟨w.heap.size + 1, 0, none⟩) (by simp) (.slice A2 n2 c2)) (a := ⟨w.heap.size + 1, 1, none⟩) (by simp) (.slice B2 m d2)
              have o2 := ownsRow_setCell_below (ownsRow_setCell_below HA.out.ob (a := ⟨w.heap.size + 1, 0, none⟩) (by simp) (.slice A2 n2 c2)) (a := ⟨w.heap.size + 1, 1, none⟩) (by simp) (.slice B2 m d2)
              exact VolErrPost.mk' HFIN.out HA.out.ni HA.out.nb (own_mono o1 (by omega)) (own_mono o2 (by omega)) ((HA.out.cf.be.setCell (p := ⟨w.heap.size + 1, 0, none⟩) (Nat.le_succ _) _).setCell (p := ⟨w.heap.size + 1, 1, none⟩) (Nat.le_succ _) _)
    · have E2 := Lib.hid (applied_fault hg (by rw [← hml]; exact hf))
      rw [← hml] at E2
      obtain ⟨e, he⟩ : ∃ e, writesK ws m = e := ⟨_, rfl⟩
      rw [he] at E2 hf
      have HE := Lib.hid he
      have de : (e != 0) = true := by simp [hf]
      clear hg h h' hw hml hok hgv hf he
      go_enter Tryd.func26, Tryd.ntmps26
      go_wp2_with fail
      refine (HC.out _ HCF.out.be).mono ?_
      rintro e' w1 ⟨he, hb1⟩
      rw [VCheckPost, E1.out] at he
      subst he
      have HF1 := Lib.hid (HCF.out.step hb1)
      obtain ⟨a0, a1, _, _, _, _, _, hbe⟩ := HF1.out
      clear hb1 hbe
      go_wp2_with fail
      refine (HCW.out _ HF1.out.be).mono ?_
      rintro e' w2 ⟨he, hb2⟩
      rw [FaultPost, HE.out] at he
      subst he
      have HF2 := Lib.hid (HF1.out.step hb2)
      clear hb2 a0 a1
      obtain ⟨a0, a1, r0, r1, z0, z1, hsz, hbe⟩ := HF2.out
      clear hbe
      go_wp2
      refine bodyPost_ret (v := .tuple #[.agg #[.slice none 0 0, .slice none 0 0], .int .i64 e]) (by simp [results, Tryd.results26, go_sem, r0, r1]) rfl ?_
      exact VolErrPost.nil E2.out ((HF2.out.be.setCell (p := ⟨w.heap.size + 1, 0, none⟩) (Nat.le_succ _) _).setCell (p := ⟨w.heap.size + 1, 1, none⟩) (Nat.le_succ _) _)
end Go.Proofs.YtphbebcbbfbgpacDoor
