/- slices.Grow from nothing, and slices.Concat, at acts. The law TopSees returns true for all raw numbers. -/
import Derived.Test.YtphbebcbbfbgpacDoorTopKit
import Derived.Test.YtphbebcbbfbgpacDoorKept
import Derived.Lib.AppendZerosOnto
import Derived.Lib.AppendZeros
import Derived.Test.YtphbebcbbfbgpacDoorRepBlock
namespace Go.Proofs.YtphbebcbbfbgpacDoor
open Go Go.RowKit

set_option maxHeartbeats 2000000 in
theorem growAct (n : Nat) (w : World) (h0 : 0 < n) (hn : n ≤ 1000) :
    Calls Tryd.prog 68 #[.slice none 0 0, .int .i64 n] w fun e w' => ∃ c, e = .returned (.slice (some ⟨w.heap.size, 0, none⟩) 0 c) ∧ w'.ownsRow w.heap.size 36 4 (.slice (some ⟨w.heap.size, 0, none⟩) 0 c) 0 [] ∧ Below w.heap.size w w' := by
  obtain ⟨i0, hi0, hz0, hz1, hz2⟩ := info_parts infoAct
  have hrz : ∀ ty, (Builtin.append_ #[23, 3] ty #[.slice none 0 0, .int .i64 n]).run Tryd.prog w =
      .ok (.slice (some ⟨w.heap.size, 0, none⟩) n (grownCap w n 0 36)) (w.drew.alloc (.cells (Builtin.zeroCells (Value.agg #[.int .i64 0, .int .i64 0, .string ByteArray.empty, .int .i64 0]).cells n ++ Builtin.zeroCells (Value.agg #[.int .i64 0, .int .i64 0, .string ByteArray.empty, .int .i64 0]).cells (grownCap w n 0 36 - n)) 36)) := fun ty => by
    have h := Lib.run_append_grow_zeros w 23 3 ty 36 i0 _ .i64 .i64 Tryd.underlying23 Tryd.underlying3 hi0 hz0 none 0 0 [] (run_firstCells_none w.drew i0.size 0 0 0) n h0 (by rw [hz1]; decide) (by omega) (by omega) (by rw [hz2]; omega)
      (growslice_fits (by omega) (by rw [hz2]; omega))
    simpa using h
  have hGn : n ≤ grownCap w n 0 36 := grownCap_ge w _ _ _
  have hGm := grownCap_le_maxLen w n 0 36 (by unfold maxLen; omega)
  obtain ⟨G, hG⟩ : ∃ G, G = grownCap w n 0 36 := ⟨_, rfl⟩
  rw [← hG] at hrz hGn hGm
  have hown : (w.drew.alloc (.cells (Builtin.zeroCells (Value.agg #[.int .i64 0, .int .i64 0, .string ByteArray.empty, .int .i64 0]).cells n ++ Builtin.zeroCells (Value.agg #[.int .i64 0, .int .i64 0, .string ByteArray.empty, .int .i64 0]).cells (G - n)) 36)).ownsRow w.heap.size 36 4 (.slice (some ⟨w.heap.size, 0, none⟩) 0 G) 0 [] := by
    refine ⟨rfl, .inr ⟨w.heap.size, G, _, rfl, Nat.le_refl _, heap_alloc_new w.drew _, Nat.zero_le _, hGm, ?_, by simp⟩⟩
    have e4 : (Value.agg #[.int .i64 0, .int .i64 0, .string ByteArray.empty, .int .i64 0]).cells.size = 4 := rfl
    rw [Array.size_append, size_zeroCells, size_zeroCells, e4]
    omega
  obtain ⟨W2, hW2⟩ : ∃ W2, W2 = (w.drew.alloc (.cells (Builtin.zeroCells (Value.agg #[.int .i64 0, .int .i64 0, .string ByteArray.empty, .int .i64 0]).cells n ++ Builtin.zeroCells (Value.agg #[.int .i64 0, .int .i64 0, .string ByteArray.empty, .int .i64 0]).cells (G - n)) 36)) := ⟨_, rfl⟩
  rw [← hW2] at hrz hown
  have HO := Lib.hid hown
  have HB : Hid (Below w.heap.size w W2) := Lib.hid (by rw [hW2]; exact (Below.refl _ _).drew.alloc (Nat.le_refl _) _)
  unfold maxLen at hGm
  clear hG hi0 hz0 hz1 hz2 hown hW2
  go_enter Tryd.func68, Tryd.ntmps68
  go_wp2_with (at_builtin; refine Lib.wpList_append_run _ rfl _ _ _ _ rfl _ _ rfl rfl _ _ (hrz _) ?_)
  all_goals
    go_ret
    exact ⟨_, rfl, HO.out, HB.out⟩

/-- a slice of acts: where it lies, its length, its room, what it holds -/
abbrev Part := Option Addr × Nat × Nat × List Acn
def partV (p : Part) : Value := .slice p.1 p.2.1 p.2.2.1
def sumP (ps : List Part) : Nat := (ps.map (fun p => p.2.1)).sum
def catP (ps : List Part) : List Acn := ps.flatMap (fun p => p.2.2.2)
theorem sumP_next (ps : List Part) {j : Nat} (h : j < ps.length) : sumP (ps.take (j + 1)) = sumP (ps.take j) + (ps[j]).2.1 := by
  rw [sumP, List.take_succ_eq_append_getElem h, List.map_append, List.sum_append]; simp [sumP]
theorem catP_next (ps : List Part) {j : Nat} (h : j < ps.length) : catP (ps.take (j + 1)) = catP (ps.take j) ++ (ps[j]).2.2.2 := by
  rw [catP, List.take_succ_eq_append_getElem h, List.flatMap_append]; simp [catP]
theorem sumP_le (ps : List Part) (j : Nat) : sumP (ps.take j) ≤ sumP ps := by
  conv => rhs; rw [← List.take_append_drop j ps]
  unfold sumP
  rw [List.map_append, List.sum_append]; omega

set_option maxHeartbeats 4000000 in
theorem concat_any (ps : List Part) (k b off : Nat) (w : World) (hk : ps.length = k) (hk8 : k ≤ 8) (hc : ∀ i (hi : i < ps.length), w.cell? ⟨b, off + i, none⟩ = some (partV ps[i])) (hb : b < w.heap.size)
    (hr : ∀ p ∈ ps, Rep w w.heap.size 4 Acn.cell p.1 p.2.1 p.2.2.2 ∧ (p.1 = none → p.2.1 = 0 ∧ p.2.2.1 = 0)) (hs0 : 0 < sumP ps) (hs : sumP ps ≤ 300) :
    Calls Tryd.prog 42 #[.slice (some ⟨b, off, none⟩) k k] w (OwnPost w 36 4 (sumP ps) (flat Acn.cell 4 (catP ps))) := by
  obtain ⟨i0, hi, hz0, hz1, hz2⟩ := info_parts infoAct
  have HI := Lib.hid hi
  have HZ0 := Lib.hid hz0
  have HZ1 := Lib.hid hz1
  have HZ2 := Lib.hid hz2
  have HC := Lib.hid hc
  have HR := Lib.hid hr
  have HK := Lib.hid hk
  obtain ⟨S, hS⟩ : ∃ S, sumP ps = S := ⟨_, rfl⟩
  have HLE := Lib.hid (sumP_le ps)
  have HGR := Lib.hid (fun W : World => growAct S W (by omega) (by omega))
  rw [hS] at hs0 hs ⊢
  have HS := Lib.hid hS
  clear hi hz0 hz1 hz2 hc hr hk hS
  go_enter Tryd.func42, Tryd.ntmps42
  go_wp2
  go_loopw [3, 11] (fun s i wr => ∃ j a : Nat, j ≤ k ∧ i = .int .i64 j ∧ s = .int .i64 a ∧ Hid (a = sumP (ps.take j)) ∧ Below w.heap.size w wr) (fun _ i _ => k - (intOf i).toNat)
  case atStart => exact ⟨0, 0, Nat.zero_le _, rfl, rfl, Lib.hid (by simp [sumP]), Below.refl _ _⟩
  case round =>
    obtain ⟨j, a, hj, rfl, rfl, ha, hbel0⟩ := hrel
    have HB0 := Lib.hid hbel0
    by_cases hlt : j < k
    · have hjl : j < ps.length := by rw [HK.out]; exact hlt
      have c0 := (hbel0.cell (p := ⟨b, off + j, none⟩) hb).trans (HC.out j hjl)
      have hnx := sumP_next ps hjl
      have hle := HLE.out (j + 1)
      rw [← ha.out] at hnx
      obtain ⟨⟨pa, pn, pc, pl⟩, hp⟩ : ∃ p, ps[j]'hjl = p := ⟨_, rfl⟩
      rw [hp] at c0 hnx
      dsimp only [partV] at c0 hnx
      rw [hnx, HS.out] at hle
      have HNX := Lib.hid hnx
      have d0 : decide ((a : Int) + (pn : Int) < 0) = false := decide_eq_false (by omega)
      clear hnx hp hbel0
      go_wp2
      go_roundw
      case rel => exact ⟨j + 1, a + pn, by omega, by go_num, by go_num, Lib.hid HNX.out.symm, HB0.out⟩
      case measure => simp [intOf]; omega
    · obtain rfl : j = k := by omega
      have ha2 : a = S := by rw [ha.out, ← HS.out, List.take_of_length_le (by rw [HK.out]; exact Nat.le_refl _)]
      subst ha2
      clear hbel0
      go_wp2_with fail
      with_reducible refine (HGR.out _).mono ?_
      rintro e w1 ⟨c1, rfl, ho1, hb1⟩
      have HO1 := Lib.hid (own_mono ho1 HB0.out.size)
      have HB1 := Lib.hid (HB0.out.trans (hb1.mono HB0.out.size))
      clear ho1 hb1
      go_wp2
      go_loopw [6, 27] (fun v i wr => ∃ (q m : Nat) (ls : List Acn), q ≤ j ∧ i = .int .i64 q ∧ Hid (m = sumP (ps.take q) ∧ ls = catP (ps.take q)) ∧ wr.ownsRow w.heap.size 36 4 v m (flat Acn.cell 4 ls) ∧ Below w.heap.size w wr) (fun _ i _ => j - (intOf i).toNat)
      case atStart => exact ⟨0, 0, [], Nat.zero_le _, rfl, Lib.hid (by simp [sumP, catP]), HO1.out, HB1.out⟩
      case round =>
        obtain ⟨q, m, ls, hq, rfl, hml, hown, hbel⟩ := hrel
        have HO := Lib.hid hown
        have HB := Lib.hid hbel
        by_cases hlt2 : q < j
        · have hql : q < ps.length := by rw [HK.out]; exact hlt2
          have c0 := (hbel.cell (p := ⟨b, off + q, none⟩) hb).trans (HC.out q hql)
          have hnx := sumP_next ps hql
          have hcx := catP_next ps hql
          have hle := HLE.out (q + 1)
          obtain ⟨hr1, hr2⟩ := HR.out _ (List.getElem_mem hql)
          rw [← hml.out.1] at hnx
          rw [← hml.out.2] at hcx
          obtain ⟨⟨pa, pn, pc, pl⟩, hp⟩ : ∃ p, ps[q]'hql = p := ⟨_, rfl⟩
          rw [hp] at c0 hnx hcx hr1 hr2
          dsimp only [partV] at c0 hnx hcx hr1 hr2
          rw [hnx, HS.out] at hle
          have HNX := Lib.hid hnx
          have HCX := Lib.hid hcx
          have HP := Lib.hid hr1
          cases pa with
          | none =>
            obtain ⟨rfl, rfl⟩ := hr2 rfl
            obtain rfl : pl = [] := List.eq_nil_of_length_eq_zero hr1.1.symm
            clear hown hbel hnx hcx hr1 hr2 hp
            go_wp2_with (at_builtin; refine wpList_append_own_none rfl _ _ 23 rfl w.heap.size 36 i0 4 Tryd.underlying23 HI.out _ _ _ rfl HO.out rfl ?_)
            go_roundw
            case rel => exact ⟨q + 1, m, ls, by omega, by go_num, Lib.hid ⟨by rw [HNX.out]; rfl, by rw [HCX.out, List.append_nil]⟩, HO.out, HB.out⟩
            case measure => simp [intOf]; omega
          | some ad =>
            have hnl : (flat Acn.cell 4 pl).length = pn * 4 := by rw [flat_length, hr1.1]
            have hnw := (hr1.below hbel (Nat.le_refl _)).flat_any
            have HNL := Lib.hid hnl
            have HNW := Lib.hid hnw
            clear hown hbel hnx hcx hr1 hr2 hp hnl hnw
            go_wp2_with (at_builtin; refine wpList_append_own _ rfl _ _ 23 rfl w.heap.size 36 i0 _ 4 40 Tryd.underlying23 HI.out HZ0.out HZ1.out HZ2.out rfl (by decide) _ _ _ rfl HO.out ad pn pc (flat Acn.cell 4 pl) rfl HNL.out HNW.out (acn_one pl) (by unfold maxLen; omega) (by omega) HB.out.size ?_; intro v' w2 hown2 hgr2 _)
            have HB2 := Lib.hid (HB.out.grown hgr2 HB.out.size (fun k hk => (HO.out.lt k hk).1))
            have ho2 : w2.ownsRow w.heap.size 36 4 v' (m + pn) (flat Acn.cell 4 (ls ++ pl)) := by
              rw [flat_append]; exact hown2
            clear hown2 hgr2
            go_wp2
            go_roundw
            case rel => exact ⟨q + 1, m + pn, ls ++ pl, by omega, by go_num, Lib.hid ⟨HNX.out.symm, HCX.out.symm⟩, ho2, HB2.out⟩
            case measure => simp [intOf]; omega
        · obtain rfl : q = j := by omega
          have ht : ps.take q = ps := List.take_of_length_le (by rw [HK.out]; exact Nat.le_refl _)
          have h1 := hml.out
          rw [ht, HS.out] at h1
          obtain ⟨rfl, rfl⟩ := h1
          have HOF := Lib.hid hown
          clear hown hbel
          go_wp2
          go_ret
          exact OwnPost.mk' HOF.out HB.out
end Go.Proofs.YtphbebcbbfbgpacDoor

namespace Go.Proofs.YtphbebcbbfbgpacDoor
open Go Go.RowKit

set_option maxRecDepth 100000 in
set_option maxHeartbeats 4000000 in
theorem lawTopSees (A : Option Addr) (n c : Nat) (ls : List Raw) (r : Raw) (w : World) (h : Rep w w.heap.size 4 Raw.cell A n ls) (hn : n ≤ maxLen) (hwf : ∀ a ∈ ls, a.wf) (hr : r.wf) :
    Calls Tryd.prog 12 #[.slice A n c, .agg #[.int .i64 r.kind, .int .i64 r.a, .int .i64 r.b, .int .i64 r.c]] w fun e w' => e = .returned (.bool true) ∧ Below w.heap.size w w' := by
  have hpk : ∀ W, Calls Tryd.prog 37 #[.int .i64 r.c, .int .i64 8] W fun e w' => e = .returned (.int .i64 (pickN r.c 8)) ∧ W = w' := fun W => pickedT_any r.c 8 W hr.2.2.2 (by omega) (by omega)
  have hkl := pickN_lt r.c (m := 8) (by omega)
  obtain ⟨kp, hkp⟩ : ∃ kp, pickN r.c 8 = kp := ⟨_, rfl⟩
  rw [hkp] at hpk hkl
  have HPK := Lib.hid hpk
  have hdat := fun W => data_any r W hr
  have hds := dataR_size r
  obtain ⟨s, hs⟩ : ∃ s, dataR r = s := ⟨_, rfl⟩
  rw [hs] at hdat hds
  have HDAT := Lib.hid hdat
  have HACT := Lib.hid (fun W (hb : Below w.heap.size w W) => acts_any A n c 40 ls W ((h.below hb (Nat.le_refl _)).mono hb.size) hn (by omega) hwf)
  obtain ⟨rk, ra, rb, rc⟩ := r
  dsimp only at HPK HDAT ⊢
  obtain ⟨i0, ii, iz0, iz1, iz2⟩ := info_parts infoAct
  have II := Lib.hid ii
  have IZ0 := Lib.hid iz0
  have IZ1 := Lib.hid iz1
  have IZ2 := Lib.hid iz2
  clear h hn hwf ii iz0 iz1 iz2 hpk hkp hdat hs hr
  obtain ⟨w0, hw0⟩ : ∃ w0, w0 = w.alloc (.cells #[.int .i64 rk, .int .i64 ra, .int .i64 rb, .int .i64 rc] 80) := ⟨_, rfl⟩
  have HB0 : Hid (Below w.heap.size w w0) := Lib.hid (by rw [hw0]; exact (Below.refl _ _).alloc (Nat.le_refl _) _)
  have HW0 := Lib.hid hw0
  clear hw0
  go_enter Tryd.func12, Tryd.ntmps12
  go_wp2_with (go_at_call 37; (with_reducible refine (HPK.out _).mono ?_); rintro e w' ⟨rfl, rfl⟩)
  rw [← HW0.out]
  with_reducible refine (HDAT.out _).mono ?_
  rintro e w1 ⟨rfl, hb1⟩
  have HB1 := Lib.hid (HB0.out.trans (hb1.mono HB0.out.size))
  have HACTS := Lib.hid (HACT.out w1 HB1.out)
  clear hb1
  go_wp2_with fail
  refine HACTS.out.mono ?_
  rintro e w2 ⟨A2, c2, xs, rfl, hxl, hxw, ho2, hb2⟩
  obtain ⟨m, hm⟩ : ∃ m, xs.length = m := ⟨_, rfl⟩
  rw [hm] at ho2 hxl ⊢
  have HM := Lib.hid hm
  have HXW := Lib.hid hxw
  have HB2 := Lib.hid (HB1.out.trans (hb2.mono HB1.out.size))
  have HO2 := Lib.hid (own_mono ho2 HB1.out.size)
  clear hm hxw hb2 ho2
  go_wp2_with (at_builtin; refine wpList_append_own _ rfl (.tmp 20) (.tmp 22) 23 rfl w.heap.size 36 i0 _ 4 40 Tryd.underlying23 II.out IZ0.out IZ1.out IZ2.out rfl (by decide) _ _ _ rfl (HO2.out.alloc _) ⟨w2.heap.size, 0, none⟩ 1 1 [.int .i64 5, .int .i64 0, .string ⟨#[]⟩, .int .i64 0] rfl rfl (World.news_of_block (cs := #[.int .i64 5, .int .i64 0, .string ⟨#[]⟩, .int .i64 0]) (t := 36) (fr := (0, 0)) (heap_alloc_new w2 _)) (by simp [Value.oneCell']) (by unfold maxLen; omega) (by omega) (by have := HB2.out.size; simp; omega) ?_; intro v' W3 hown3 hgr3 _)
  have ho3 : W3.ownsRow w.heap.size 36 4 v' (m + 1) (flat Acn.cell 4 (xs ++ [kindA 5])) := by
    rw [flat_append]; exact hown3
  obtain ⟨A3, c3, rfl⟩ := own_slice2 ho3
  have HB3 := Lib.hid ((HB2.out.alloc HB2.out.size _).grown hgr3 (HB2.out.alloc HB2.out.size _).size (fun k hk => (HO2.out.lt k hk).1))
  have hls : ∀ a ∈ xs ++ [kindA 5], Acn.wf a := wf_app HXW.out (fun a ha => by rw [List.mem_singleton.1 ha]; exact wf_kind 5 rfl)
  have hln : (xs ++ [kindA 5]).length = m + 1 := by rw [List.length_append, HM.out]; rfl
  obtain ⟨hst1, hst2⟩ := abort_state xs
  obtain ⟨l1, hl1⟩ : ∃ l1, xs ++ [kindA 5] = l1 := ⟨_, rfl⟩
  rw [hl1] at ho3 hls hln hst1 hst2
  obtain ⟨H, hsim⟩ := run_sim l1
  have hbl := run_blocksN (n := 8) (by omega) (by omega) l1
  obtain ⟨a1, a3, a4, a5, hans, hd1, hd3, hd5⟩ := sees hsim hst1 hst2 (by rw [hbl]; omega) (b := kp) (by rw [hbl]; exact hkl) (s := s) (by omega)
  have happ := congrArg Prod.fst (runEs_app l1 [kindA 1, readA kp, (⟨2, kp, s, 0⟩ : Acn), readA kp, kindA 4, readA kp] (eng0 8))
  dsimp only at happ
  rw [hans] at happ
  have hylen := runEs_len l1 (eng0 8)
  obtain ⟨rs, hrs⟩ : ∃ rs, readsR (runEs (eng0 8) l1).2.v = rs := ⟨_, rfl⟩
  have hrl : rs.length = 8 := by rw [← hrs, readsR_len, hbl]
  rw [hrs] at hd1 hd5
  obtain ⟨ys, hys⟩ : ∃ ys, (runEs (eng0 8) l1).1 = ys := ⟨_, rfl⟩
  rw [hys] at happ hylen
  obtain ⟨V, hV⟩ : ∃ V, (runEs (eng0 8) (l1 ++ [kindA 1, readA kp, (⟨2, kp, s, 0⟩ : Acn), readA kp, kindA 4, readA kp])).2.v = V := ⟨_, rfl⟩
  obtain ⟨us, cs⟩ := V
  obtain ⟨obj3, hobj3⟩ := own_form ho3
  have hn3 : A3 = none → m + 1 = 0 ∧ c3 = 0 := by
    obtain ⟨_, _, hv3, _, _, hn3⟩ := own_form ho3
    simp only [Value.slice.injEq] at hv3
    obtain ⟨rfl, _, rfl⟩ := hv3
    exact hn3
  have HRD := Lib.hid (treads_any A3 (m + 1) c3 l1 W3 (Rep.of_own hln.symm ho3 (Nat.le_refl _)) (by omega) hls)
  have HN3 := Lib.hid hn3
  have HO3 := Lib.hid ho3
  have HLS := Lib.hid hls
  have HLN := Lib.hid hln
  have HAPP := Lib.hid happ
  have HYL : Hid (ys.length = m + 1) := Lib.hid (by rw [hylen, hln])
  have HD1 := Lib.hid hd1
  have HD3 := Lib.hid hd3
  have HD5 := Lib.hid hd5
  have HRS := Lib.hid hrs
  have HRL := Lib.hid hrl
  have HV := Lib.hid hV
  clear hown3 hgr3 ho3 hls hln hst1 hst2 hl1 hsim hbl hans hd1 hd3 hd5 happ hylen hrs hrl hys hV hn3 hobj3
  go_wp2_with fail
  with_reducible refine HRD.out.mono ?_
  rintro e w4 ⟨A4, c4, rfl, p4, hb4⟩
  rw [HRS.out, HRL.out] at p4 ⊢
  obtain ⟨w4c, hw4c⟩ : ∃ w4c, w4c = ((w4.alloc (.cells #[.int .i64 3, .int .i64 kp, .string ⟨#[]⟩, .int .i64 0] 36)).alloc (.cells #[.int .i64 1, .int .i64 0, .string ⟨#[]⟩, .int .i64 0, .int .i64 3, .int .i64 kp, .string ⟨#[]⟩, .int .i64 0, .int .i64 2, .int .i64 kp, .string s, .int .i64 0, .int .i64 3, .int .i64 kp, .string ⟨#[]⟩, .int .i64 0, .int .i64 4, .int .i64 0, .string ⟨#[]⟩, .int .i64 0, .int .i64 3, .int .i64 kp, .string ⟨#[]⟩, .int .i64 0] 36)).alloc (.cells #[.slice A3 (m + 1) c3, .slice (some ⟨w4.heap.size + 1, 0, none⟩) 6 6] 23) := ⟨_, rfl⟩
  have hs4 : w4c.heap.size = w4.heap.size + 3 := by rw [hw4c]; simp
  have hal : Below w4.heap.size w4 w4c := by
    rw [hw4c]
    have q1 := (Below.refl w4.heap.size w4).alloc (Nat.le_refl _) (.cells #[.int .i64 3, .int .i64 kp, .string ⟨#[]⟩, .int .i64 0] 36)
    have q2 := q1.alloc q1.size (.cells #[.int .i64 1, .int .i64 0, .string ⟨#[]⟩, .int .i64 0, .int .i64 3, .int .i64 kp, .string ⟨#[]⟩, .int .i64 0, .int .i64 2, .int .i64 kp, .string s, .int .i64 0, .int .i64 3, .int .i64 kp, .string ⟨#[]⟩, .int .i64 0, .int .i64 4, .int .i64 0, .string ⟨#[]⟩, .int .i64 0, .int .i64 3, .int .i64 kp, .string ⟨#[]⟩, .int .i64 0] 36)
    exact q2.alloc q2.size _
  have hblk : w4c.heap[w4.heap.size + 1]? = some (.cells #[.int .i64 1, .int .i64 0, .string ⟨#[]⟩, .int .i64 0, .int .i64 3, .int .i64 kp, .string ⟨#[]⟩, .int .i64 0, .int .i64 2, .int .i64 kp, .string s, .int .i64 0, .int .i64 3, .int .i64 kp, .string ⟨#[]⟩, .int .i64 0, .int .i64 4, .int .i64 0, .string ⟨#[]⟩, .int .i64 0, .int .i64 3, .int .i64 kp, .string ⟨#[]⟩, .int .i64 0] 36 (0, 0)) := by
    rw [hw4c, heap_alloc_old _ _ (by simp)]
    have := heap_alloc_new (w4.alloc (.cells #[.int .i64 3, .int .i64 kp, .string ⟨#[]⟩, .int .i64 0] 36)) (.cells #[.int .i64 1, .int .i64 0, .string ⟨#[]⟩, .int .i64 0, .int .i64 3, .int .i64 kp, .string ⟨#[]⟩, .int .i64 0, .int .i64 2, .int .i64 kp, .string s, .int .i64 0, .int .i64 3, .int .i64 kp, .string ⟨#[]⟩, .int .i64 0, .int .i64 4, .int .i64 0, .string ⟨#[]⟩, .int .i64 0, .int .i64 3, .int .i64 kp, .string ⟨#[]⟩, .int .i64 0] 36)
    simpa using this
  have r1 : Rep w4c w4c.heap.size 4 Acn.cell A3 (m + 1) l1 := Rep.of_own HLN.out.symm (own_below (own_below HO3.out hb4) hal) (Nat.le_refl _)
  have r2 : Rep w4c w4c.heap.size 4 Acn.cell (some ⟨w4.heap.size + 1, 0, none⟩) 6 [kindA 1, readA kp, (⟨2, kp, s, 0⟩ : Acn), readA kp, kindA 4, readA kp] := rep_block (B := w4c.heap.size) (f := Acn.cell) (size := 4) (ls := [kindA 1, readA kp, (⟨2, kp, s, 0⟩ : Acn), readA kp, kindA 4, readA kp]) hblk (by omega) rfl
  have hcc := concat_any [(A3, m + 1, c3, l1), (some ⟨w4.heap.size + 1, 0, none⟩, 6, 6, [kindA 1, readA kp, (⟨2, kp, s, 0⟩ : Acn), readA kp, kindA 4, readA kp])] 2 (w4.heap.size + 2) 0 w4c rfl (by omega) (fun i hi => by
      have hi2 : i < 2 := hi
      rw [hw4c]
      rcases (by omega : i = 0 ∨ i = 1) with rfl | rfl
      all_goals simp [go_sem, partV]) (by omega) (fun x hx => by
      simp only [List.mem_cons, List.not_mem_nil, or_false] at hx
      rcases hx with rfl | rfl
      · exact ⟨r1, HN3.out⟩
      · exact ⟨r2, fun h => by cases h⟩) (by simp only [sumP, List.map_cons, List.map_nil, List.sum_cons, List.sum_nil]; omega) (by simp only [sumP, List.map_cons, List.map_nil, List.sum_cons, List.sum_nil]; omega)
  have hsum : sumP [(A3, m + 1, c3, l1), (some ⟨w4.heap.size + 1, 0, none⟩, 6, 6, [kindA 1, readA kp, (⟨2, kp, s, 0⟩ : Acn), readA kp, kindA 4, readA kp])] = m + 7 := by
    simp only [sumP, List.map_cons, List.map_nil, List.sum_cons, List.sum_nil]; omega
  have hcat : catP [(A3, m + 1, c3, l1), (some ⟨w4.heap.size + 1, 0, none⟩, 6, 6, [kindA 1, readA kp, (⟨2, kp, s, 0⟩ : Acn), readA kp, kindA 4, readA kp])] = l1 ++ [kindA 1, readA kp, (⟨2, kp, s, 0⟩ : Acn), readA kp, kindA 4, readA kp] := by
    simp [catP]
  rw [hsum, hcat] at hcc
  have HCC := Lib.hid hcc
  have HW4 := Lib.hid hw4c
  have HP4 := Lib.hid (own_below p4 hal)
  have hb44 := hb4.trans (hal.mono hb4.size)
  have HB4 := Lib.hid (HB3.out.trans (hb44.mono HB3.out.size))
  clear hb4 p4 hs4 hal hblk r1 r2 hcc hsum hcat hw4c hb44
  go_wp2_with fail
  rw [← HW4.out]
  with_reducible refine HCC.out.mono ?_
  rintro e w6 ⟨A6, c6, rfl, ho6, hb6, _, _, _⟩
  have hl6 : (l1 ++ [kindA 1, readA kp, (⟨2, kp, s, 0⟩ : Acn), readA kp, kindA 4, readA kp]).length = m + 7 := by rw [List.length_append, HLN.out]; rfl
  obtain ⟨u, hu⟩ : ∃ u, us.length = u := ⟨_, rfl⟩
  obtain ⟨q, hq⟩ : ∃ q, cs.length = q := ⟨_, rfl⟩
  have hx6 : (ys ++ [Ans.of 0, a1, Ans.of 0, a3, Ans.of a4, a5]).length = m + 7 := by rw [List.length_append, HYL.out]; rfl
  have HRUN := Lib.hid (trunB A6 (m + 7) c6 (m + 7) u q (l1 ++ [kindA 1, readA kp, (⟨2, kp, s, 0⟩ : Acn), readA kp, kindA 4, readA kp]) (ys ++ [Ans.of 0, a1, Ans.of 0, a3, Ans.of a4, a5]) us cs w6 (Rep.of_own hl6.symm ho6 (Nat.le_refl _)) (by omega) (wf_app HLS.out (fun a ha => by
    simp only [List.mem_cons, List.not_mem_nil, or_false] at ha
    have h3 : Acn.wf (readA kp) := ⟨rfl, ok_small kp (by omega), str_small ⟨#[]⟩ (by decide), rfl⟩
    rcases ha with rfl | rfl | rfl | rfl | rfl | rfl
    · exact wf_kind 1 rfl
    · exact h3
    · exact ⟨rfl, ok_small kp (by omega), str_small s (by omega), rfl⟩
    · exact h3
    · exact wf_kind 4 rfl
    · exact h3)) HAPP.out HV.out hx6 hu hq)
  have HP6 := Lib.hid (own_below HP4.out hb6)
  have HB6 := Lib.hid (HB4.out.trans (hb6.mono HB4.out.size))
  clear ho6 hb6 hl6 hu hq hx6
  go_wp2_with fail
  with_reducible refine HRUN.out.mono ?_
  rintro e w7 ⟨Ax, cx, A7, c7, B7, d7, rfl, r7, hb7⟩
  obtain ⟨w7a, hw7a⟩ : ∃ w7a, w7a = w7.alloc (.cells #[.slice A7 u c7, .slice B7 q d7] 30) := ⟨_, rfl⟩
  have hal7 : Below w7.heap.size w7 w7a := by rw [hw7a]; exact (Below.refl _ _).alloc (Nat.le_refl _) _
  have r7' := r7.step hal7
  have hb77 := hb7.trans (hal7.mono hb7.size)
  have HP7 := Lib.hid (own_below HP6.out hb77)
  have HB7 := Lib.hid (HB6.out.trans (hb77.mono HB6.out.size))
  have HX7 := Lib.hid r7'.xrep
  obtain ⟨_, _, hvx, hcx1, hcx2, _⟩ := own_form r7'.x
  simp only [Value.slice.injEq] at hvx
  obtain ⟨rfl, _, rfl⟩ := hvx
  have HW7 := Lib.hid hw7a
  clear r7 hb7 hw7a hal7 r7' hb77
  obtain ⟨b, off, rfl, hb, _⟩ := HX7.out.at_ (k := 0) (by omega)
  obtain ⟨b', off', rfl, hb', s0⟩ := str_at (k := kp) (Rep.of_own HRL.out.symm HP7.out (Nat.le_refl _)) hkl
  have hdr := HX7.out.dropped (k := m + 1) (by omega)
  have hdl : (ys ++ [Ans.of 0, a1, Ans.of 0, a3, Ans.of a4, a5]).drop (m + 1) = [Ans.of 0, a1, Ans.of 0, a3, Ans.of a4, a5] := by
    rw [← HYL.out, List.drop_left]
  rw [hdl, show m + 7 - (m + 1) = 6 by omega] at hdr
  obtain ⟨o2, ho2⟩ : ∃ o2, off + (m + 1) * 5 = o2 := ⟨_, rfl⟩
  rw [ho2] at hdr
  have HDR := Lib.hid hdr
  clear hdr
  obtain ⟨b1, of1, e1, _, _, x11, _, _, _⟩ := ans_at (k := 1) HDR.out (by omega)
  simp only [Option.some.injEq, Addr.mk.injEq, and_true] at e1
  obtain ⟨rfl, rfl⟩ := e1
  obtain ⟨b3, of3, e3, _, _, x31, _, _, _⟩ := ans_at (k := 3) HDR.out (by omega)
  simp only [Option.some.injEq, Addr.mk.injEq, and_true] at e3
  obtain ⟨rfl, rfl⟩ := e3
  obtain ⟨b4, of4, e4, _, x40, _, _, _, _⟩ := ans_at (k := 4) HDR.out (by omega)
  simp only [Option.some.injEq, Addr.mk.injEq, and_true] at e4
  obtain ⟨rfl, rfl⟩ := e4
  obtain ⟨b5, of5, e5, _, _, x51, _, _, _⟩ := ans_at (k := 5) HDR.out (by omega)
  simp only [Option.some.injEq, Addr.mk.injEq, and_true] at e5
  obtain ⟨rfl, rfl⟩ := e5
  simp only [List.getElem_cons_succ, List.getElem_cons_zero, Ans.of] at x11 x31 x40 x51
  simp only [Nat.reduceMul, Nat.one_mul] at x11 x31 x40 x51
  rw [HD3.out] at x31
  have hs1 : rs[kp]'(by rw [HRL.out]; exact hkl) = a1.data := by
    have := HD1.out
    rw [List.getElem?_eq_getElem (by rw [HRL.out]; exact hkl)] at this
    exact Option.some.inj this
  rw [hs1] at s0
  have HO := Lib.hid ho2
  have hq1 : (a1.data.toList == a1.data.toList) = true := by simp
  have hq2 : (s.toList == s.toList) = true := by simp
  clear hdl hb hb' ho2
  rcases HD5.out with ⟨h0, h5⟩ | ⟨h0, h5⟩
  · rw [h5] at x51
    subst h0
    clear h5 hs1
    go_upto_region 10 with (fail)
    rw [← HW7.out, HO.out]
    go_wp2
    go_quiet (fail)
    go_wp2
    go_ret
    exact ⟨rfl, below_drewN HB7.out _⟩
  · subst h0
    have h6 : a1.data = a5.data := by
      have := HD1.out
      rw [h5] at this
      exact (Option.some.inj this).symm
    rw [← h6] at x51
    clear h5 h6 hs1
    go_upto_region 10 with (fail)
    rw [← HW7.out, HO.out]
    go_wp2
    go_quiet (fail)
    go_wp2
    go_ret
    exact ⟨rfl, below_drewN HB7.out _⟩
end Go.Proofs.YtphbebcbbfbgpacDoor
