/- slices.Grow from nothing, and slices.Concat, at acts. The law TopAborted returns true for all raw numbers. -/
import Derived.Test.YtphbebcbbfbgpacDoorTopKit
import Derived.Test.YtphbebcbbfbgpacDoorKept
import Derived.Lib.AppendZerosOnto
import Derived.Lib.AppendZeros
namespace Go.Proofs.YtphbebcbbfbgpacDoor
open Go Go.RowKit

set_option maxHeartbeats 2000000 in
theorem growAct (n : Nat) (w : World) (h0 : 0 < n) (hn : n ≤ 1000) :
    Calls Tryd.prog 68 #[.slice none 0 0, .int .i64 n] w fun e w' => ∃ c, e = .returned (.slice (some ⟨w.heap.size, 0, none⟩) 0 c) ∧ w'.ownsRow w.heap.size 36 4 (.slice (some ⟨w.heap.size, 0, none⟩) 0 c) 0 [] ∧ Below w.heap.size w w' := by
  obtain ⟨i0, hi0, hz0, hz1, hz2⟩ := info_parts infoAct
  have hrz : ∀ ty, (Builtin.append_ #[23, 3] ty #[.slice none 0 0, .int .i64 n]).run Tryd.prog w =
      .ok (.slice (some ⟨w.heap.size, 0, none⟩) n (grownCap w n 0 36)) (w.drew.alloc (.cells (Builtin.zeroCells (Value.agg #[.int .i64 0, .int .i64 0, .string ByteArray.empty, .int .i64 0]).cells n ++ Builtin.zeroCells (Value.agg #[.int .i64 0, .int .i64 0, .string ByteArray.empty, .int .i64 0]).cells (grownCap w n 0 36 - n)) 36)) := fun ty => by
    have h := Lib.run_append_grow_zeros w 23 3 ty 36 i0 _ .i64 .i64 Tryd.underlying23 Tryd.underlying3 hi0 hz0 none 0 0 [] (run_firstCells_none w.drew i0.size 0 0 0) n h0 (by rw [hz1]; decide) (by omega) (by omega) (by rw [hz2]; omega)
      (growslice_fits (by omega) (by rw [hz2]; omega))
    simpa using h
  have hGn : n ≤ grownCap w n 0 36 := grownCap_ge w _ _ _
  have hGm := grownCap_le_maxLen w n 0 36 (by unfold maxLen; omega)
  obtain ⟨G, hG⟩ : ∃ G, G = grownCap w n 0 36 := ⟨_, rfl⟩
  rw [← hG] at hrz hGn hGm
  have hown : (w.drew.alloc (.cells (Builtin.zeroCells (Value.agg #[.int .i64 0, .int .i64 0, .string ByteArray.empty, .int .i64 0]).cells n ++ Builtin.zeroCells (Value.agg #[.int .i64 0, .int .i64 0, .string ByteArray.empty, .int .i64 0]).cells (G - n)) 36)).ownsRow w.heap.size 36 4 (.slice (some ⟨w.heap.size, 0, none⟩) 0 G) 0 [] := by
    refine ⟨rfl, .inr ⟨w.heap.size, G, _, rfl, Nat.le_refl _, heap_alloc_new w.drew _, Nat.zero_le _, hGm, ?_, by simp⟩⟩
    have e4 : (Value.agg #[.int .i64 0, .int .i64 0, .string ByteArray.empty, .int .i64 0]).cells.size = 4 := rfl
    rw [Array.size_append, size_zeroCells, size_zeroCells, e4]
    omega
  obtain ⟨W2, hW2⟩ : ∃ W2, W2 = (w.drew.alloc (.cells (Builtin.zeroCells (Value.agg #[.int .i64 0, .int .i64 0, .string ByteArray.empty, .int .i64 0]).cells n ++ Builtin.zeroCells (Value.agg #[.int .i64 0, .int .i64 0, .string ByteArray.empty, .int .i64 0]).cells (G - n)) 36)) := ⟨_, rfl⟩
  rw [← hW2] at hrz hown
  have HO := Lib.hid hown
  have HB : Hid (Below w.heap.size w W2) := Lib.hid (by rw [hW2]; exact (Below.refl _ _).drew.alloc (Nat.le_refl _) _)
  unfold maxLen at hGm
  clear hG hi0 hz0 hz1 hz2 hown hW2
  go_enter Tryd.func68, Tryd.ntmps68
  go_wp2_with (at_builtin; refine Lib.wpList_append_run _ rfl _ _ _ _ rfl _ _ rfl rfl _ _ (hrz _) ?_)
  all_goals
    go_ret
    exact ⟨_, rfl, HO.out, HB.out⟩

/-- a slice of acts: where it lies, its length, its room, what it holds -/
abbrev Part := Option Addr × Nat × Nat × List Acn
def partV (p : Part) : Value := .slice p.1 p.2.1 p.2.2.1
def sumP (ps : List Part) : Nat := (ps.map (fun p => p.2.1)).sum
def catP (ps : List Part) : List Acn := ps.flatMap (fun p => p.2.2.2)
theorem sumP_next (ps : List Part) {j : Nat} (h : j < ps.length) : sumP (ps.take (j + 1)) = sumP (ps.take j) + (ps[j]).2.1 := by
  rw [sumP, List.take_succ_eq_append_getElem h, List.map_append, List.sum_append]; simp [sumP]
theorem catP_next (ps : List Part) {j : Nat} (h : j < ps.length) : catP (ps.take (j + 1)) = catP (ps.take j) ++ (ps[j]).2.2.2 := by
  rw [catP, List.take_succ_eq_append_getElem h, List.flatMap_append]; simp [catP]
theorem sumP_le (ps : List Part) (j : Nat) : sumP (ps.take j) ≤ sumP ps := by
  conv => rhs; rw [← List.take_append_drop j ps]
  unfold sumP
  rw [List.map_append, List.sum_append]; omega

set_option maxHeartbeats 4000000 in
theorem concat_any (ps : List Part) (k b off : Nat) (w : World) (hk : ps.length = k) (hk8 : k ≤ 8) (hc : ∀ i (hi : i < ps.length), w.cell? ⟨b, off + i, none⟩ = some (partV ps[i])) (hb : b < w.heap.size)
    (hr : ∀ p ∈ ps, Rep w w.heap.size 4 Acn.cell p.1 p.2.1 p.2.2.2 ∧ (p.1 = none → p.2.1 = 0 ∧ p.2.2.1 = 0)) (hs0 : 0 < sumP ps) (hs : sumP ps ≤ 300) :
    Calls Tryd.prog 42 #[.slice (some ⟨b, off, none⟩) k k] w (OwnPost w 36 4 (sumP ps) (flat Acn.cell 4 (catP ps))) := by
  obtain ⟨i0, hi, hz0, hz1, hz2⟩ := info_parts infoAct
  have HI := Lib.hid hi
  have HZ0 := Lib.hid hz0
  have HZ1 := Lib.hid hz1
  have HZ2 := Lib.hid hz2
  have HC := Lib.hid hc
  have HR := Lib.hid hr
  have HK := Lib.hid hk
  obtain ⟨S, hS⟩ : ∃ S, sumP ps = S := ⟨_, rfl⟩
  have HLE := Lib.hid (sumP_le ps)
  have HGR := Lib.hid (fun W : World => growAct S W (by omega) (by omega))
  rw [hS] at hs0 hs ⊢
  have HS := Lib.hid hS
  clear hi hz0 hz1 hz2 hc hr hk hS
  go_enter Tryd.func42, Tryd.ntmps42
  go_wp2
  go_loopw [3, 11] (fun s i wr => ∃ j a : Nat, j ≤ k ∧ i = .int .i64 j ∧ s = .int .i64 a ∧ Hid (a = sumP (ps.take j)) ∧ Below w.heap.size w wr) (fun _ i _ => k - (intOf i).toNat)
  case atStart => exact ⟨0, 0, Nat.zero_le _, rfl, rfl, Lib.hid (by simp [sumP]), Below.refl _ _⟩
  case round =>
    obtain ⟨j, a, hj, rfl, rfl, ha, hbel0⟩ := hrel
    have HB0 := Lib.hid hbel0
    by_cases hlt : j < k
    · have hjl : j < ps.length := by rw [HK.out]; exact hlt
      have c0 := (hbel0.cell (p := ⟨b, off + j, none⟩) hb).trans (HC.out j hjl)
      have hnx := sumP_next ps hjl
      have hle := HLE.out (j + 1)
      rw [← ha.out] at hnx
      obtain ⟨⟨pa, pn, pc, pl⟩, hp⟩ : ∃ p, ps[j]'hjl = p := ⟨_, rfl⟩
      rw [hp] at c0 hnx
      dsimp only [partV] at c0 hnx
      rw [hnx, HS.out] at hle
      have HNX := Lib.hid hnx
      have d0 : decide ((a : Int) + (pn : Int) < 0) = false := decide_eq_false (by omega)
      clear hnx hp hbel0
      go_wp2
      go_roundw
      case rel => exact ⟨j + 1, a + pn, by omega, by go_num, by go_num, Lib.hid HNX.out.symm, HB0.out⟩
      case measure => simp [intOf]; omega
    · obtain rfl : j = k := by omega
      have ha2 : a = S := by rw [ha.out, ← HS.out, List.take_of_length_le (by rw [HK.out]; exact Nat.le_refl _)]
      subst ha2
      clear hbel0
      go_wp2_with fail
      with_reducible refine (HGR.out _).mono ?_
      rintro e w1 ⟨c1, rfl, ho1, hb1⟩
      have HO1 := Lib.hid (own_mono ho1 HB0.out.size)
      have HB1 := Lib.hid (HB0.out.trans (hb1.mono HB0.out.size))
      clear ho1 hb1
      go_wp2
      go_loopw [6, 27] (fun v i wr => ∃ (q m : Nat) (ls : List Acn), q ≤ j ∧ i = .int .i64 q ∧ Hid (m = sumP (ps.take q) ∧ ls = catP (ps.take q)) ∧ wr.ownsRow w.heap.size 36 4 v m (flat Acn.cell 4 ls) ∧ Below w.heap.size w wr) (fun _ i _ => j - (intOf i).toNat)
      case atStart => exact ⟨0, 0, [], Nat.zero_le _, rfl, Lib.hid (by simp [sumP, catP]), HO1.out, HB1.out⟩
      case round =>
        obtain ⟨q, m, ls, hq, rfl, hml, hown, hbel⟩ := hrel
        have HO := Lib.hid hown
        have HB := Lib.hid hbel
        by_cases hlt2 : q < j
        · have hql : q < ps.length := by rw [HK.out]; exact hlt2
          have c0 := (hbel.cell (p := ⟨b, off + q, none⟩) hb).trans (HC.out q hql)
          have hnx := sumP_next ps hql
          have hcx := catP_next ps hql
          have hle := HLE.out (q + 1)
          obtain ⟨hr1, hr2⟩ := HR.out _ (List.getElem_mem hql)
          rw [← hml.out.1] at hnx
          rw [← hml.out.2] at hcx
          obtain ⟨⟨pa, pn, pc, pl⟩, hp⟩ : ∃ p, ps[q]'hql = p := ⟨_, rfl⟩
          rw [hp] at c0 hnx hcx hr1 hr2
          dsimp only [partV] at c0 hnx hcx hr1 hr2
          rw [hnx, HS.out] at hle
          have HNX := Lib.hid hnx
          have HCX := Lib.hid hcx
          have HP := Lib.hid hr1
          cases pa with
          | none =>
            obtain ⟨rfl, rfl⟩ := hr2 rfl
            obtain rfl : pl = [] := List.eq_nil_of_length_eq_zero hr1.1.symm
            clear hown hbel hnx hcx hr1 hr2 hp
            go_wp2_with (at_builtin; refine wpList_append_own_none rfl _ _ 23 rfl w.heap.size 36 i0 4 Tryd.underlying23 HI.out _ _ _ rfl HO.out rfl ?_)
            go_roundw
            case rel => exact ⟨q + 1, m, ls, by omega, by go_num, Lib.hid ⟨by rw [HNX.out]; rfl, by rw [HCX.out, List.append_nil]⟩, HO.out, HB.out⟩
            case measure => simp [intOf]; omega
          | some ad =>
            have hnl : (flat Acn.cell 4 pl).length = pn * 4 := by rw [flat_length, hr1.1]
            have hnw := (hr1.below hbel (Nat.le_refl _)).flat_any
            have HNL := Lib.hid hnl
            have HNW := Lib.hid hnw
            clear hown hbel hnx hcx hr1 hr2 hp hnl hnw
            go_wp2_with (at_builtin; refine wpList_append_own _ rfl _ _ 23 rfl w.heap.size 36 i0 _ 4 40 Tryd.underlying23 HI.out HZ0.out HZ1.out HZ2.out rfl (by decide) _ _ _ rfl HO.out ad pn pc (flat Acn.cell 4 pl) rfl HNL.out HNW.out (acn_one pl) (by unfold maxLen; omega) (by omega) HB.out.size ?_; intro v' w2 hown2 hgr2 _)
            have HB2 := Lib.hid (HB.out.grown hgr2 HB.out.size (fun k hk => (HO.out.lt k hk).1))
            have ho2 : w2.ownsRow w.heap.size 36 4 v' (m + pn) (flat Acn.cell 4 (ls ++ pl)) := by
              rw [flat_append]; exact hown2
            clear hown2 hgr2
            go_wp2
            go_roundw
            case rel => exact ⟨q + 1, m + pn, ls ++ pl, by omega, by go_num, Lib.hid ⟨HNX.out.symm, HCX.out.symm⟩, ho2, HB2.out⟩
            case measure => simp [intOf]; omega
        · obtain rfl : q = j := by omega
          have ht : ps.take q = ps := List.take_of_length_le (by rw [HK.out]; exact Nat.le_refl _)
          have h1 := hml.out
          rw [ht, HS.out] at h1
          obtain ⟨rfl, rfl⟩ := h1
          have HOF := Lib.hid hown
          clear hown hbel
          go_wp2
          go_ret
          exact OwnPost.mk' HOF.out HB.out
end Go.Proofs.YtphbebcbbfbgpacDoor

namespace Go.Proofs.YtphbebcbbfbgpacDoor
open Go Go.RowKit

set_option maxRecDepth 100000 in
set_option maxHeartbeats 4000000 in
theorem lawTopAborted (A B : Option Addr) (n c n' c' : Nat) (ls ls' : List Raw) (w : World) (h : Rep w w.heap.size 4 Raw.cell A n ls) (hn : n ≤ maxLen) (hwf : ∀ a ∈ ls, a.wf) (h' : Rep w w.heap.size 4 Raw.cell B n' ls') (hn' : n' ≤ maxLen) (hwf' : ∀ a ∈ ls', a.wf) :
    Calls Tryd.prog 13 #[.slice A n c, .slice B n' c'] w fun e w' => e = .returned (.bool true) ∧ Below w.heap.size w w' := by
  have HACTS := Lib.hid (acts_any A n c 40 ls w h hn (by omega) hwf)
  have HACT2 := Lib.hid (fun W (hb : Below w.heap.size w W) => acts_any B n' c' 20 ls' W ((h'.below hb (Nat.le_refl _)).mono hb.size) hn' (by omega) hwf')
  obtain ⟨i0, ii, iz0, iz1, iz2⟩ := info_parts infoAct
  have II := Lib.hid ii
  have IZ0 := Lib.hid iz0
  have IZ1 := Lib.hid iz1
  have IZ2 := Lib.hid iz2
  clear h hn hwf h' hn' hwf' ii iz0 iz1 iz2
  go_enter Tryd.func13, Tryd.ntmps13
  go_wp2_with fail
  refine HACTS.out.mono ?_
  rintro e w1 ⟨A1, c1, xs, rfl, hxl, hxw, ho1, hb1⟩
  obtain ⟨m, hm⟩ : ∃ m, xs.length = m := ⟨_, rfl⟩
  rw [hm] at ho1 hxl ⊢
  have HM := Lib.hid hm
  have HXW := Lib.hid hxw
  have HB1 := Lib.hid hb1
  have HO1 := Lib.hid ho1
  clear hm hxw hb1 ho1
  go_wp2_with (at_builtin; refine wpList_append_own _ rfl (.tmp 14) (.tmp 16) 23 rfl w.heap.size 36 i0 _ 4 40 Tryd.underlying23 II.out IZ0.out IZ1.out IZ2.out rfl (by decide) _ _ _ rfl (HO1.out.alloc _) ⟨w1.heap.size, 0, none⟩ 1 1 [.int .i64 5, .int .i64 0, .string ⟨#[]⟩, .int .i64 0] rfl rfl (World.news_of_block (cs := #[.int .i64 5, .int .i64 0, .string ⟨#[]⟩, .int .i64 0]) (t := 36) (fr := (0, 0)) (heap_alloc_new w1 _)) (by simp [Value.oneCell']) (by unfold maxLen; omega) (by omega) (by have := HB1.out.size; simp; omega) ?_; intro v' W2 hown2 hgr2 _)
  have ho2 : W2.ownsRow w.heap.size 36 4 v' (m + 1) (flat Acn.cell 4 (xs ++ [kindA 5])) := by
    rw [flat_append]; exact hown2
  obtain ⟨A2, c2, rfl⟩ := own_slice2 ho2
  have HB2 := Lib.hid ((HB1.out.alloc HB1.out.size _).grown hgr2 (HB1.out.alloc HB1.out.size _).size (fun k hk => (HO1.out.lt k hk).1))
  have hls : ∀ a ∈ xs ++ [kindA 5], Acn.wf a := wf_app HXW.out (fun a ha => by rw [List.mem_singleton.1 ha]; exact wf_kind 5 rfl)
  have hln : (xs ++ [kindA 5]).length = m + 1 := by rw [List.length_append, HM.out]; rfl
  obtain ⟨l1, hl1⟩ : ∃ l1, xs ++ [kindA 5] = l1 := ⟨_, rfl⟩
  rw [hl1] at ho2 hls hln
  have HO2 := Lib.hid ho2
  have HLS := Lib.hid hls
  have HLN := Lib.hid hln
  have HAC := Lib.hid (HACT2.out W2 HB2.out)
  clear hown2 hgr2 ho2 hls hln hl1
  go_wp2_with fail
  refine HAC.out.mono ?_
  rintro e w3 ⟨A3, c3, zs, rfl, hzl, hzw, ho3, hb3⟩
  obtain ⟨p, hp⟩ : ∃ p, zs.length = p := ⟨_, rfl⟩
  rw [hp] at ho3 hzl ⊢
  have HP := Lib.hid hp
  have HZW := Lib.hid hzw
  have HZ := Lib.hid (Rep.of_own hp.symm ho3 (Nat.le_refl w3.heap.size))
  have HB3 := Lib.hid (HB2.out.trans (hb3.mono HB2.out.size))
  have HO3 := Lib.hid (own_below HO2.out hb3)
  clear hp hzw ho3 hb3
  go_wp2
  go_loopw [6, 21] (fun v t wr => ∃ (j : Nat) (ms : List Acn), j ≤ p ∧ t = .int .i64 j ∧ ms.length ≤ j ∧ Hid (∀ a ∈ ms, (a.kind = 2 ∨ a.kind = 3) ∧ a.wf) ∧ wr.ownsRow w3.heap.size 36 4 v ms.length (flat Acn.cell 4 ms) ∧ Below w3.heap.size w3 wr) (fun _ t _ => p - (intOf t).toNat)
  case atStart => exact ⟨0, [], Nat.zero_le _, rfl, Nat.le_refl _, Lib.hid (by simp), World.ownsRow_nil _ _ _ _, Below.refl _ _⟩
  case round =>
    obtain ⟨j, ms, hj, rfl, hml, hmk, hown, hbel⟩ := hrel
    obtain ⟨k, hk⟩ : ∃ k, ms.length = k := ⟨_, rfl⟩
    rw [hk] at hown hml
    have HKL := Lib.hid hk
    have HO := Lib.hid hown
    have HB := Lib.hid hbel
    by_cases hlt : j < p
    · have HZJ := Lib.hid (HZ.out.below hbel (Nat.le_refl _))
      obtain ⟨b, off, rfl, hb, hcs⟩ := HZJ.out.at_ hlt
      have a0 := hcs 0 (by omega)
      have a1 := hcs 1 (by omega)
      have a2 := hcs 2 (by omega)
      have a3 := hcs 3 (by omega)
      have hjl : j < zs.length := by have := HP.out; omega
      have hza := HZW.out _ (List.getElem_mem hjl)
      obtain ⟨a, ha⟩ : ∃ a, zs[j]'hjl = a := ⟨_, rfl⟩
      rw [ha] at a0 a1 a2 a3 hza
      obtain ⟨ak, ab, ad, aq⟩ := a
      dsimp only [Acn.cell] at a0 a1 a2 a3
      rw [Nat.add_zero] at a0
      have HZA := Lib.hid hza
      clear hk hown hbel hb hcs hza ha
      by_cases hkd : ak = 2 ∨ ak = 3
      · have hor : (decide (ak = 2) || decide (ak = 3)) = true := by rcases hkd with h | h <;> simp [h]
        have happ : ∀ (v' : Value) (W' : World), W'.ownsRow w3.heap.size 36 4 v' (k + 1) (flat Acn.cell 4 ms ++ [.int .i64 ak, .int .i64 ab, .string ad, .int .i64 aq]) → W'.ownsRow w3.heap.size 36 4 v' (ms ++ [(⟨ak, ab, ad, aq⟩ : Acn)]).length (flat Acn.cell 4 (ms ++ [(⟨ak, ab, ad, aq⟩ : Acn)])) := fun v' W' hW => by
          rw [flat_append, acn_flat1, List.length_append, HKL.out]; exact hW
        have HAPP := Lib.hid happ
        clear happ
        rcases hkd with rfl | rfl
        · go_wp2_with (go_loud (at_builtin; refine wpList_append_own _ rfl (.tmp 33) (.tmp 35) 23 rfl w3.heap.size 36 i0 _ 4 40 Tryd.underlying23 II.out IZ0.out IZ1.out IZ2.out rfl (by decide) _ _ _ rfl ((HO.out.alloc _).alloc _) ⟨wr.heap.size + 1, 0, none⟩ 1 1 [.int .i64 2, .int .i64 ab, .string ad, .int .i64 aq] rfl rfl (World.news_of_block (cs := #[.int .i64 2, .int .i64 ab, .string ad, .int .i64 aq]) (t := 36) (fr := (0, 0)) (by have := heap_alloc_new (wr.alloc (.cells #[.int .i64 2, .int .i64 ab, .string ad, .int .i64 aq] 36)) (.cells #[.int .i64 2, .int .i64 ab, .string ad, .int .i64 aq] 36); simpa using this)) (by simp [Value.oneCell']) (by unfold maxLen; omega) (by omega) (by have := HB.out.size; simp; omega) ?_; intro v' w4 hown4 hgr4 _))
          have HB4 := Lib.hid ((((HB.out.alloc HB.out.size _).alloc (by have := HB.out.size; simp; omega) _)).grown hgr4 (by have := HB.out.size; simp; omega) (fun k hk => (HO.out.lt k hk).1))
          have HO4 := Lib.hid (HAPP.out _ _ hown4)
          clear hown4 hgr4
          go_wp2
          go_roundw
          case rel =>
            refine ⟨j + 1, _, by omega, by go_num, ?_, Lib.hid (fun x hx => ?_), HO4.out, HB4.out⟩
            · rw [List.length_append, HKL.out]; simp; omega
            · rcases List.mem_append.1 hx with hx | hx
              · exact hmk.out x hx
              · rw [List.mem_singleton.1 hx]; exact ⟨by simp, HZA.out⟩
          case measure => simp [intOf]; omega
        · go_wp2_with (go_loud (at_builtin; refine wpList_append_own _ rfl (.tmp 33) (.tmp 35) 23 rfl w3.heap.size 36 i0 _ 4 40 Tryd.underlying23 II.out IZ0.out IZ1.out IZ2.out rfl (by decide) _ _ _ rfl ((HO.out.alloc _).alloc _) ⟨wr.heap.size + 1, 0, none⟩ 1 1 [.int .i64 3, .int .i64 ab, .string ad, .int .i64 aq] rfl rfl (World.news_of_block (cs := #[.int .i64 3, .int .i64 ab, .string ad, .int .i64 aq]) (t := 36) (fr := (0, 0)) (by have := heap_alloc_new (wr.alloc (.cells #[.int .i64 3, .int .i64 ab, .string ad, .int .i64 aq] 36)) (.cells #[.int .i64 3, .int .i64 ab, .string ad, .int .i64 aq] 36); simpa using this)) (by simp [Value.oneCell']) (by unfold maxLen; omega) (by omega) (by have := HB.out.size; simp; omega) ?_; intro v' w4 hown4 hgr4 _))
          have HB4 := Lib.hid ((((HB.out.alloc HB.out.size _).alloc (by have := HB.out.size; simp; omega) _)).grown hgr4 (by have := HB.out.size; simp; omega) (fun k hk => (HO.out.lt k hk).1))
          have HO4 := Lib.hid (HAPP.out _ _ hown4)
          clear hown4 hgr4
          go_wp2
          go_roundw
          case rel =>
            refine ⟨j + 1, _, by omega, by go_num, ?_, Lib.hid (fun x hx => ?_), HO4.out, HB4.out⟩
            · rw [List.length_append, HKL.out]; simp; omega
            · rcases List.mem_append.1 hx with hx | hx
              · exact hmk.out x hx
              · rw [List.mem_singleton.1 hx]; exact ⟨by simp, HZA.out⟩
          case measure => simp [intOf]; omega
      · have d2 : ak ≠ 2 := fun h => hkd (.inl h)
        have d3 : ak ≠ 3 := fun h => hkd (.inr h)
        clear hkd
        go_wp2
        go_roundw
        case rel => exact ⟨j + 1, ms, by omega, by go_num, by rw [HKL.out]; omega, hmk, by rw [HKL.out]; exact HO.out.alloc _, HB.out.alloc HB.out.size _⟩
        case measure => simp [intOf]; omega
    · obtain rfl : j = p := by omega
      obtain ⟨M, cm, rfl⟩ := own_slice2 hown
      obtain ⟨_, _, hvm, _, _, hnm⟩ := own_form hown
      simp only [Value.slice.injEq] at hvm
      obtain ⟨rfl, _, rfl⟩ := hvm
      have HNM := Lib.hid hnm
      have HB5 := Lib.hid (HB3.out.trans (hbel.mono HB3.out.size))
      have ho2 := own_below HO3.out (⟨hbel.os, hbel.tape, hbel.output, hbel.size, hbel.block⟩ : Below w3.heap.size w3 wr)
      obtain ⟨_, _, hv2, _, _, hn2⟩ := own_form ho2
      simp only [Value.slice.injEq] at hv2
      obtain ⟨rfl, _, rfl⟩ := hv2
      have HN2 := Lib.hid hn2
      have HO2 := Lib.hid ho2
      have HRD := Lib.hid (treads_any A2 (m + 1) c2 l1 wr (Rep.of_own HLN.out.symm ho2 (Nat.le_refl _)) (by omega) HLS.out)
      clear hk hown hbel hnm ho2 hn2
      go_wp2_with fail
      with_reducible refine HRD.out.mono ?_
      rintro e w6 ⟨A6, c6, rfl, p6, hb6⟩
      obtain ⟨rs, hrs⟩ : ∃ rs, readsR (runEs (eng0 8) l1).2.v = rs := ⟨_, rfl⟩
      rw [hrs] at p6 ⊢
      obtain ⟨q, hq⟩ : ∃ q, rs.length = q := ⟨_, rfl⟩
      rw [hq] at p6 ⊢
      have hab := aborted l1 ms (fun a ha => (hmk.out a ha).1)
      obtain ⟨w6a, hw6a⟩ : ∃ w6a, w6a = ((w6.alloc (.cells #[.int .i64 1, .int .i64 0, .string ⟨#[]⟩, .int .i64 0] 36)).alloc (.cells #[.int .i64 5, .int .i64 0, .string ⟨#[]⟩, .int .i64 0] 36)).alloc (.cells #[.slice A2 (m + 1) c2, .slice (some ⟨w6.heap.size, 0, none⟩) 1 1, .slice M k cm, .slice (some ⟨w6.heap.size + 1, 0, none⟩) 1 1] 23) := ⟨_, rfl⟩
      have hs6 : w6a.heap.size = w6.heap.size + 3 := by rw [hw6a]; simp
      have hal : Below w6.heap.size w6 w6a := by
        rw [hw6a]
        have a1 := (Below.refl w6.heap.size w6).alloc (Nat.le_refl _) (.cells #[.int .i64 1, .int .i64 0, .string ⟨#[]⟩, .int .i64 0] 36)
        have a2 := a1.alloc a1.size (.cells #[.int .i64 5, .int .i64 0, .string ⟨#[]⟩, .int .i64 0] 36)
        exact a2.alloc a2.size _
      have r1 : Rep w6a w6a.heap.size 4 Acn.cell A2 (m + 1) l1 := Rep.of_own HLN.out.symm (own_below (own_below HO2.out hb6) hal) (Nat.le_refl _)
      have r2 : Rep w6a w6a.heap.size 4 Acn.cell (some ⟨w6.heap.size, 0, none⟩) 1 [kindA 1] := by
        refine ⟨rfl, fun _ => ⟨w6.heap.size, 0, rfl, by omega, fun i hi t ht => ?_⟩⟩
        obtain rfl : i = 0 := by simpa using hi
        rw [hw6a]
        rcases (by omega : t = 0 ∨ t = 1 ∨ t = 2 ∨ t = 3) with rfl | rfl | rfl | rfl
        all_goals simp [go_sem, kindA, Acn.cell]
      have r3 : Rep w6a w6a.heap.size 4 Acn.cell M k ms := Rep.of_own HKL.out.symm (own_below (own_below HO.out hb6) hal) (Nat.le_refl _)
      have r4 : Rep w6a w6a.heap.size 4 Acn.cell (some ⟨w6.heap.size + 1, 0, none⟩) 1 [kindA 5] := by
        refine ⟨rfl, fun _ => ⟨w6.heap.size + 1, 0, rfl, by omega, fun i hi t ht => ?_⟩⟩
        obtain rfl : i = 0 := by simpa using hi
        rw [hw6a]
        rcases (by omega : t = 0 ∨ t = 1 ∨ t = 2 ∨ t = 3) with rfl | rfl | rfl | rfl
        all_goals simp [go_sem, kindA, Acn.cell]
      have hcc := concat_any [(A2, m + 1, c2, l1), (some ⟨w6.heap.size, 0, none⟩, 1, 1, [kindA 1]), (M, k, cm, ms), (some ⟨w6.heap.size + 1, 0, none⟩, 1, 1, [kindA 5])] 4 (w6.heap.size + 2) 0 w6a rfl (by omega) (fun i hi => by
          have hi4 : i < 4 := hi
          rw [hw6a]
          rcases (by omega : i = 0 ∨ i = 1 ∨ i = 2 ∨ i = 3) with rfl | rfl | rfl | rfl
          all_goals simp [go_sem, partV]) (by omega) (fun x hx => by
          simp only [List.mem_cons, List.not_mem_nil, or_false] at hx
          rcases hx with rfl | rfl | rfl | rfl
          · exact ⟨r1, HN2.out⟩
          · exact ⟨r2, fun h => by cases h⟩
          · exact ⟨r3, HNM.out⟩
          · exact ⟨r4, fun h => by cases h⟩) (by simp only [sumP, List.map_cons, List.map_nil, List.sum_cons, List.sum_nil]; omega) (by simp only [sumP, List.map_cons, List.map_nil, List.sum_cons, List.sum_nil]; omega)
      have hsum : sumP [(A2, m + 1, c2, l1), (some ⟨w6.heap.size, 0, none⟩, 1, 1, [kindA 1]), (M, k, cm, ms), (some ⟨w6.heap.size + 1, 0, none⟩, 1, 1, [kindA 5])] = m + k + 3 := by
        simp only [sumP, List.map_cons, List.map_nil, List.sum_cons, List.sum_nil]; omega
      have hcat : catP [(A2, m + 1, c2, l1), (some ⟨w6.heap.size, 0, none⟩, 1, 1, [kindA 1]), (M, k, cm, ms), (some ⟨w6.heap.size + 1, 0, none⟩, 1, 1, [kindA 5])] = ((l1 ++ [kindA 1]) ++ ms) ++ [kindA 5] := by
        simp [catP]
      rw [hsum, hcat] at hcc
      have hlw : ∀ a ∈ ((l1 ++ [kindA 1]) ++ ms) ++ [kindA 5], Acn.wf a := wf_app (wf_app (wf_app HLS.out (fun a ha => by rw [List.mem_singleton.1 ha]; exact wf_kind 1 rfl)) (fun a ha => (hmk.out a ha).2)) (fun a ha => by rw [List.mem_singleton.1 ha]; exact wf_kind 5 rfl)
      have hll : (((l1 ++ [kindA 1]) ++ ms) ++ [kindA 5]).length = m + k + 3 := by
        simp only [List.length_append, HLN.out, HKL.out, List.length_cons, List.length_nil]; omega
      obtain ⟨l2, hl2⟩ : ∃ l2, ((l1 ++ [kindA 1]) ++ ms) ++ [kindA 5] = l2 := ⟨_, rfl⟩
      rw [hl2] at hcc hlw hll hab
      have HCC := Lib.hid hcc
      have HLW := Lib.hid hlw
      have HLL := Lib.hid hll
      have HAB := Lib.hid hab
      have HRS := Lib.hid hrs
      have HQ := Lib.hid hq
      have HW6 := Lib.hid hw6a
      have HP6 := Lib.hid (own_below p6 hal)
      have hb66 := hb6.trans (hal.mono hb6.size)
      have HB6 := Lib.hid (HB5.out.trans (hb66.mono HB5.out.size))
      clear r1 r2 r3 r4 hcc hlw hll hab hrs hq hw6a p6 hb66 hal hb6 hl2 hsum hcat hs6
      go_wp2_with fail
      rw [← HW6.out]
      with_reducible refine HCC.out.mono ?_
      rintro e w7 ⟨A7, c7, rfl, ho7, hb7, _, _, _⟩
      have HRD7 := Lib.hid (treads_any A7 (m + k + 3) c7 l2 w7 (Rep.of_own HLL.out.symm ho7 (Nat.le_refl _)) (by omega) HLW.out)
      have HP7 := Lib.hid (own_below HP6.out hb7)
      have HB7 := Lib.hid (HB6.out.trans (hb7.mono HB6.out.size))
      clear ho7 hb7
      go_wp2_with fail
      with_reducible refine HRD7.out.mono ?_
      rintro e w8 ⟨A8, c8, rfl, p8, hb8⟩
      rw [HAB.out, HRS.out, HQ.out] at p8 ⊢
      have HP8 := Lib.hid (own_below HP7.out hb8)
      have HB8 := Lib.hid (HB7.out.trans (hb8.mono HB7.out.size))
      have HEQ := Lib.hid (equalStrQ A6 A8 q c6 c8 rs w8 (Rep.of_own HQ.out.symm HP8.out (Nat.le_refl _)) (Rep.of_own HQ.out.symm p8 (Nat.le_refl _)) (own_max p8))
      clear p8 hb8
      go_wp2_with fail
      with_reducible refine HEQ.out.mono ?_
      rintro e w9 ⟨rfl, j9, rfl⟩
      go_wp2
      go_ret
      exact ⟨rfl, below_drewN HB8.out _⟩
end Go.Proofs.YtphbebcbbfbgpacDoor
