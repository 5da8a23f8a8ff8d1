/- slices.Clone at items and at numbers: a new slice with the same rows. volume.Check answers 0 where the volume is valid, and 7 otherwise. saltcellarref.itemAt and VolumeMay. -/
import Derived.Test.YtphbebcbbfbgpacDoorOpen
import Derived.Test.YtphbebcbbfbgpacDoorProg
import Derived.Lib.SliceRun
import Derived.Test.YtphbebcbbfbgpacDoorRepBlock
import Derived.Test.YtphbebcbbfbgpacDoorPressRun
namespace Go.Proofs.YtphbebcbbfbgpacDoor
open Go Go.RowKit

theorem infoItem : (Tryd.prog.info? 42).map (fun i => (i.zero, i.size, i.bytes)) = some (some (.agg #[.int .i64 0, .string ByteArray.empty, .int .i64 0]), 3, 32) := by kernel_rfl
theorem infoInt : (Tryd.prog.info? 3).map (fun i => (i.zero, i.size, i.bytes)) = some (some (.int .i64 0), 1, 8) := by kernel_rfl

theorem itm_one (ls : List Itm) : ∀ u ∈ flat Itm.cell 3 ls, u.oneCell' = true := by
  intro u hu
  obtain ⟨j, hj⟩ := List.getElem?_of_mem hu
  obtain ⟨k, i, hk, hi, _, rfl⟩ := flat_split ls j u hj
  match i, hi with
  | 0, _ => rfl
  | 1, _ => rfl
  | 2, _ => rfl
theorem int_one (ls : List Int) : ∀ u ∈ flat intCell 1 ls, u.oneCell' = true := by
  intro u hu
  obtain ⟨j, hj⟩ := List.getElem?_of_mem hu
  obtain ⟨k, i, hk, hi, _, rfl⟩ := flat_split ls j u hj
  rfl

theorem cloneItems (A : Option Addr) (n c : Nat) (ls : List Itm) (w : World) (h : Rep w w.heap.size 3 Itm.cell A n ls) (hnil : A = none → n = 0 ∧ c = 0) (hr : n * 32 ≤ 140737488355328) :
    Calls Tryd.prog 46 #[.slice A n c] w (OwnPost w 42 3 n (flat Itm.cell 3 ls)) := by
  have qT : ∀ (w : World) (a : Option Addr) (n c n' c' : Nat), (binOp .eql 27 (.slice a n c) (.slice none n' c')).run Tryd.prog w = .ok (.bool a.isNone) w := fun w a n c n' c' => Lib.run_eql_slice_nil w _ _ a n c n' c' Tryd.underlying27
  obtain ⟨i0, hi, hz0, hz1, hz2⟩ := info_parts infoItem
  cases A with
  | none =>
    obtain ⟨rfl, rfl⟩ := hnil rfl
    obtain rfl : ls = [] := List.eq_nil_of_length_eq_zero h.1.symm
    clear h
    go_enter Tryd.func46, Tryd.ntmps46
    go_wp2
    go_ret
    exact OwnPost.mk' (World.ownsRow_nil _ _ _ _) (Below.refl _ _)
  | some ad =>
    have hl : (flat Itm.cell 3 ls).length = n * 3 := by rw [flat_length, h.1]
    have hc := h.flat_any
    have HL := Lib.hid hl
    have HC := Lib.hid hc
    have HI := Lib.hid hi
    have HZ0 := Lib.hid hz0
    have HZ1 := Lib.hid hz1
    have HZ2 := Lib.hid hz2
    have hon : (w.alloc (.cells #[] 42)).ownsRow w.heap.size 42 3 (.slice (some ⟨w.heap.size, 0, none⟩) 0 0) 0 [] := World.ownsRow_made w #[] 0 (Nat.le_refl _) (by unfold maxLen; omega) rfl
    have HO := Lib.hid hon
    have hlt : ∀ j u, (flat Itm.cell 3 ls)[j]? = some u → (w.alloc (.cells #[] 42)).cell? (ad.add j) = some u := fun j u hu => by
      have := hc j u hu
      rw [World.cell?_alloc_lt _ _ _ (World.block_lt_of_cell? w _ this)]; exact this
    have HT := Lib.hid hlt
    clear hl hc hi hz0 hz1 hz2 h hnil hon hlt
    go_enter Tryd.func46, Tryd.ntmps46
    go_wp2_with (at_builtin; refine wpList_append_own _ rfl _ _ 27 rfl w.heap.size 42 i0 _ 3 32 Tryd.underlying27 HI.out HZ0.out HZ1.out HZ2.out rfl (by decide) _ _ _ rfl HO.out ad n c (flat Itm.cell 3 ls) rfl HL.out HT.out (itm_one ls) (by unfold maxLen; omega) (by omega) (by simp) ?_; intro v' w1 hown hgr _)
    go_ret
    exact OwnPost.mk' (by simpa using hown) (((Below.refl _ _).alloc (Nat.le_refl _) _).grown hgr (by simp) (by intro k hk; cases hk; exact Nat.le_refl _))
theorem cloneInts (A : Option Addr) (n c : Nat) (ls : List Int) (w : World) (h : Rep w w.heap.size 1 intCell A n ls) (hnil : A = none → n = 0 ∧ c = 0) (hr : n * 8 ≤ 140737488355328) :
    Calls Tryd.prog 70 #[.slice A n c] w (OwnPost w 3 1 n (flat intCell 1 ls)) := by
  have qT : ∀ (w : World) (a : Option Addr) (n c n' c' : Nat), (binOp .eql 28 (.slice a n c) (.slice none n' c')).run Tryd.prog w = .ok (.bool a.isNone) w := fun w a n c n' c' => Lib.run_eql_slice_nil w _ _ a n c n' c' Tryd.underlying28
  obtain ⟨i0, hi, hz0, hz1, hz2⟩ := info_parts infoInt
  cases A with
  | none =>
    obtain ⟨rfl, rfl⟩ := hnil rfl
    obtain rfl : ls = [] := List.eq_nil_of_length_eq_zero h.1.symm
    clear h
    go_enter Tryd.func70, Tryd.ntmps70
    go_wp2
    go_ret
    exact OwnPost.mk' (World.ownsRow_nil _ _ _ _) (Below.refl _ _)
  | some ad =>
    have hl : (flat intCell 1 ls).length = n * 1 := by rw [flat_length, h.1]
    have hc := h.flat_any
    have HL := Lib.hid hl
    have HC := Lib.hid hc
    have HI := Lib.hid hi
    have HZ0 := Lib.hid hz0
    have HZ1 := Lib.hid hz1
    have HZ2 := Lib.hid hz2
    have hon : (w.alloc (.cells #[] 3)).ownsRow w.heap.size 3 1 (.slice (some ⟨w.heap.size, 0, none⟩) 0 0) 0 [] := World.ownsRow_made w #[] 0 (Nat.le_refl _) (by unfold maxLen; omega) rfl
    have HO := Lib.hid hon
    have hlt : ∀ j u, (flat intCell 1 ls)[j]? = some u → (w.alloc (.cells #[] 3)).cell? (ad.add j) = some u := fun j u hu => by
      have := hc j u hu
      rw [World.cell?_alloc_lt _ _ _ (World.block_lt_of_cell? w _ this)]; exact this
    have HT := Lib.hid hlt
    clear hl hc hi hz0 hz1 hz2 h hnil hon hlt
    go_enter Tryd.func70, Tryd.ntmps70
    go_wp2_with (at_builtin; refine wpList_append_own _ rfl _ _ 28 rfl w.heap.size 3 i0 _ 1 8 Tryd.underlying28 HI.out HZ0.out HZ1.out HZ2.out rfl (by decide) _ _ _ rfl HO.out ad n c (flat intCell 1 ls) rfl HL.out HT.out (int_one ls) (by unfold maxLen; omega) (by omega) (by simp) ?_; intro v' w1 hown hgr _)
    go_ret
    exact OwnPost.mk' (by simpa using hown) (((Below.refl _ _).alloc (Nat.le_refl _) _).grown hgr (by simp) (by intro k hk; cases hk; exact Nat.le_refl _))
end Go.Proofs.YtphbebcbbfbgpacDoor

namespace Go.Proofs.YtphbebcbbfbgpacDoor
open Go Go.RowKit

theorem zeroInt (w : World) : (zeroValue 3).run Tryd.prog w = .ok (.int .i64 0) w := by kernel_rfl

def VCheckPost (ls : List Itm) (bs : List Int) (e : Ending) : Prop := e = .returned (.int .i64 (goodVN ls bs))

theorem ints_at {w : World} {B n k : Nat} {A : Option Addr} {ls : List Int} (h : Rep w B 1 intCell A n ls) (hk : k < n) :
    ∃ b off, A = some ⟨b, off, none⟩ ∧ b < B ∧ w.cell? ⟨b, off + k, none⟩ = some (.int .i64 (ls[k]'(by have := h.1; omega))) := by
  obtain ⟨b, off, e, hb, hc⟩ := h.at_ hk
  exact ⟨b, off, e, hb, by have := hc 0 (by omega); rw [Nat.mul_one] at this; exact this⟩
theorem ints_of {w : World} {B n k b off : Nat} {ls : List Int} (h : Rep w B 1 intCell (some ⟨b, off, none⟩) n ls) (hk : k < n) :
    b < B ∧ w.cell? ⟨b, off + k, none⟩ = some (.int .i64 (ls[k]'(by have := h.1; omega))) := by
  obtain ⟨b', off', e, hb, c0⟩ := ints_at h hk
  simp only [Option.some.injEq, Addr.mk.injEq, and_true] at e
  obtain ⟨rfl, rfl⟩ := e
  exact ⟨hb, c0⟩

set_option maxHeartbeats 4000000 in
theorem volCheck_any (A B : Option Addr) (n c m d : Nat) (ls : List Itm) (bs : List Int) (w : World) (h : Rep w w.heap.size 3 Itm.cell A n ls) (h' : Rep w w.heap.size 1 intCell B m bs)
    (hn : n ≤ maxLen) (hm : m ≤ maxLen) (hok : ∀ b ∈ bs, i64Ok b) :
    Calls Tryd.prog 18 #[.agg #[.slice A n c, .slice B m d]] w fun e w' => VCheckPost ls bs e ∧ Below w.heap.size w w' := by
  have hc : ∀ W, Below w.heap.size w W → Calls Tryd.prog 29 #[.slice A n c] W fun e w' => CheckPost ls e ∧ Below W.heap.size W w' :=
    fun W hb => check_any A n c ls W ((h.below hb (Nat.le_refl _)).mono hb.size) hn
  have HC := Lib.hid hc
  have H := Lib.hid h
  have H' := Lib.hid h'
  have HOK := Lib.hid hok
  clear hc h h' hok
  unfold maxLen at hn hm
  have hba := (Below.refl w.heap.size w).alloc (Nat.le_refl _) (.cells #[.slice A n c, .slice B m d] 30)
  have HBA := Lib.hid hba
  clear hba
  have hmm := @run_makeMap Tryd.prog
  by_cases g : Good ls
  · have e2 : goodN ls = 0 := by rw [goodN_eq, goodB_true g]; rfl
    have E2 := Lib.hid e2
    have G := Lib.hid g
    clear e2 g
    by_cases h1 : (m : Int) < 1
    · have e3 : goodVN ls bs = 7 := goodVN_no (fun gv => by have := gv.lo; have := H'.out.1; omega)
      have E3 := Lib.hid e3
      have d1 := decide_eq_true h1
      clear e3
      go_enter Tryd.func18, Tryd.ntmps18
      go_wp2_with fail
      refine (HC.out _ HBA.out).mono ?_
      rintro e w1 ⟨he, hb1⟩
      rw [CheckPost, E2.out] at he
      subst he
      have a1 : w1.cell? ⟨w.heap.size, 1, none⟩ = some (.slice B m d) := (hb1.cell (by simp)).trans (by simp [go_sem])
      have HB1 : Hid (Below w.heap.size w w1) := Lib.hid (HBA.out.trans (hb1.mono HBA.out.size))
      clear hb1
      go_wp2
      go_ret
      exact ⟨by rw [VCheckPost, E3.out]; rfl, HB1.out⟩
    by_cases h2 : (32 : Int) < (m : Int)
    · have e3 : goodVN ls bs = 7 := goodVN_no (fun gv => by have := gv.hi; have := H'.out.1; omega)
      have E3 := Lib.hid e3
      have d1 := decide_eq_false h1
      have d2 := decide_eq_true h2
      clear e3
      go_enter Tryd.func18, Tryd.ntmps18
      go_wp2_with fail
      refine (HC.out _ HBA.out).mono ?_
      rintro e w1 ⟨he, hb1⟩
      rw [CheckPost, E2.out] at he
      subst he
      have a1 : w1.cell? ⟨w.heap.size, 1, none⟩ = some (.slice B m d) := (hb1.cell (by simp)).trans (by simp [go_sem])
      have HB1 : Hid (Below w.heap.size w w1) := Lib.hid (HBA.out.trans (hb1.mono HBA.out.size))
      clear hb1
      go_wp2
      go_ret
      exact ⟨by rw [VCheckPost, E3.out]; rfl, HB1.out⟩
    have d1 := decide_eq_false h1
    have d2 := decide_eq_false h2
    go_enter Tryd.func18, Tryd.ntmps18
    go_wp2_with fail
    refine (HC.out _ HBA.out).mono ?_
    rintro e w1 ⟨he, hb1⟩
    rw [CheckPost, E2.out] at he
    subst he
    have a0 : w1.cell? ⟨w.heap.size, 0, none⟩ = some (.slice A n c) := (hb1.cell (by simp)).trans (by simp [go_sem])
    have a1 : w1.cell? ⟨w.heap.size, 1, none⟩ = some (.slice B m d) := (hb1.cell (by simp)).trans (by simp [go_sem])
    have hsz : w.heap.size < w1.heap.size := by have := hb1.size; simp at this; omega
    have hbw : Below w.heap.size w w1 := HBA.out.trans (hb1.mono HBA.out.size)
    have HB1 := Lib.hid hbw
    clear hb1 hbw
    go_wp2
    go_loopw [28] (fun i wr => ∃ k : Nat, k ≤ m ∧ i = .int .i64 k ∧ Below w1.heap.size w1 wr ∧ CntMap Tryd.prog 3 3 wr w1.heap.size (notEmpty (bs.take k)) ∧ Hid (∀ b ∈ bs.take k, -1 ≤ b)) (fun i _ => m - (intOf i).toNat)
    case atStart => exact ⟨0, Nat.zero_le _, rfl, (Below.refl _ _).alloc (Nat.le_refl _) _, CntMap.made _ _ _ _, Lib.hid (by simp)⟩
    case round =>
      obtain ⟨k, hk, rfl, hbel, hcnt, hge⟩ := hrel
      have HW : Hid (Below w.heap.size w wr) := Lib.hid (HB1.out.trans (hbel.mono HB1.out.size))
      have HBW := Lib.hid hbel
      have HCNT := Lib.hid hcnt
      clear hbel hcnt
      by_cases hlt : k < m
      · obtain ⟨b, off, rfl, hb, c0⟩ := ints_at (H'.out.below HW.out (Nat.le_refl _)) hlt
        have hkl : k < bs.length := by have := H'.out.1; omega
        have hxok := HOK.out _ (List.getElem_mem hkl)
        obtain ⟨x, hx⟩ : ∃ x, bs[k]'hkl = x := ⟨_, rfl⟩
        rw [hx] at c0 hxok
        have HXO := Lib.hid hxok
        have HX := Lib.hid hx
        clear hx hxok hb
        by_cases h3 : x < -1
        · have d3 := decide_eq_true h3
          have e3 : goodVN ls bs = 7 := goodVN_no (fun gv => by have := gv.ge x (by rw [← HX.out]; exact List.getElem_mem hkl); omega)
          have E3 := Lib.hid e3
          clear e3
          go_wp2
          go_ret
          exact ⟨by rw [VCheckPost, E3.out]; rfl, HW.out⟩
        have d3 := decide_eq_false h3
        have hge' : ∀ b ∈ bs.take (k + 1), -1 ≤ b := by
          intro b hb
          rw [take_snoc bs k hkl, HX.out] at hb
          rcases List.mem_append.1 hb with hb | hb
          · exact hge.out b hb
          · rw [List.mem_singleton.1 hb]; omega
        have HG := Lib.hid hge'
        clear hge'
        by_cases h4 : 0 ≤ x
        · have d4 := decide_eq_true h4
          have hlook := HCNT.out.lookup Tryd.underlying3 Tryd.underlying3 Tryd.underlying90 (zeroInt _) HXO.out
          have hcl : (notEmpty (bs.take k)).count x ≤ 32 := by
            have h5 : (notEmpty (bs.take k)).count x ≤ (notEmpty (bs.take k)).length := List.count_le_length
            have h6 : (notEmpty (bs.take k)).length ≤ (bs.take k).length := List.length_filter_le _ _
            rw [List.length_take] at h6
            omega
          have hln : (notEmpty (bs.take k)).length < maxLen := by
            have h6 : (notEmpty (bs.take k)).length ≤ (bs.take k).length := List.length_filter_le _ _
            rw [List.length_take] at h6
            unfold maxLen; omega
          have HLN := Lib.hid hln
          have htk : notEmpty (bs.take k) ++ [x] = notEmpty (bs.take (k + 1)) := by rw [take_snoc bs k hkl, HX.out, notEmpty_snoc, if_pos h4]
          have HTK := Lib.hid htk
          clear hln htk
          go_wp2_with (at_mapUpdate; refine wpList_cntMap_put (P := Tryd.prog) rfl _ _ _ 90 rfl Tryd.underlying3 Tryd.underlying3 Tryd.underlying90 x rfl rfl rfl HCNT.out HXO.out HLN.out ?_; intro w2 hset1 hg1)
          rw [HTK.out] at hset1
          go_wp2
          go_roundw
          case rel => exact ⟨k + 1, by omega, by go_num, HBW.out.grown hg1 HBW.out.size (by intro j hj; cases hj; exact Nat.le_refl _), hset1, HG⟩
          case measure => simp [intOf]; omega
        · have d4 := decide_eq_false h4
          have htk : notEmpty (bs.take k) = notEmpty (bs.take (k + 1)) := by rw [take_snoc bs k hkl, HX.out, notEmpty_snoc, if_neg h4]
          have hset := HCNT.out
          rw [htk] at hset
          have HS := Lib.hid hset
          clear htk hset
          go_wp2
          go_roundw
          case rel => exact ⟨k + 1, by omega, by go_num, HBW.out, HS.out, HG⟩
          case measure => simp [intOf]; omega
      · obtain rfl : k = m := by omega
        have a0 : wr.cell? ⟨w.heap.size, 0, none⟩ = some (.slice A n c) := (HBW.out.cell hsz).trans a0
        have a1 : wr.cell? ⟨w.heap.size, 1, none⟩ = some (.slice B k d) := (HBW.out.cell hsz).trans a1
        have hbs : bs.take k = bs := List.take_of_length_le (by have := H'.out.1; omega)
        have hcn := HCNT.out
        rw [hbs] at hcn
        have hgb := hge.out
        rw [hbs] at hgb
        have HCN := Lib.hid hcn
        have HGB := Lib.hid hgb
        clear hbs hcn hgb
        go_wp2
        obtain ⟨wo, rfl⟩ : ∃ wo : World, wo = wr := ⟨_, rfl⟩
        have A0 := Lib.hid a0
        clear a0 a1
        go_loopw [44] (fun i wr => ∃ j : Nat, j ≤ n ∧ i = .int .i64 j ∧ Below wo.heap.size wo wr ∧ Hid (∀ x ∈ ls.take j, ((notEmpty bs).count x.id : Int) = x.refs ∧ x.data.size ≠ 0)) (fun i _ => n - (intOf i).toNat)
        case atStart => exact ⟨0, Nat.zero_le _, rfl, Below.refl _ _, Lib.hid (by simp)⟩
        case round =>
          obtain ⟨j, hj, rfl, hbel, hall⟩ := hrel
          have HWr : Hid (Below w.heap.size w wr) := Lib.hid (HW.out.trans (hbel.mono HW.out.size))
          have HBR := Lib.hid hbel
          clear hbel
          by_cases hlj : j < n
          · obtain ⟨b, off, rfl, hb, c0, c1, c2⟩ := items_at (H.out.below HWr.out (Nat.le_refl _)) hlj
            have hjl : j < ls.length := by have := H.out.1; omega
            have hxok := G.out.2.ok _ (List.getElem_mem hjl)
            obtain ⟨x, hx⟩ : ∃ x, ls[j]'hjl = x := ⟨_, rfl⟩
            rw [hx] at c0 c1 c2 hxok
            have hmem : x ∈ ls := by rw [← hx]; exact List.getElem_mem hjl
            have htk : ls.take (j + 1) = ls.take j ++ [x] := by rw [take_snoc ls j hjl, hx]
            obtain ⟨xi, xd, xr⟩ := x
            dsimp only at c0 c1 c2
            have hx1 : 0 ≤ xi := hxok.1
            have hx2 : xi < 24 := hxok.2.1
            have hlook := ((HCN.out.below HBR.out).alloc (.cells #[.int .i64 xi, .string xd, .int .i64 xr] 42)).lookup Tryd.underlying3 Tryd.underlying3 Tryd.underlying90 (zeroInt _) (x := xi) (WalkArith.wf_i64 (by omega))
            have HM := Lib.hid hmem
            have HTK := Lib.hid htk
            have HBA2 : Hid (Below w.heap.size w (wr.alloc (.cells #[.int .i64 xi, .string xd, .int .i64 xr] 42))) := Lib.hid (HWr.out.alloc HWr.out.size _)
            have HBA3 : Hid (Below wo.heap.size wo (wr.alloc (.cells #[.int .i64 xi, .string xd, .int .i64 xr] 42))) := Lib.hid (HBR.out.alloc HBR.out.size _)
            clear hx hb hxok hmem htk
            by_cases h5 : ((notEmpty bs).count xi : Int) = xr
            · have d5 : (((notEmpty bs).count xi : Int) != xr) = false := by simp [h5]
              have H5 := Lib.hid h5
              clear h5
              by_cases h6 : xd.size = 0
              · have d6 := isEmpty_yes h6
                have e3 : goodVN ls bs = 7 := goodVN_no (fun gv => gv.data _ HM.out h6)
                have E3 := Lib.hid e3
                clear e3 h6
                go_wp2
                go_ret
                exact ⟨by rw [VCheckPost, E3.out]; rfl, HBA2.out⟩
              · have d6 := isEmpty_no h6
                have hstep : ∀ x ∈ ls.take (j + 1), ((notEmpty bs).count x.id : Int) = x.refs ∧ x.data.size ≠ 0 := by
                  intro x hx
                  rw [HTK.out] at hx
                  rcases List.mem_append.1 hx with hx | hx
                  · exact hall.out x hx
                  · rw [List.mem_singleton.1 hx]; exact ⟨H5.out, h6⟩
                have HS := Lib.hid hstep
                clear hstep h6
                go_wp2
                go_roundw
                case rel => exact ⟨j + 1, by omega, by go_num, HBA3.out, HS⟩
                case measure => simp [intOf]; omega
            · have d5 : (((notEmpty bs).count xi : Int) != xr) = true := by simpa using h5
              have e3 : goodVN ls bs = 7 := goodVN_no (fun gv => h5 (by rw [count_notEmpty hx1]; exact gv.refs _ HM.out))
              have E3 := Lib.hid e3
              clear e3 h5
              go_wp2
              go_ret
              exact ⟨by rw [VCheckPost, E3.out]; rfl, HBA2.out⟩
          · obtain rfl : j = n := by omega
            have hls : ls.take j = ls := List.take_of_length_le (by have := H.out.1; omega)
            have hiff := goodVol_iff G.out (bs := bs) (by have := H'.out.1; omega) (by have := H'.out.1; omega) HGB.out (fun x hx => (hall.out x (by rw [hls]; exact hx)).1) (fun x hx => (hall.out x (by rw [hls]; exact hx)).2)
            have hlen := (HCN.out.below HBR.out).len Tryd.underlying90 3
            have a0 : wr.cell? ⟨w.heap.size, 0, none⟩ = some (.slice A j c) := (HBR.out.cell (p := ⟨w.heap.size, 0, none⟩) (by have := HW.out.size; have := HBW.out.size; dsimp only; omega)).trans A0.out
            have hll := H.out.1
            by_cases h7 : (dedupeI (notEmpty bs)).length = ls.length
            · have d7 : (((dedupeI (notEmpty bs)).length : Int) != (j : Int)) = false := by simp; omega
              have E3 := Lib.hid (goodVN_yes (hiff.2 h7))
              clear hiff hls h7 hll
              go_wp2
              go_ret
              exact ⟨by rw [VCheckPost, E3.out]; rfl, HWr.out⟩
            · have d7 : (((dedupeI (notEmpty bs)).length : Int) != (j : Int)) = true := by simp; omega
              have E3 := Lib.hid (goodVN_no (fun gv => h7 (hiff.1 gv)))
              clear hiff hls h7 hll
              go_wp2
              go_ret
              exact ⟨by rw [VCheckPost, E3.out]; rfl, HWr.out⟩
  · have e2 : goodN ls = 7 := by rw [goodN_eq, goodB_false g]; rfl
    have E2 := Lib.hid e2
    have e3 : goodVN ls bs = 7 := goodVN_no (fun gv => g gv.good)
    have E3 := Lib.hid e3
    clear e2 g e3
    go_enter Tryd.func18, Tryd.ntmps18
    go_wp2_with fail
    refine (HC.out _ HBA.out).mono ?_
    rintro e w1 ⟨he, hb1⟩
    rw [CheckPost, E2.out] at he
    subst he
    have HB1 : Hid (Below w.heap.size w w1) := Lib.hid (HBA.out.trans (hb1.mono HBA.out.size))
    clear hb1
    go_wp2
    go_ret
    exact ⟨by rw [VCheckPost, E3.out]; rfl, HB1.out⟩
#print axioms volCheck_any
end Go.Proofs.YtphbebcbbfbgpacDoor

namespace Go.Proofs.YtphbebcbbfbgpacDoor
open Go Go.RowKit

def VMayPost (ls : List Itm) (bs : List Int) (e : Ending) : Prop := e = .returned (.bool (goodVB ls bs))

theorem firstAt {ls : List Itm} {id : Int} (h : ∃ x ∈ ls, x.id = id) : ∃ k, ∃ hk : k < ls.length, ls[k].id = id ∧ ∀ j (hj : j < k), (ls[j]'(by omega)).id ≠ id := by
  induction ls with
  | nil => simp at h
  | cons a ls ih =>
    by_cases ha : a.id = id
    · exact ⟨0, by simp, ha, fun j hj => absurd hj (by omega)⟩
    · obtain ⟨x, hx, e⟩ := h
      have hx' : x ∈ ls := by
        rcases List.mem_cons.1 hx with rfl | hx
        · exact absurd e ha
        · exact hx
      obtain ⟨k, hk, h1, h2⟩ := ih ⟨x, hx', e⟩
      refine ⟨k + 1, by simp; omega, by simpa using h1, fun j hj => ?_⟩
      cases j with
      | zero => simpa using ha
      | succ j => simpa using h2 j (by omega)


end Go.Proofs.YtphbebcbbfbgpacDoor
