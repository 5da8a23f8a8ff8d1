/- saltcellarkeep.Writes: writes out of raw numbers, in order of their blocks. saltcellarkeep.Volume: a volume out of raw numbers. What the laws over volumes call, its results by name: volume.Apply, saltcellarkeep.Reads, slices.Clone at writes; writes that turn back, in plain Lean. The law WritesRead returns true for all raw numbers. -/
import Derived.Test.YtphbebcbbfbgpacDoorContainsW
import Derived.Test.YtphbebcbbfbgpacDoorSortW
import Derived.Test.YtphbebcbbfbgpacDoorData
import Derived.Test.YtphbebcbbfbgpacDoorBytes
import Derived.Test.YtphbebcbbfbgpacDoorTopKit
import Derived.Test.YtphbebcbbfbgpacDoorLogFirstP
import Derived.Deep.RegionHeld3
import Derived.Test.YtphbebcbbfbgpacDoorApply
import Derived.Test.YtphbebcbbfbgpacDoorVolNew
import Derived.Test.YtphbebcbbfbgpacDoorEngCrashed
import Derived.Test.YtphbebcbbfbgpacDoorRepBlock
import Derived.Lib.SliceRun
namespace Go.Proofs.YtphbebcbbfbgpacDoor
open Go Go.RowKit Go.Sort Go.Shelf
set_option linter.unusedSimpArgs false
set_option linter.unusedVariables false

/-- what the writes out of raw numbers are like -/
structure RawW (ws : List Wrt) (nb : Nat) : Prop where
  len : ws.length ≤ 12
  rng : ∀ x ∈ ws, 0 ≤ x.block ∧ x.block < nb
  data : ∀ x ∈ ws, ∃ r, x.data = dataR r
  asc : ws.Pairwise (fun x y => x.block < y.block)
theorem RawW.good {ws : List Wrt} {nb : Nat} (h : RawW ws nb) : GoodW ws nb :=
  ⟨h.len, fun x hx => (h.rng x hx).1, fun x hx => (h.rng x hx).2, fun x hx => by obtain ⟨r, e⟩ := h.data x hx; rw [e]; have := dataR_size r; omega, h.asc⟩
def WritesPost (w : World) (n nb : Nat) (e : Ending) (w' : World) : Prop :=
  ∃ A c ws, e = .returned (.slice A ws.length c) ∧ ws.length ≤ n ∧ (0 < n → 0 < ws.length) ∧ RawW ws nb ∧ w'.ownsRow w.heap.size 55 2 (.slice A ws.length c) ws.length (flat Wrt.cell 2 ws) ∧ Below w.heap.size w w'

theorem keepS {R : Nat → Prop} {w6 w7 : World} (hT : Touch R w6 w7) {q b o : Nat} (hq : q < w6.heap.size) (hb : b < w6.heap.size) (nq : ¬ R q) (nb : ¬ R b) {u0 u1 u2 u3 u4 : Value}
    (h : w6.cell? ⟨q, 0, none⟩ = some u0 ∧ w6.cell? ⟨b, o, none⟩ = some u1 ∧ w6.cell? ⟨b, o + 1, none⟩ = some u2 ∧ w6.cell? ⟨b, o + 2, none⟩ = some u3 ∧ w6.cell? ⟨b, o + 3, none⟩ = some u4) :
    w7.cell? ⟨q, 0, none⟩ = some u0 ∧ w7.cell? ⟨b, o, none⟩ = some u1 ∧ w7.cell? ⟨b, o + 1, none⟩ = some u2 ∧ w7.cell? ⟨b, o + 2, none⟩ = some u3 ∧ w7.cell? ⟨b, o + 3, none⟩ = some u4 :=
  ⟨(hT.cell (p := ⟨q, 0, none⟩) hq nq).trans h.1, (hT.cell (p := ⟨b, o, none⟩) hb nb).trans h.2.1, (hT.cell (p := ⟨b, o + 1, none⟩) hb nb).trans h.2.2.1, (hT.cell (p := ⟨b, o + 2, none⟩) hb nb).trans h.2.2.2.1, (hT.cell (p := ⟨b, o + 3, none⟩) hb nb).trans h.2.2.2.2⟩

set_option maxRecDepth 100000 in
set_option maxHeartbeats 4000000 in
theorem writesK_any (A : Option Addr) (n c nb : Nat) (ls : List Raw) (w : World) (h : Rep w w.heap.size 4 Raw.cell A n ls) (hn : n ≤ maxLen) (hwf : ∀ a ∈ ls, a.wf) (h0 : 0 < nb) (hnb : nb ≤ 100) :
    Calls Tryd.prog 30 #[.slice A n c, .int .i64 nb] w (WritesPost w n nb) := by
  have hmf : ∀ (fn : Fn) (first cap : Array Value) (w : World), (Instr.makeFunc fn first cap).run Tryd.prog w = .ok (.func fn first cap) w := fun _ _ _ _ => rfl
  have H := Lib.hid h
  have HL := Lib.hid h.1
  have HWF := Lib.hid hwf
  obtain ⟨i0, ii, iz0, iz1, iz2⟩ := info_parts infoWrite
  have II := Lib.hid ii
  have IZ0 := Lib.hid iz0
  have IZ1 := Lib.hid iz1
  have IZ2 := Lib.hid iz2
  unfold maxLen at hn
  clear h hwf ii iz0 iz1 iz2
  go_enter Tryd.func30, Tryd.ntmps30
  go_wp2
  go_loopw [5, 6] (fun v t wr => ∃ (i k : Nat) (ws : List Wrt), i ≤ n ∧ t = .int .i64 i ∧ ws.length = k ∧ k ≤ 12 ∧ k ≤ i ∧ (0 < i → 0 < k) ∧ Hid ((∀ x ∈ ws, (0 ≤ x.block ∧ x.block < nb) ∧ ∃ r, x.data = dataR r) ∧ (ws.map (·.block)).Nodup) ∧ wr.ownsRow w.heap.size 55 2 v k (flat Wrt.cell 2 ws) ∧ Below w.heap.size w wr) (fun _ t _ => n - (intOf t).toNat)
  case atStart => exact ⟨0, 0, [], Nat.zero_le _, rfl, rfl, Nat.zero_le _, Nat.zero_le _, fun h => absurd h (by omega), Lib.hid (by simp), World.ownsRow_nil _ _ _ _, Below.refl _ _⟩
  case round =>
    obtain ⟨i, k, ws, hi, rfl, hk, hk12, hki, hpos, hws, hown, hbel⟩ := hrel
    obtain ⟨Ao, co, rfl⟩ := own_slice2 hown
    have HO := Lib.hid hown
    have HB := Lib.hid hbel
    have HK := Lib.hid hk
    by_cases hlt : i < n ∧ k < 12
    · obtain ⟨hlt, hlt2⟩ := hlt
      obtain ⟨b, off, rfl, hb, a0, a1, a2, a3⟩ := raws_at (k := i) (H.out.below hbel (Nat.le_refl _)) hlt
      have hil : i < ls.length := by have := HL.out; omega
      have hwa := HWF.out _ (List.getElem_mem hil)
      obtain ⟨r, hr⟩ : ∃ r, ls[i]'hil = r := ⟨_, rfl⟩
      rw [hr] at a0 a1 a2 a3 hwa
      have hdat := fun W => data_any r W hwa
      have hds := dataR_size r
      obtain ⟨s, hs⟩ : ∃ s, dataR r = s := ⟨_, rfl⟩
      rw [hs] at hdat hds
      have hpk : ∀ W, Calls Tryd.prog 15 #[.int .i64 r.c, .int .i64 nb] W fun e w' => e = .returned (.int .i64 (pickN r.c nb)) ∧ W = w' := fun W => picked_any r.c nb W hwa.2.2.2 h0 (by omega)
      have hpl := pickN_lt r.c h0
      obtain ⟨p, hp⟩ : ∃ p, pickN r.c nb = p := ⟨_, rfl⟩
      rw [hp] at hpk hpl
      have HDS : Hid (∃ r, s = dataR r) := Lib.hid ⟨r, hs.symm⟩
      obtain ⟨rk, ra, rb, rc⟩ := r
      dsimp only at a0 a1 a2 a3 hdat hpk
      have HDAT := Lib.hid hdat
      have HPK := Lib.hid hpk
      obtain ⟨q, hq⟩ : ∃ q, wr.heap.size = q := ⟨_, rfl⟩
      obtain ⟨wb, hwb⟩ : ∃ wb, wb = wr.alloc (.cells #[.int .i64 p] 3) := ⟨_, rfl⟩
      have hbb : Below wr.heap.size wr wb := by rw [hwb]; exact (Below.refl _ _).alloc (Nat.le_refl _) _
      have hcb : wb.cell? ⟨q, 0, none⟩ = some (.int .i64 p) := by rw [hwb, ← hq]; simp [go_sem]
      have hqb : q < wb.heap.size := by rw [hwb, ← hq]; simp
      have hob := own_below hown hbb
      have hbw := hbel.trans (hbb.mono hbel.size)
      have hog : ∀ g, (Value.slice Ao k co).ownBlock = some g → g ≠ q := fun g hg e => by have := (hown.lt g hg).2; omega
      have hkeep : ∀ W, Below wb.heap.size wb W → W.cell? ⟨q, 0, none⟩ = some (.int .i64 p) ∧ W.cell? ⟨b, off + i * 4, none⟩ = some (.int .i64 rk) ∧ W.cell? ⟨b, off + i * 4 + 1, none⟩ = some (.int .i64 ra) ∧ W.cell? ⟨b, off + i * 4 + 2, none⟩ = some (.int .i64 rb) ∧ W.cell? ⟨b, off + i * 4 + 3, none⟩ = some (.int .i64 rc) := fun W hW => by
        have hW' : Below wr.heap.size wr W := hbb.trans (hW.mono hbb.size)
        have hbr : b < wr.heap.size := Nat.lt_of_lt_of_le hb hbel.size
        exact ⟨(hW.cell (p := ⟨q, 0, none⟩) hqb).trans hcb, (hW'.cell (p := ⟨b, off + i * 4, none⟩) hbr).trans a0, (hW'.cell (p := ⟨b, off + i * 4 + 1, none⟩) hbr).trans a1, (hW'.cell (p := ⟨b, off + i * 4 + 2, none⟩) hbr).trans a2, (hW'.cell (p := ⟨b, off + i * 4 + 3, none⟩) hbr).trans a3⟩
      have HCON := Lib.hid (containsW p q Ao k co ws wb (Rep.of_own hk.symm hob (Nat.le_refl _)) (by omega) hcb hqb)
      have HKEEP := Lib.hid hkeep
      have HOB := Lib.hid hob
      have HBW := Lib.hid hbw
      have HWB := Lib.hid hwb
      have HOG := Lib.hid hog
      have HQ := Lib.hid hq
      have HQB := Lib.hid hqb
      have HBB := Lib.hid hbb
      have HBR : Hid (b < w.heap.size) := Lib.hid hb
      clear hdat hpk hr hs hp hwa hwb hbb hcb hob hbw hog hkeep hbel hown hb hqb
      go_upto_region 6 with (go_at_call 15; (with_reducible refine (HPK.out _).mono ?_); rintro e w' ⟨rfl, rfl⟩)
      rw [← HWB.out]
      clear a0 a1 a2 a3 hq
      go_wp2_with fail
      with_reducible refine HCON.out.mono ?_
      rintro e w5 ⟨hb5, ⟨rfl, hall⟩ | ⟨rfl, hmem⟩⟩
      · have HB5 := Lib.hid hb5
        have hnew : (∀ x ∈ ws ++ [(⟨p, s⟩ : Wrt)], (0 ≤ x.block ∧ x.block < (nb : Int)) ∧ ∃ r, x.data = dataR r) ∧ ((ws ++ [(⟨p, s⟩ : Wrt)]).map (·.block)).Nodup := by
          refine ⟨fun x hx => ?_, ?_⟩
          · rcases List.mem_append.1 hx with hx | hx
            · exact hws.out.1 x hx
            · rw [List.mem_singleton.1 hx]
              exact ⟨⟨by simp, by simp; omega⟩, HDS.out⟩
          · rw [List.map_append, List.nodup_append]
            refine ⟨hws.out.2, by simp, fun x hx y hy e => ?_⟩
            obtain ⟨z, hz, rfl⟩ := List.mem_map.1 hx
            simp only [List.map_cons, List.map_nil, List.mem_singleton] at hy
            exact hall z hz (by rw [e, hy])
        have HNEW := Lib.hid hnew
        clear hb5 hall hnew
        go_upto_region 7 with (fail)
        go_region_held3 (fun W => W.cell? ⟨q, 0, none⟩ = some (.int .i64 p) ∧ W.cell? ⟨b, off + i * 4, none⟩ = some (.int .i64 rk) ∧ W.cell? ⟨b, off + i * 4 + 1, none⟩ = some (.int .i64 ra) ∧ W.cell? ⟨b, off + i * 4 + 2, none⟩ = some (.int .i64 rb) ∧ W.cell? ⟨b, off + i * 4 + 3, none⟩ = some (.int .i64 rc)) (first | exact HK7.out | (refine HKEEP.out _ ?_; (repeat (first | with_reducible exact HB6.out | with_reducible exact HB5.out | with_reducible exact Below.refl _ _ | with_reducible refine Below.drew ?_ | (with_reducible refine Below.alloc ?_ ?_ _) | with_reducible exact HB6.out.size | with_reducible exact HB5.out.size)))) (first | (go_at_call 41; (with_reducible refine (HDAT.out _).mono ?_); rintro e w6 ⟨rfl, hb6⟩; have HB6 : Hid (Below wb.heap.size wb w6) := Lib.hid (HB5.out.drew.trans (hb6.mono HB5.out.drew.size)); have HO6 := Lib.hid (own_below HOB.out HB6.out); clear hb6) | (refine step_append_own rfl (.tmp 30) (.tmp 38) 53 rfl w.heap.size 55 i0 _ 2 24 Tryd.underlying53 II.out IZ0.out IZ1.out IZ2.out rfl (by decide) _ _ _ (by simp [Act.eval]) (HO6.out.alloc _) ⟨w6.heap.size, 0, none⟩ 1 1 [.int .i64 p, .string s] (by simp [Act.eval]) rfl (World.news_of_block (cs := #[.int .i64 p, .string s]) (t := 55) (fr := (0, 0)) (heap_alloc_new w6 _)) (by simp [Value.oneCell']) (by unfold maxLen; omega) (by omega) ((HBW.out.trans (HB6.out.mono HBW.out.size)).alloc (HBW.out.trans (HB6.out.mono HBW.out.size)).size _).size ?_; intro v' w7 hown7 hgr7; have HT7 : Hid (Touch (fun j => (Value.slice Ao k co).ownBlock = some j) w6 w7) := Lib.hid ((Touch.below ((Below.refl _ _).alloc (Nat.le_refl _) _)).trans (Touch.grown hgr7 (fun j hj => hj))); have HK7 := Lib.hid (keepS HT7.out (Nat.lt_of_lt_of_le HQB.out HB6.out.size) (Nat.lt_of_lt_of_le HBR.out (HBW.out.trans (HB6.out.mono HBW.out.size)).size) (fun e => HOG.out _ e rfl) (fun e => by have := (HO6.out.lt b e).1; have := HBR.out; omega) (HKEEP.out w6 HB6.out)); have HO7 := Lib.hid hown7; clear hown7 hgr7))
        all_goals
          have ho7 : w7.ownsRow w.heap.size 55 2 v' (k + 1) (flat Wrt.cell 2 (ws ++ [(⟨p, s⟩ : Wrt)])) := by
            rw [flat_append, wrt_flat1]; exact HO7.out
          have hb67 := HBW.out.trans (HB6.out.mono HBW.out.size)
          have HB7 := Lib.hid (hb67.trans (HT7.out.toBelow hb67.size (fun j hj => (HO6.out.lt j hj).1)))
          have HO8 := Lib.hid ho7
          clear ho7 hb67
          go_wp2
          go_roundw
          case rel => exact ⟨i + 1, k + 1, _, by omega, by go_num, by rw [List.length_append, HK.out]; rfl, by omega, by omega, fun _ => by omega, HNEW, HO8.out, HB7.out⟩
          case measure => simp [intOf]; omega
      · have hmem2 := hmem
        have hp1 : 0 < k := by
          obtain ⟨x, hx, _⟩ := hmem2
          rw [← HK.out]; exact List.length_pos_of_mem hx
        have HO5 := Lib.hid (own_below HOB.out hb5)
        have HB5 := Lib.hid (HBW.out.trans (hb5.mono HBW.out.size))
        clear hmem hmem2 hb5
        go_wp2
        go_roundw
        case rel => exact ⟨i + 1, k, ws, by omega, by go_num, HK.out, hk12, by omega, fun _ => hp1, hws, HO5.out, HB5.out⟩
        case measure => simp [intOf]; omega
    · have hfull : 0 < n → 0 < k := fun h => by
        by_cases h1 : i < n
        · have : ¬ k < 12 := fun h2 => hlt ⟨h1, h2⟩
          omega
        · exact hpos (by omega)
      have hkn : k ≤ n := by omega
      have HB1 := Lib.hid hbel
      have HSO := Lib.hid (sortW_any Ao k co w.heap.size ws wr hown hk (by omega) (fun x hx => ⟨(hws.out.1 x hx).1.1, by have := (hws.out.1 x hx).1.2; omega⟩) hws.out.2 hbel.size)
      have HFU := Lib.hid hfull
      have hfin : ∀ (e : Ending) (w' : World), (∃ ws' : List Wrt, ws'.Perm ws ∧ ws'.Pairwise (fun x y => x.block < y.block) ∧ w'.ownsRow w.heap.size 55 2 (.slice Ao k co) k (flat Wrt.cell 2 ws') ∧ Below w.heap.size wr w') → e = .returned (.slice Ao k co) → WritesPost w n nb e w' := by
        rintro e w' ⟨ws', q1, q2, q3, q4⟩ rfl
        have hl : ws'.length = k := by rw [q1.length_eq, HK.out]
        refine ⟨Ao, co, ws', by rw [hl], by rw [hl]; exact hkn, fun h => by rw [hl]; exact HFU.out h, ⟨by rw [hl]; omega, fun x hx => (hws.out.1 x (q1.mem_iff.1 hx)).1, fun x hx => (hws.out.1 x (q1.mem_iff.1 hx)).2, q2⟩, by rw [hl]; exact q3, HB1.out.trans q4⟩
      have HFIN := Lib.hid hfin
      clear hown hbel hfull hfin hk
      by_cases h1 : i < n
      · have h2 : k = 12 := by omega
        obtain rfl : k = 12 := by omega
        go_wp2_with fail
        refine HSO.out.mono ?_
        rintro e w2 ⟨rfl, hex⟩
        have HE := Lib.hid hex
        clear hex
        go_wp2
        go_ret
        exact HFIN.out _ _ HE.out rfl
      · go_wp2_with fail
        with_reducible refine HSO.out.mono ?_
        rintro e w2 ⟨rfl, hex⟩
        have HE := Lib.hid hex
        clear hex
        go_wp2
        go_ret
        exact HFIN.out _ _ HE.out rfl
end Go.Proofs.YtphbebcbbfbgpacDoor

namespace Go.Proofs.YtphbebcbbfbgpacDoor
open Go Go.RowKit
set_option linter.unusedSimpArgs false
set_option linter.unusedVariables false

def lenV : Value → Nat
  | .slice _ n _ => n
  | _ => 0
/-- what a volume out of raw numbers is like -/
structure RawVol (us : List Itm) (cs : List Int) : Prop where
  good : GoodVol us cs
  len : cs.length = 16
  never : ∀ x ∈ us, x.data ≠ neverB
theorem RawVol.app {us : List Itm} {cs : List Int} (h : RawVol us cs) {ws : List Wrt} (hw : RawW ws 16) : (appliedR us cs ws).2.2 = 0 ∧ RawVol (appliedR us cs ws).1 (appliedR us cs ws).2.1 := by
  have hl := h.len
  have gw : GoodW ws cs.length := by rw [hl]; exact hw.good
  have h0 := applied_takes (V := (us, cs)) h.good (by show cs.length ≤ 23; omega) gw
  obtain ⟨_, _, g, l⟩ := applied_good' (v := (us, cs)) h0
  refine ⟨h0, g, by rw [l]; exact hl, fun y hy => ?_⟩
  rcases applied_datas (V := (us, cs)) h0 y hy with ⟨x, hx, e⟩ | ⟨w, hw', e⟩
  · rw [← e]; exact h.never x hx
  · obtain ⟨r, hr⟩ := hw.data w hw'
    rw [← e, hr]; exact dataR_never r
theorem RawVol.zero : RawVol [] (List.replicate 16 (-1)) := ⟨vol0_good (by omega) (by omega), by simp, by simp⟩

structure VolF (w : World) (V : Nat) (A B : Option Addr) (c d : Nat) (us : List Itm) (cs : List Int) (W : World) : Prop where
  v0 : W.cell? ⟨V, 0, none⟩ = some (.slice A us.length c)
  v1 : W.cell? ⟨V, 1, none⟩ = some (.slice B 16 d)
  f0 : W.frozen? ⟨V, 0, none⟩ = false
  f1 : W.frozen? ⟨V, 1, none⟩ = false
  r0 : W.cell? ⟨w.heap.size, 0, none⟩ = some (.slice none 0 0)
  r1 : W.cell? ⟨w.heap.size, 1, none⟩ = some (.slice none 0 0)
  g0 : W.frozen? ⟨w.heap.size, 0, none⟩ = false
  g1 : W.frozen? ⟨w.heap.size, 1, none⟩ = false
  lo : w.heap.size < V
  sz : V < W.heap.size
  ty : IsCells W V 30
  tr : IsCells W w.heap.size 30
  ou : W.ownsRow w.heap.size 42 3 (.slice A us.length c) us.length (flat Itm.cell 3 us)
  ov : W.ownsRow w.heap.size 3 1 (.slice B 16 d) 16 (flat intCell 1 cs)
  be : Below w.heap.size w W
section
variable {w W W' : World} {V : Nat} {A B A' B' : Option Addr} {c d c' d' : Nat} {us us' : List Itm} {cs cs' : List Int}
theorem VolF.step (h : VolF w V A B c d us cs W) (hb : Below W.heap.size W W') : VolF w V A B c d us cs W' where
  v0 := (hb.cell h.sz).trans h.v0
  v1 := (hb.cell h.sz).trans h.v1
  f0 := (hb.frozen h.sz).trans h.f0
  f1 := (hb.frozen h.sz).trans h.f1
  r0 := (hb.cell (Nat.lt_trans h.lo h.sz)).trans h.r0
  r1 := (hb.cell (Nat.lt_trans h.lo h.sz)).trans h.r1
  g0 := (hb.frozen (Nat.lt_trans h.lo h.sz)).trans h.g0
  g1 := (hb.frozen (Nat.lt_trans h.lo h.sz)).trans h.g1
  lo := h.lo
  sz := Nat.lt_of_lt_of_le h.sz hb.size
  ty := h.ty.below hb
  tr := h.tr.below hb
  ou := own_below h.ou hb
  ov := own_below h.ov hb
  be := h.be.trans (hb.mono h.be.size)
theorem own_set2 {base n size : Nat} {e : TypeId} {v : Value} {xs : List Value} (ho : W.ownsRow base e size v n xs) (ht : IsCells W V 30) (he : e ≠ 30) (x y : Value) :
    ((W.setCell ⟨V, 0, none⟩ x).setCell ⟨V, 1, none⟩ y).ownsRow base e size v n xs := by
  have h1 := own_setCell_other ho (p := ⟨V, 0, none⟩) (fun g hg => own_not ho ht he g hg) x
  exact own_setCell_other h1 (p := ⟨V, 1, none⟩) (fun g hg => own_not ho ht he g hg) y
theorem cell_set2 {R V o : Nat} {W : World} (hne : R ≠ V) (x y : Value) : ((W.setCell ⟨V, 0, none⟩ x).setCell ⟨V, 1, none⟩ y).cell? ⟨R, o, none⟩ = W.cell? ⟨R, o, none⟩ := by
  rw [World.cell?_setCell_other _ _ _ _ (by intro e; first | exact hne (congrArg Addr.block e) | exact hne (congrArg Addr.block e).symm), World.cell?_setCell_other _ _ _ _ (by intro e; first | exact hne (congrArg Addr.block e) | exact hne (congrArg Addr.block e).symm)]
theorem VolF.set (h : VolF w V A B c d us cs W) (hu : W.ownsRow w.heap.size 42 3 (.slice A' us'.length c') us'.length (flat Itm.cell 3 us')) (hv : W.ownsRow w.heap.size 3 1 (.slice B' 16 d') 16 (flat intCell 1 cs')) :
    VolF w V A' B' c' d' us' cs' ((W.setCell ⟨V, 0, none⟩ (.slice A' us'.length c')).setCell ⟨V, 1, none⟩ (.slice B' 16 d')) := by
  have hne : w.heap.size ≠ V := Nat.ne_of_lt h.lo
  have v0 := h.v0
  have v1 := h.v1
  have f0 := h.f0
  have f1 := h.f1
  have g0 := h.g0
  have g1 := h.g1
  refine ⟨?_, ?_, ?_, ?_, ?_, ?_, ?_, ?_, h.lo, ?_, (h.ty.setCell _ _).setCell _ _, (h.tr.setCell _ _).setCell _ _, own_set2 hu h.ty (by decide) _ _, own_set2 hv h.ty (by decide) _ _, ?_⟩
  · simp [go_sem, v0]
  · simp [go_sem, v1]
  · simp [f0]
  · simp [f1]
  · rw [cell_set2 hne]; exact h.r0
  · rw [cell_set2 hne]; exact h.r1
  · simp [g0]
  · simp [g1]
  · simpa [World.setCell] using h.sz
  · exact (h.be.setCell (p := ⟨V, 0, none⟩) (Nat.le_of_lt h.lo) _).setCell (p := ⟨V, 1, none⟩) (Nat.le_of_lt h.lo) _
end
theorem own_nilV {W : World} {base n c size : Nat} {e : TypeId} {A : Option Addr} {xs : List Value} (h : W.ownsRow base e size (.slice A n c) n xs) : A = none → n = 0 ∧ c = 0 := by
  obtain ⟨_, _, hv, _, _, h3⟩ := own_form h
  simp only [Value.slice.injEq] at hv
  obtain ⟨rfl, _, rfl⟩ := hv
  exact h3
theorem own_max' {W : World} {base n c size : Nat} {e : TypeId} {A : Option Addr} {xs : List Value} (h : W.ownsRow base e size (.slice A n c) n xs) : n ≤ maxLen := by
  obtain ⟨_, _, hv, h1, h2, _⟩ := own_form h
  omega
/-- A volume out of raw numbers that a call hands back. -/
def VolumePost (w : World) (e : Ending) (w' : World) : Prop :=
  ∃ A c B d us cs, e = .returned (.agg #[.slice A us.length c, .slice B 16 d]) ∧ RawVol us cs ∧ w'.ownsRow w.heap.size 42 3 (.slice A us.length c) us.length (flat Itm.cell 3 us) ∧ w'.ownsRow w.heap.size 3 1 (.slice B 16 d) 16 (flat intCell 1 cs) ∧ Below w.heap.size w w'

/-- the next volume, in its block -/
structure NextF (w wr : World) (P : Nat) (A B : Option Addr) (c d : Nat) (us : List Itm) (cs : List Int) (W : World) : Prop where
  p0 : W.cell? ⟨P, 0, none⟩ = some (.slice A us.length c)
  p1 : W.cell? ⟨P, 1, none⟩ = some (.slice B 16 d)
  good : RawVol us cs
  ou : W.ownsRow w.heap.size 42 3 (.slice A us.length c) us.length (flat Itm.cell 3 us)
  ov : W.ownsRow w.heap.size 3 1 (.slice B 16 d) 16 (flat intCell 1 cs)
  be : Below wr.heap.size wr W
theorem NextF.new {w wr w6 : World} {An Bn : Option Addr} {cn dn : Nat} {us : List Itm} {cs : List Int} (hg : RawVol us cs) (ou : w6.ownsRow w.heap.size 42 3 (.slice An us.length cn) us.length (flat Itm.cell 3 us)) (ov : w6.ownsRow w.heap.size 3 1 (.slice Bn 16 dn) 16 (flat intCell 1 cs)) (be : Below wr.heap.size wr w6) :
    NextF w wr w6.heap.size An Bn cn dn us cs (w6.alloc (.cells #[.slice An us.length cn, .slice Bn 16 dn] 30)) := by
  have ha := (Below.refl w6.heap.size w6).alloc (Nat.le_refl _) (.cells #[.slice An us.length cn, .slice Bn 16 dn] 30)
  exact ⟨by simp [go_sem], by simp [go_sem], hg, own_below ou ha, own_below ov ha, be.trans (ha.mono be.size)⟩
theorem NextF.store {w wr w6 : World} {P : Nat} {An Bn : Option Addr} {cn dn : Nat} {us : List Itm} {cs : List Int} {x y : Value} (hg : RawVol us cs) (ou : w6.ownsRow w.heap.size 42 3 (.slice An us.length cn) us.length (flat Itm.cell 3 us)) (ov : w6.ownsRow w.heap.size 3 1 (.slice Bn 16 dn) 16 (flat intCell 1 cs)) (be : Below wr.heap.size wr w6)
    (hP : wr.heap.size ≤ P) (ty : IsCells w6 P 30) (h0 : w6.cell? ⟨P, 0, none⟩ = some x) (h1 : w6.cell? ⟨P, 1, none⟩ = some y) :
    NextF w wr P An Bn cn dn us cs ((w6.setCell ⟨P, 0, none⟩ (.slice An us.length cn)).setCell ⟨P, 1, none⟩ (.slice Bn 16 dn)) := by
  refine ⟨?_, ?_, hg, own_set2 ou ty (by decide) _ _, own_set2 ov ty (by decide) _ _, (be.setCell (p := ⟨P, 0, none⟩) hP _).setCell (p := ⟨P, 1, none⟩) hP _⟩
  · simp [go_sem, h0]
  · simp [go_sem, h1]
/-- writes that are applied to the volume -/
theorem applyV {w wr w5 : World} {V b : Nat} {Au Bv Aw : Option Addr} {cu dv cw : Nat} {us : List Itm} {cs : List Int} {ws : List Wrt} (hf : VolF w V Au Bv cu dv us cs wr) (hg : RawVol us cs) (hb5 : Below wr.heap.size wr w5) (hww : RawW ws 16)
    (how : w5.ownsRow b 55 2 (.slice Aw ws.length cw) ws.length (flat Wrt.cell 2 ws)) (W : World) (hW : Below w5.heap.size w5 W) :
    Calls Tryd.prog 26 #[.agg #[.slice Au us.length cu, .slice Bv 16 dv], .slice Aw ws.length cw] W fun e w' => ∃ An cn Bn dn us' cs', e = .returned (.tuple #[.agg #[.slice An us'.length cn, .slice Bn 16 dn], .int .i64 0]) ∧ RawVol us' cs' ∧
      w'.ownsRow w.heap.size 42 3 (.slice An us'.length cn) us'.length (flat Itm.cell 3 us') ∧ w'.ownsRow w.heap.size 3 1 (.slice Bn 16 dn) 16 (flat intCell 1 cs') ∧ Below wr.heap.size wr w' ∧ Below W.heap.size W w' := by
  have hbw : Below wr.heap.size wr W := hb5.trans (hW.mono hb5.size)
  have hfW := hf.step hbw
  have hwW := own_below how hW
  have h := apply_any Au Bv Aw us.length cu 16 dv ws.length cw us cs ws W (Rep.of_own rfl hfW.ou (Nat.le_refl _)) (Rep.of_own hg.len.symm hfW.ov (Nat.le_refl _)) (Rep.of_own rfl hwW (Nat.le_refl _)) (own_nilV hfW.ou) (own_nilV hfW.ov) (own_max' hfW.ou) (by unfold maxLen; omega) (own_max' hwW) (vol_ok hg.good)
  obtain ⟨h0, hg'⟩ := hg.app hww
  have hl := hg'.len
  refine h.mono ?_
  rintro e w' ⟨An, cn, Bn, dn, rfl, hon, hom, hb6⟩
  rw [hl] at hom
  refine ⟨An, cn, Bn, dn, _, _, ?_, hg', own_mono hon hfW.be.size, own_mono hom hfW.be.size, hbw.trans (hb6.mono hbw.size), hb6⟩
  rw [hl, h0]

set_option maxRecDepth 100000 in
set_option maxHeartbeats 4000000 in
theorem volumeK_any (A : Option Addr) (n c : Nat) (ls : List Raw) (w : World) (h : Rep w w.heap.size 4 Raw.cell A n ls) (hn : n ≤ maxLen) (hc : n ≤ c) (hc64 : c ≤ maxLen) (hwf : ∀ a ∈ ls, a.wf) :
    Calls Tryd.prog 21 #[.slice A n c] w (VolumePost w) := by
  have H := Lib.hid h
  have HWF := Lib.hid hwf
  have hnew := new_any 16 (w.alloc (.cells #[.slice none 0 0, .slice none 0 0] 30))
  rw [show newBs 16 = List.replicate 16 (-1) from rfl, show newK 16 = 0 from rfl] at hnew
  have HNEW := Lib.hid hnew
  unfold maxLen at hn hc64
  clear h hwf hnew
  go_enter Tryd.func21, Tryd.ntmps21
  go_wp2_with fail
  refine HNEW.out.mono ?_
  rintro e w1 ⟨B1, d1, rfl, ho1, hb1⟩
  rw [show (List.replicate 16 (-1 : Int)).length = 16 from rfl] at ho1 ⊢
  have hal0 := (Below.refl w.heap.size w).alloc (Nat.le_refl _) (.cells #[.slice none 0 0, .slice none 0 0] 30)
  obtain ⟨w2, hw2⟩ : ∃ w2, w2 = w1.alloc (.cells #[.slice none 0 0, .slice B1 16 d1] 30) := ⟨_, rfl⟩
  have hal1 : Below w1.heap.size w1 w2 := by rw [hw2]; exact (Below.refl _ _).alloc (Nat.le_refl _) _
  have hlt : w.heap.size < w1.heap.size := by have := hb1.size; simp at this; omega
  have hz : w.heap.size < (w.alloc (.cells #[.slice none 0 0, .slice none 0 0] 30)).heap.size := by simp
  have hf0 : VolF w w1.heap.size none B1 0 d1 [] (List.replicate 16 (-1)) w2 := by
    refine ⟨?_, ?_, ?_, ?_, ?_, ?_, ?_, ?_, hlt, ?_, ?_, ?_, World.ownsRow_nil _ _ _ _, ?_, ?_⟩
    · rw [hw2]; simp [go_sem]
    · rw [hw2]; simp [go_sem]
    · rw [hw2]; simp [go_sem]
    · rw [hw2]; simp [go_sem]
    · rw [hal1.cell (p := ⟨w.heap.size, 0, none⟩) hlt, hb1.cell (p := ⟨w.heap.size, 0, none⟩) hz]; simp [go_sem]
    · rw [hal1.cell (p := ⟨w.heap.size, 1, none⟩) hlt, hb1.cell (p := ⟨w.heap.size, 1, none⟩) hz]; simp [go_sem]
    · rw [hal1.frozen (p := ⟨w.heap.size, 0, none⟩) hlt, hb1.frozen (p := ⟨w.heap.size, 0, none⟩) hz]; simp [go_sem]
    · rw [hal1.frozen (p := ⟨w.heap.size, 1, none⟩) hlt, hb1.frozen (p := ⟨w.heap.size, 1, none⟩) hz]; simp [go_sem]
    · rw [hw2]; simp
    · rw [hw2]; exact IsCells.new w1 _ _
    · exact ((IsCells.new w #[.slice none 0 0, .slice none 0 0] 30).below hb1).below hal1
    · exact own_mono (own_below ho1 hal1) (by simp)
    · exact (hal0.trans (hb1.mono hal0.size)).trans (hal1.mono (Nat.le_of_lt hlt))
  have HF0 := Lib.hid hf0
  have HW2 := Lib.hid hw2
  obtain ⟨V, hV⟩ : ∃ V, w1.heap.size = V := ⟨_, rfl⟩
  clear ho1 hb1 hal0 hal1 hlt hz hf0 hw2
  go_upto_region 2 with (fail)
  rw [← HW2.out]
  rw [hV] at HF0
  clear hV
  go_loopw [0] (fun v wr => ∃ (A' : Option Addr) (n' c' : Nat) (ls' : List Raw) (Au Bv : Option Addr) (cu dv : Nat) (us : List Itm) (cs : List Int), v = .slice A' n' c' ∧ n' ≤ c' ∧ c' ≤ c ∧ Hid (Rep w w.heap.size 4 Raw.cell A' n' ls' ∧ (∀ a ∈ ls', a.wf)) ∧ Hid (RawVol us cs) ∧ Hid (VolF w V Au Bv cu dv us cs wr)) (fun v _ => lenV v)
  case atStart => exact ⟨A, n, c, ls, none, B1, 0, d1, [], _, rfl, hc, Nat.le_refl _, Lib.hid ⟨H.out, HWF.out⟩, Lib.hid RawVol.zero, HF0⟩
  case round =>
    obtain ⟨A', n', c', ls', Au, Bv, cu, dv, us, cs, rfl, hnc, hcc, hrep, hgood, HF⟩ := hrel
    by_cases hpos : 0 < n'
    · obtain ⟨b, off, rfl, hb, _⟩ := hrep.out.1.2 hpos
      obtain ⟨q, hq⟩ : ∃ q, (if 5 ≤ n' then 5 else n') = q := ⟨_, rfl⟩
      have hqn : q ≤ n' := by rw [← hq]; split <;> omega
      have hq0 : 0 < q := by rw [← hq]; split <;> omega
      have hqm : min (5 : Int) (n' : Int) = (q : Int) := by rw [← hq]; split <;> omega
      have htk : (ls'.take q).length = q := by have := hrep.out.1.1; rw [List.length_take]; omega
      have hwr : ∀ W, Below wr.heap.size wr W → Calls Tryd.prog 30 #[.slice (some ⟨b, off, none⟩) q c', .int .i64 16] W fun e w' => ∃ Aw cw ws, e = .returned (.slice Aw ws.length cw) ∧ RawW ws 16 ∧ w'.ownsRow W.heap.size 55 2 (.slice Aw ws.length cw) ws.length (flat Wrt.cell 2 ws) ∧ Below wr.heap.size wr w' ∧ Below W.heap.size W w' := fun W hW => by
        have hbw := HF.out.be.trans (hW.mono HF.out.be.size)
        have hx : Calls Tryd.prog 30 #[.slice (some ⟨b, off, none⟩) q c', .int .i64 16] W (WritesPost W q 16) := writesK_any (some ⟨b, off, none⟩) q c' 16 (ls'.take q) W (((hrep.out.1.taken hqn).below hbw (Nat.le_refl _)).mono hbw.size) (by unfold maxLen; omega) (fun a ha => hrep.out.2 a (List.mem_of_mem_take ha)) (by omega) (by omega)
        refine hx.mono ?_
        rintro e w' ⟨Aw, cw, ws, rfl, _, _, hww, how, hb⟩
        exact ⟨Aw, cw, ws, rfl, hww, how, hW.trans (hb.mono hW.size), hb⟩
      have HWR := Lib.hid hwr
      have v0 := HF.out.v0
      have v1 := HF.out.v1
      have hkeep : ∀ W, Below wr.heap.size wr W → W.cell? ⟨V, 0, none⟩ = some (.slice Au us.length cu) ∧ W.cell? ⟨V, 1, none⟩ = some (.slice Bv 16 dv) := fun W hW => ⟨(HF.out.step hW).v0, (HF.out.step hW).v1⟩
      have HKEEP := Lib.hid hkeep
      have HQ := Lib.hid hq
      clear hq htk hwr hkeep hb
      have hqc : q ≤ c' := by omega
      go_upto_region 4 with (fail)
      go_cut [6, 7] from 12 to 32 (fun s6 s7 W => ∃ (P : Nat) (An Bn : Option Addr) (cn dn : Nat) (us' : List Itm) (cs' : List Int), s6 = .pointer (some ⟨P, 0, none⟩) ∧ s7 = .int .i64 0 ∧ NextF w wr P An Bn cn dn us' cs' W)
      case first =>
        go_region_held3 (fun W => W.cell? ⟨V, 0, none⟩ = some (.slice Au us.length cu) ∧ W.cell? ⟨V, 1, none⟩ = some (.slice Bv 16 dv)) ((refine HKEEP.out _ ?_; (repeat (first | with_reducible exact HB6.out | with_reducible exact HB5.out | with_reducible exact Below.refl _ _ | with_reducible refine Below.drew ?_ | (with_reducible refine Below.alloc ?_ ?_ _) | (with_reducible refine Below.setCell ?_ ?_ _) | with_reducible exact HB6.out.size | with_reducible exact HB5.out.size | with_reducible exact Nat.le_refl _ | (simp; done) | (refine Nat.le_trans HB5.out.size ?_; simp; done) | (refine Nat.le_trans HB6.out.size ?_; simp; done))))) (first | (go_at_call 30; (with_reducible refine (HWR.out _ ?hA).mono ?_); (case hA => first | exact (Below.refl _ _).drew | exact ((Below.refl _ _).alloc (Nat.le_refl _) _).drew); rintro e w5 ⟨Aw, cw, ws, rfl, hww, how, hbr5, hb5⟩; have HB5 := Lib.hid hbr5; have HAP := Lib.hid (applyV HF.out hgood.out hbr5 hww how); have s5 := hb5.size; have y0 := hb5.cell (p := ⟨wr.heap.size, 0, none⟩); have y1 := hb5.cell (p := ⟨wr.heap.size, 1, none⟩); have yf := fun j => hb5.frozen (p := ⟨wr.heap.size, j, none⟩); have T5 := Lib.hid (fun (P : Nat) (hh : IsCells _ P 30) => IsCells.below hh hb5); simp [go_sem] at s5 y0 y1 yf; (try have s6 := Nat.lt_of_succ_le s5); clear hww how hbr5 hb5) | (go_at_call 26; (with_reducible refine (HAP.out _ ?hA).mono ?_); (case hA => first | exact Below.refl _ _ | exact (Below.refl _ _).alloc (Nat.le_refl _) _); rintro e w6 ⟨An, cn, Bn, dn, us', cs', rfl, hg', hou, hov, hbr6, hb6⟩; have HB6 := Lib.hid hbr6; have HG' := Lib.hid hg'; have HOU := Lib.hid hou; have HOV := Lib.hid hov; have t5 := hb6.size; have z0 := hb6.cell (p := ⟨wr.heap.size, 0, none⟩); have z1 := hb6.cell (p := ⟨wr.heap.size, 1, none⟩); have zf := fun j => hb6.frozen (p := ⟨wr.heap.size, j, none⟩); have x0 := hb6.cell (p := ⟨w5.heap.size, 0, none⟩); have x1 := hb6.cell (p := ⟨w5.heap.size, 1, none⟩); have xf := fun j => hb6.frozen (p := ⟨w5.heap.size, j, none⟩); have T6 := Lib.hid (fun (P : Nat) (hh : IsCells _ P 30) => IsCells.below hh hb6); simp [go_sem] at t5 z0 z1 zf x0 x1 xf; clear hg' hou hov hbr6 hb6))
        all_goals
          go_wp2_with fail
          go_meet
          case rel => first
            | exact ⟨_, An, Bn, cn, dn, us', cs', rfl, rfl, NextF.new HG'.out HOU.out HOV.out HB6.out⟩
            | exact ⟨_, An, Bn, cn, dn, us', cs', rfl, rfl, NextF.store HG'.out HOU.out HOV.out HB6.out HB5.out.size (T6.out _ (by first | exact IsCells.new w5 _ _ | exact (IsCells.new w5 _ _).drew)) x0 x1⟩
            | exact ⟨_, An, Bn, cn, dn, us', cs', rfl, rfl, NextF.store HG'.out HOU.out HOV.out HB6.out (Nat.le_refl _) (T6.out _ (T5.out _ (by first | exact IsCells.new wr _ _ | exact (IsCells.new wr _ _).drew))) ((z0 s6).trans y0) ((z1 s6).trans y1)⟩
      case rest =>
        obtain ⟨P, An, Bn, cn, dn, us', cs', rfl, rfl, hnx⟩ := hcut
        rename_i W7
        have hbe := hnx.be
        obtain ⟨e0, e1⟩ := HKEEP.out _ hbe
        have ef0 := (HF.out.step hbe).f0
        have ef1 := (HF.out.step hbe).f1
        have p0 := hnx.p0
        have p1 := hnx.p1
        have HN := Lib.hid hnx
        have HVN := Lib.hid ((HF.out.step hbe).set hnx.ou hnx.ov)
        clear hnx hbe
        have hdrop : Rep w w.heap.size 4 Raw.cell (if c' = q then some ⟨b, off, none⟩ else some ⟨b, off + q * 4, none⟩) (n' - q) (ls'.drop q) := by
          split
          · exact ⟨by rw [List.length_drop, hrep.out.1.1], fun hp => absurd hp (by omega)⟩
          · exact hrep.out.1.dropped hqn
        have HD := Lib.hid (And.intro hdrop (fun a (ha : a ∈ ls'.drop q) => hrep.out.2 a (List.mem_of_mem_drop ha)))
        clear hdrop
        go_wp2_with fail
        refine ⟨⟨_, _, _, ls'.drop q, An, Bn, cn, dn, us', cs', rfl, by omega, by omega, HD, Lib.hid HN.out.good, HVN.out⟩, ?_⟩
        simp only [lenV, go_sem]
        omega
    · have r0 := HF.out.r0
      have r1 := HF.out.r1
      have g0 := HF.out.g0
      have g1 := HF.out.g1
      have v0 := HF.out.v0
      have v1 := HF.out.v1
      have hn0 : n' = 0 := by omega
      subst hn0
      go_wp2_with fail
      refine bodyPost_ret (v := .agg #[.slice Au us.length cu, .slice Bv 16 dv]) (by simp [results, Tryd.results21, go_sem, r0, r1]) rfl ?_
      have hF := HF.out
      have hT := own_set2 (x := .slice Au us.length cu) (y := .slice Bv 16 dv) hF.ou hF.tr (by decide)
      have hU := own_set2 (x := .slice Au us.length cu) (y := .slice Bv 16 dv) hF.ov hF.tr (by decide)
      exact ⟨Au, cu, Bv, dv, us, cs, rfl, hgood.out, hT, hU, (hF.be.setCell (p := ⟨w.heap.size, 0, none⟩) (Nat.le_refl _) _).setCell (p := ⟨w.heap.size, 1, none⟩) (Nat.le_refl _) _⟩
end Go.Proofs.YtphbebcbbfbgpacDoor

namespace Go.Proofs.YtphbebcbbfbgpacDoor
open Go Go.RowKit
set_option linter.unusedSimpArgs false
set_option linter.unusedVariables false

theorem cloneWrts (A : Option Addr) (n c : Nat) (ls : List Wrt) (w : World) (h : Rep w w.heap.size 2 Wrt.cell A n ls) (hnil : A = none → n = 0 ∧ c = 0) (hr : n * 24 ≤ 140737488355328) :
    Calls Tryd.prog 33 #[.slice A n c] w (OwnPost w 55 2 n (flat Wrt.cell 2 ls)) := by
  have qT : ∀ (w : World) (a : Option Addr) (n c n' c' : Nat), (binOp .eql 53 (.slice a n c) (.slice none n' c')).run Tryd.prog w = .ok (.bool a.isNone) w := fun w a n c n' c' => Lib.run_eql_slice_nil w _ _ a n c n' c' Tryd.underlying53
  obtain ⟨i0, hi, hz0, hz1, hz2⟩ := info_parts infoWrite
  cases A with
  | none =>
    obtain ⟨rfl, rfl⟩ := hnil rfl
    obtain rfl : ls = [] := List.eq_nil_of_length_eq_zero h.1.symm
    clear h
    go_enter Tryd.func33, Tryd.ntmps33
    go_wp2
    go_ret
    exact OwnPost.mk' (World.ownsRow_nil _ _ _ _) (Below.refl _ _)
  | some ad =>
    have hl : (flat Wrt.cell 2 ls).length = n * 2 := by rw [flat_length, h.1]
    have hc := h.flat_any
    have HL := Lib.hid hl
    have HC := Lib.hid hc
    have HI := Lib.hid hi
    have HZ0 := Lib.hid hz0
    have HZ1 := Lib.hid hz1
    have HZ2 := Lib.hid hz2
    have hon : (w.alloc (.cells #[] 55)).ownsRow w.heap.size 55 2 (.slice (some ⟨w.heap.size, 0, none⟩) 0 0) 0 [] := World.ownsRow_made w #[] 0 (Nat.le_refl _) (by unfold maxLen; omega) rfl
    have HO := Lib.hid hon
    have hlt : ∀ j u, (flat Wrt.cell 2 ls)[j]? = some u → (w.alloc (.cells #[] 55)).cell? (ad.add j) = some u := fun j u hu => by
      have := hc j u hu
      rw [World.cell?_alloc_lt _ _ _ (World.block_lt_of_cell? w _ this)]; exact this
    have HT := Lib.hid hlt
    clear hl hc hi hz0 hz1 hz2 h hnil hon hlt
    go_enter Tryd.func33, Tryd.ntmps33
    go_wp2_with (at_builtin; refine wpList_append_own _ rfl _ _ 53 rfl w.heap.size 55 i0 _ 2 24 Tryd.underlying53 HI.out HZ0.out HZ1.out HZ2.out rfl (by decide) _ _ _ rfl HO.out ad n c (flat Wrt.cell 2 ls) rfl HL.out HT.out (wrt_one ls) (by unfold maxLen; omega) (by omega) (by simp) ?_; intro v' w1 hown hgr _)
    go_ret
    exact OwnPost.mk' (by simpa using hown) (((Below.refl _ _).alloc (Nat.le_refl _) _).grown hgr (by simp) (by intro k hk; cases hk; exact Nat.le_refl _))

/-- what saltcellarkeep.Reads hands back, by name -/
theorem readsB (A B : Option Addr) (c d u : Nat) (us : List Itm) (cs : List Int) (rs : List ByteArray) (w : World) (h : Rep w w.heap.size 3 Itm.cell A u us) (h' : Rep w w.heap.size 1 intCell B 16 cs) (g : GoodVol us cs) (hr : readsR (us, cs) = rs) :
    Calls Tryd.prog 31 #[.agg #[.slice A u c, .slice B 16 d]] w fun e w' => ∃ A' c', e = .returned (.slice A' 16 c') ∧ w'.ownsRow w.heap.size 9 1 (.slice A' 16 c') 16 (flat strCell 1 rs) ∧ Below w.heap.size w w' := by
  have h1 := h.1
  have h2 := h'.1
  subst h1 hr
  have := reads_any A B c d (us, cs) w h (by rw [← h2]; exact h') g
  rw [← h2] at this
  refine this.mono ?_
  rintro e w' ⟨A', c', rfl, ho, hb, _⟩
  exact ⟨A', c', rfl, ho, hb⟩
/-- writes that a volume takes, by name -/
theorem applyB (Au Bv Aw : Option Addr) (u cu dv q cw u' : Nat) (us us' : List Itm) (cs cs' : List Int) (ws : List Wrt) (w : World) (h : Rep w w.heap.size 3 Itm.cell Au u us) (h' : Rep w w.heap.size 1 intCell Bv 16 cs) (h'' : Rep w w.heap.size 2 Wrt.cell Aw q ws)
    (nu : Au = none → u = 0 ∧ cu = 0) (nv : Bv = none → 16 = 0 ∧ dv = 0) (mu : u ≤ maxLen) (mq : q ≤ maxLen) (g : GoodVol us cs) (ha : appliedR us cs ws = (us', cs', 0)) (hu' : us'.length = u') (hc' : cs'.length = 16) :
    Calls Tryd.prog 26 #[.agg #[.slice Au u cu, .slice Bv 16 dv], .slice Aw q cw] w fun e w' => ∃ An cn Bn dn, e = .returned (.tuple #[.agg #[.slice An u' cn, .slice Bn 16 dn], .int .i64 0]) ∧
      w'.ownsRow w.heap.size 42 3 (.slice An u' cn) u' (flat Itm.cell 3 us') ∧ w'.ownsRow w.heap.size 3 1 (.slice Bn 16 dn) 16 (flat intCell 1 cs') ∧ Below w.heap.size w w' := by
  have hx := apply_any Au Bv Aw u cu 16 dv q cw us cs ws w h h' h'' nu nv mu (by unfold maxLen; omega) mq (vol_ok g)
  rw [ha] at hx
  refine hx.mono ?_
  rintro e w' ⟨An, cn, Bn, dn, rfl, ho, ho', hb⟩
  dsimp only at ho ho' ⊢
  rw [hu'] at ho ⊢
  rw [hc'] at ho' ⊢
  exact ⟨An, cn, Bn, dn, rfl, ho, ho', hb⟩

/-- writes of which so many have turned back -/
def backAt (rs : List ByteArray) (ws : List Wrt) (i : Nat) : List Wrt := (backW rs ws).take i ++ ws.drop i
section
variable {rs : List ByteArray} {ws : List Wrt}
theorem backAt_zero : backAt rs ws 0 = ws := by simp [backAt]
theorem backAt_all : backAt rs ws ws.length = backW rs ws := by
  rw [backAt, List.drop_length, List.append_nil, List.take_of_length_le (by rw [backW, List.length_map]; exact Nat.le_refl _)]
theorem backAt_len {i : Nat} (h : i ≤ ws.length) : (backAt rs ws i).length = ws.length := by
  rw [backAt, List.length_append, List.length_take, List.length_drop, backW, List.length_map]; omega
theorem backAt_get {i : Nat} (h : i < ws.length) (h' : i < (backAt rs ws i).length) : (backAt rs ws i)[i] = ws[i] := by
  have hl : ((backW rs ws).take i).length = i := by rw [List.length_take, backW, List.length_map]; omega
  have : (backAt rs ws i)[i]? = some ws[i] := by
    rw [backAt, List.getElem?_append_right (by omega), hl, Nat.sub_self, List.getElem?_drop, Nat.add_zero, List.getElem?_eq_getElem h]
  rw [List.getElem?_eq_getElem h'] at this
  exact Option.some.inj this
theorem backAt_set {i : Nat} (h : i < ws.length) : (backAt rs ws i).set i ⟨ws[i].block, rs.getD ws[i].block.toNat ⟨#[]⟩⟩ = backAt rs ws (i + 1) := by
  have hl : ((backW rs ws).take i).length = i := by rw [List.length_take, backW, List.length_map]; omega
  have hb : i < (backW rs ws).length := by rw [backW, List.length_map]; exact h
  have hg : (backW rs ws)[i] = ⟨ws[i].block, rs.getD ws[i].block.toNat ⟨#[]⟩⟩ := by simp [backW]
  rw [backAt, List.set_append_right _ _ (by omega), hl, Nat.sub_self, List.drop_eq_getElem_cons h, List.set_cons_zero, backAt, List.take_succ_eq_append_getElem hb, List.append_assoc, hg]
  rfl
end
end Go.Proofs.YtphbebcbbfbgpacDoor

namespace Go.Proofs.YtphbebcbbfbgpacDoor
open Go Go.RowKit
set_option linter.unusedSimpArgs false
set_option linter.unusedVariables false

theorem flat_str_set (bs : List ByteArray) (k : Nat) (v : ByteArray) : (flat strCell 1 bs).set k (.string v) = flat strCell 1 (bs.set k v) := by
  have e : ∀ l : List ByteArray, flat strCell 1 l = l.map (fun b => Value.string b) := fun l => by
    induction l with
    | nil => rfl
    | cons b l ih => rw [flat_cons, ih]; rfl
  rw [e, e, List.map_set]
theorem putAll_next {rs : List ByteArray} {ws : List Wrt} {i : Nat} (h : i < ws.length) : putAll rs (ws.take (i + 1)) = (putAll rs (ws.take i)).set ws[i].block.toNat ws[i].data := by
  rw [List.take_succ_eq_append_getElem h, putAll, List.foldl_append]; rfl

set_option maxRecDepth 100000 in
set_option maxHeartbeats 4000000 in
theorem lawWritesRead (A : Option Addr) (n c : Nat) (ls : List Raw) (A' : Option Addr) (n' c' : Nat) (ls' : List Raw) (w : World) (h : Rep w w.heap.size 4 Raw.cell A n ls) (hn : n ≤ maxLen) (hc : n ≤ c) (hc64 : c ≤ maxLen) (hwf : ∀ a ∈ ls, a.wf)
    (h' : Rep w w.heap.size 4 Raw.cell A' n' ls') (hn' : n' ≤ maxLen) (hwf' : ∀ a ∈ ls', a.wf) :
    Calls Tryd.prog 7 #[.slice A n c, .slice A' n' c'] w fun e w' => e = .returned (.bool true) ∧ Below w.heap.size w w' := by
  have HV := Lib.hid (volumeK_any A n c ls w h hn hc hc64 hwf)
  have hwr : ∀ W, Below w.heap.size w W → Calls Tryd.prog 30 #[.slice A' n' c', .int .i64 16] W (WritesPost W n' 16) := fun W hb => writesK_any A' n' c' 16 ls' W ((h'.below hb (Nat.le_refl _)).mono hb.size) hn' hwf' (by omega) (by omega)
  have HWR := Lib.hid hwr
  clear h hn hc hc64 hwf h' hn' hwf' hwr
  have hmm := @run_makeMap Tryd.prog
  go_enter Tryd.func7, Tryd.ntmps7
  go_wp2_with fail
  refine HV.out.mono ?_
  rintro e w1 ⟨A1, c1, B1, d1, us, cs, rfl, hg, hou, hov, hb1⟩
  obtain ⟨u, hu⟩ : ∃ u, us.length = u := ⟨_, rfl⟩
  rw [hu] at hou ⊢
  obtain ⟨w2, hw2⟩ : ∃ w2, w2 = w1.alloc (.cells #[.slice A1 u c1, .slice B1 16 d1] 30) := ⟨_, rfl⟩
  have hal : Below w1.heap.size w1 w2 := by rw [hw2]; exact (Below.refl _ _).alloc (Nat.le_refl _) _
  have hv2 : VolB w1.heap.size (.slice A1 u c1) (.slice B1 16 d1) w2 := by rw [hw2]; exact VolB.new w1 _ _ _
  have hbe2 := hb1.trans (hal.mono hb1.size)
  have HB2 := Lib.hid hbe2
  have HW2 := Lib.hid hw2
  have HO2 := Lib.hid (And.intro (own_below hou hal) (own_below hov hal))
  have HV2 := Lib.hid hv2
  have HG := Lib.hid hg
  have HU := Lib.hid hu
  have HWR2 := Lib.hid (HWR.out w2 hbe2)
  obtain ⟨R, hR⟩ : ∃ R, w1.heap.size = R := ⟨_, rfl⟩
  clear hw2 hou hov hb1 hal hv2 hg hu hbe2
  go_upto_region 2 with (fail)
  rw [← HW2.out]
  rw [hR] at HV2
  clear HW2 hR
  go_wp2_with fail
  with_reducible refine HWR2.out.mono ?_
  rintro e w3 ⟨Aw, cw, ws, rfl, _, _, hww, how, hb3⟩
  have hgw : GoodW ws ((us, cs).2.length : Nat) := by show GoodW ws (cs.length : Nat); rw [HG.out.len]; exact hww.good
  have hzero := applied_takes (V := (us, cs)) HG.out.good (by show cs.length ≤ 23; rw [HG.out.len]; omega) hgw
  obtain ⟨_, _, gU, lU⟩ := applied_good' (v := (us, cs)) hzero
  have hrl : (readsR (us, cs)).length = 16 := by rw [readsR_len]; exact HG.out.len
  obtain ⟨rs, hrs⟩ : ∃ rs, readsR (us, cs) = rs := ⟨_, rfl⟩
  rw [hrs] at hrl
  obtain ⟨X, hX⟩ : ∃ X, appliedR us cs ws = X := ⟨_, rfl⟩
  rw [hX] at gU lU
  have hz2 : X.2.2 = 0 := by rw [← hX]; exact hzero
  obtain ⟨us2, cs2, k2⟩ := X
  dsimp only at gU lU hz2
  subst hz2
  rw [HG.out.len] at lU
  have hput := reads_applied (V := (us, cs)) hX
  rw [hrs] at hput
  have hcnt := items_count (V := (us2, cs2)) gU
  have hsz := reads_size (V := (us2, cs2)) gU
  rw [hput] at hcnt hsz
  obtain ⟨S, hS⟩ : ∃ S, putAll rs ws = S := ⟨_, rfl⟩
  rw [hS] at hput hcnt hsz
  have hSl : S.length = 16 := by rw [← hS, putAll_len, hrl]
  obtain ⟨u2, hu2⟩ : ∃ u2, us2.length = u2 := ⟨_, rfl⟩
  dsimp only at hcnt
  rw [hu2] at hcnt
  obtain ⟨q, hq⟩ : ∃ q, ws.length = q := ⟨_, rfl⟩
  rw [hq] at how ⊢
  have hq12 : q ≤ 12 := by rw [← hq]; exact hww.len
  have hv3 := HV2.out.step hb3
  have ho3 := own_below HO2.out.1 hb3
  have hv3' := own_below HO2.out.2 hb3
  have HAP := Lib.hid (applyB A1 B1 Aw u c1 d1 q cw u2 us us2 cs cs2 ws w3 (Rep.of_own HU.out.symm ho3 (Nat.le_refl _)) (Rep.of_own HG.out.len.symm hv3' (Nat.le_refl _)) (Rep.of_own hq.symm how (Nat.le_refl _)) (own_nilV ho3) (own_nilV hv3') (own_max' ho3) (own_max' how) HG.out.good hX hu2 lU)
  have a0 := hv3.a0
  have a1 := hv3.a1
  have hu24 : u2 ≤ 24 := by rw [← hu2]; exact gU.good.1
  have HB3 := Lib.hid hb3
  have HW3 := Lib.hid how
  have HUN := Lib.hid (And.intro gU (And.intro lU (And.intro hput (And.intro hcnt (And.intro hsz (And.intro hS hSl))))))
  have HL := Lib.hid (And.intro hrl (And.intro hu2 hq))
  have HRS := Lib.hid hrs
  have HWW := Lib.hid hww
  clear hww how hb3 hgw hrs hX gU lU hput hcnt hsz hS hSl hrl hu2 hq hv3 ho3 hv3' hzero
  go_wp2_with fail
  with_reducible refine HAP.out.mono ?_
  rintro e w4 ⟨A4, c4, B4, d4, rfl, ho4, hm4, hb4⟩
  obtain ⟨w5, hw5⟩ : ∃ w5, w5 = w4.alloc (.cells #[.slice A4 u2 c4, .slice B4 16 d4] 30) := ⟨_, rfl⟩
  have hal5 : Below w4.heap.size w4 w5 := by rw [hw5]; exact (Below.refl _ _).alloc (Nat.le_refl _) _
  have hv5 : VolB w4.heap.size (.slice A4 u2 c4) (.slice B4 16 d4) w5 := by rw [hw5]; exact VolB.new w4 _ _ _
  have hb35 := hb4.trans (hal5.mono hb4.size)
  have hb25 := HB3.out.trans (hb35.mono HB3.out.size)
  have hvR := HV2.out.step hb25
  have b0 := hvR.a0
  have b1 := hvR.a1
  have HW5 := Lib.hid hw5
  have HV5 := Lib.hid hv5
  have HO5 := Lib.hid (And.intro (own_below ho4 hal5) (own_below hm4 hal5))
  have HB25 := Lib.hid hb25
  have HWO5 := Lib.hid (own_below HW3.out hb35)
  have HRD := Lib.hid (readsB A1 B1 c1 d1 u us cs rs w5 (Rep.of_own HU.out.symm (own_below HO2.out.1 hb25) (Nat.le_refl _)) (Rep.of_own HG.out.len.symm (own_below HO2.out.2 hb25) (Nat.le_refl _)) HG.out.good HRS.out)
  obtain ⟨R2, hR2⟩ : ∃ R2, w4.heap.size = R2 := ⟨_, rfl⟩
  clear hw5 hal5 hv5 hb35 hb25 hvR ho4 hm4 hb4
  go_upto_region 4 with (fail)
  rw [← HW5.out]
  rw [hR2] at HV5
  clear HW5 hR2
  go_wp2_with fail
  with_reducible refine HRD.out.mono ?_
  rintro e w6 ⟨A6, c6, rfl, ho6, hb6⟩
  have HS6 := Lib.hid ho6
  have HB6 := Lib.hid hb6
  clear ho6 hb6
  go_upto_region 10 with (fail)
  go_loopw [45] (fun t wr => ∃ i : Nat, i ≤ q ∧ t = .int .i64 i ∧ wr.ownsRow w5.heap.size 9 1 (.slice A6 16 c6) 16 (flat strCell 1 (putAll rs (ws.take i))) ∧ Below w5.heap.size w5 wr) (fun t _ => q - (intOf t).toNat)
  case atStart => exact ⟨0, by omega, rfl, HS6.out, HB6.out⟩
  case round =>
    obtain ⟨i, hiq, rfl, hrow, hbe⟩ := hrel
    by_cases hlt : i < q
    · have hiw : i < ws.length := by rw [HL.out.2.2]; exact hlt
      have hpl : (putAll rs (ws.take i)).length = 16 := by rw [putAll_len, HL.out.1]
      obtain ⟨g1, of1, rfl, hg1, x0, x1⟩ := writes_at (k := i) (Rep.of_own (n := q) HL.out.2.2.symm (own_below HWO5.out hbe) (Nat.le_refl _)) hlt
      have hrng := HWW.out.rng _ (List.getElem_mem hiw)
      have hnext := putAll_next (rs := rs) hiw
      obtain ⟨p, hp⟩ : ∃ p : Nat, ws[i].block = (p : Int) := ⟨ws[i].block.toNat, by omega⟩
      rw [hp] at x0 hrng hnext
      rw [Int.toNat_natCast] at hnext
      obtain ⟨ds, hds⟩ : ∃ ds, ws[i].data = ds := ⟨_, rfl⟩
      rw [hds] at x1 hnext
      have hp16 : p < 16 := by omega
      obtain ⟨g, cap, hA, _, _⟩ := hrow.form (by omega)
      simp only [Value.slice.injEq, true_and] at hA
      obtain ⟨rfl, rfl⟩ := hA
      obtain ⟨g2, of2, hA2, hg2, y0⟩ := str_at (k := p) (Rep.of_own (n := 16) hpl.symm hrow (Nat.le_refl _)) hp16
      simp only [Option.some.injEq, Addr.mk.injEq, and_true] at hA2
      obtain ⟨rfl, rfl⟩ := hA2
      rw [Nat.zero_add] at y0
      generalize hxd : (putAll rs (ws.take i))[p]'(by rw [hpl]; exact hp16) = xd at y0
      have z1 := hrow.frozenAt p
      have hst := (hrow.stored p (.string ds)).1
      rw [flat_str_set, ← hnext] at hst
      have hgw := (hrow.lt g rfl).1
      have HST := Lib.hid (And.intro hst (hbe.setCell (p := ⟨g, p, none⟩) hgw (.string ds)))
      have hneg : decide ((i : Int) < (q : Nat)) = true := decide_eq_true (by omega)
      clear hxd hst hds hnext hrng hp hrow hbe hpl hiw hg2 hg1 hgw
      go_wp2_with fail
      go_roundw
      case rel => exact ⟨i + 1, by omega, by go_num, own_below HST.out.1 ((Below.refl _ _).alloc (Nat.le_refl _) _), HST.out.2.alloc HST.out.2.size _⟩
      case measure => simp [intOf]; omega
    · have hiq2 : i = q := by omega
      subst hiq2
      have hfull : ws.take i = ws := List.take_of_length_le (by rw [HL.out.2.2]; exact Nat.le_refl _)
      rw [hfull, HUN.out.2.2.2.2.2.1] at hrow
      obtain ⟨w7, hw7⟩ : ∃ w7, w7 = wr.alloc (.map #[] 0) := ⟨_, rfl⟩
      have hal7 : Below wr.heap.size wr w7 := by rw [hw7]; exact (Below.refl _ _).alloc (Nat.le_refl _) _
      have hset7 : StrSet Tryd.prog 9 4 w7 wr.heap.size [] := by rw [hw7]; exact StrSet.made Tryd.prog 9 4 wr
      have HB7 := Lib.hid (hbe.trans (hal7.mono hbe.size))
      have HS7 := Lib.hid (own_below hrow hal7)
      have HSET := Lib.hid hset7
      have HSL := Lib.hid HUN.out.2.2.2.2.2.2
      have HSZ := Lib.hid HUN.out.2.2.2.2.1
      have HW7 := Lib.hid hw7
      obtain ⟨M, hM⟩ : ∃ M, wr.heap.size = M := ⟨_, rfl⟩
      have hMs : w5.heap.size ≤ M := by rw [← hM]; exact hbe.size
      have hMw : w7.heap.size = M + 1 := by rw [hw7, ← hM]; simp
      have hglt : ∀ g, (Value.slice A6 16 c6).ownBlock = some g → g < M := fun g hg => by rw [← hM]; exact (hrow.lt g hg).2
      have HGL := Lib.hid hglt
      clear hfull hrow hbe hw7 hal7 hset7 hglt
      go_upto_region 16 with (fail)
      rw [← HW7.out]
      rw [hM] at HSET
      clear HW7 hM
      go_loopw [59] (fun t wr => ∃ k : Nat, k ≤ 16 ∧ t = .int .i64 k ∧ StrSet Tryd.prog 9 4 wr M (nonE (S.take k)) ∧ Touch (fun b => b = M) w7 wr) (fun t _ => 16 - (intOf t).toNat)
      case atStart => exact ⟨0, by omega, rfl, HSET.out, Touch.refl _ _⟩
      case round =>
        obtain ⟨k, hk, rfl, hset, hT⟩ := hrel
        have HS := Lib.hid hset
        have HT := Lib.hid hT
        by_cases hlt2 : k < 16
        · have hon := own_touch HS7.out hT (fun g hg e => by have := HGL.out g hg; omega)
          obtain ⟨b, off, rfl, hb, c0⟩ := str_at (k := k) (Rep.of_own (n := 16) HSL.out.symm hon (Nat.le_refl _)) hlt2
          have hkl : k < S.length := by rw [HSL.out]; exact hlt2
          obtain ⟨z, hz⟩ : ∃ z, S[k]'hkl = z := ⟨_, rfl⟩
          rw [hz] at c0
          have hnext : S.take (k + 1) = S.take k ++ [z] := by rw [List.take_succ_eq_append_getElem hkl, hz]
          have HNX := Lib.hid hnext
          have hsl : (nonE (S.take k)).length ≤ 16 := Nat.le_trans (List.length_filter_le _ _) (by rw [List.length_take]; omega)
          have hzs : z.size ≤ 48 := HSZ.out z (by rw [← hz]; exact List.getElem_mem hkl)
          have hneg : decide ((k : Int) < 16) = true := decide_eq_true (by omega)
          clear hset hT hon hb hz hnext
          by_cases h0 : z.size = 0
          · have d1 := isEmpty_yes h0
            have e1 : nonE (S.take (k + 1)) = nonE (S.take k) := by rw [HNX.out, nonE_snoc, if_neg (fun h => h h0)]
            have E1 := Lib.hid e1
            clear e1 h0
            go_wp2
            go_roundw
            case rel => exact ⟨k + 1, by omega, by go_num, by rw [E1.out]; exact HS.out, HT.out⟩
            case measure => simp [intOf]; omega
          · have d1 := isEmpty_no h0
            have e1 : nonE (S.take (k + 1)) = nonE (S.take k) ++ [z] := by rw [HNX.out, nonE_snoc, if_pos h0]
            have E1 := Lib.hid e1
            clear e1 h0
            go_wp2_with (at_mapUpdate; refine wpList_strSet_put (P := Tryd.prog) rfl _ _ _ 67 rfl Tryd.underlying9 Tryd.underlying4 Tryd.underlying67 z rfl rfl rfl HS.out (by unfold maxLen; omega) (by unfold maxLen; omega) ?_; intro w8 hset1 hg1)
            have HS8 := Lib.hid hset1
            have HT8 := Lib.hid (HT.out.trans (Touch.grown hg1 (fun k hk => (Option.some.inj hk).symm)))
            clear hset1 hg1
            go_wp2
            go_roundw
            case rel => exact ⟨k + 1, by omega, by go_num, by rw [E1.out]; exact HS8.out, HT8.out⟩
            case measure => simp [intOf]; omega
        · obtain rfl : k = 16 := by omega
          have hfull2 : S.take 16 = S := List.take_of_length_le (by rw [HSL.out]; exact Nat.le_refl _)
          rw [hfull2] at hset
          have hb57 : Below w5.heap.size w5 wr := HB7.out.trans (hT.toBelow HB7.out.size (fun k hk => by omega))
          have hson := own_touch HS7.out hT (fun g hg e => by have := HGL.out g hg; omega)
          have hvn := HV5.out.step hb57
          have a0w := hvn.a0
          have a1w := hvn.a1
          have HRD2 := Lib.hid (readsB A4 B4 c4 d4 u2 us2 cs2 S wr (Rep.of_own HL.out.2.1.symm (own_below HO5.out.1 hb57) (Nat.le_refl _)) (Rep.of_own HUN.out.2.1.symm (own_below HO5.out.2 hb57) (Nat.le_refl _)) HUN.out.1 HUN.out.2.2.1)
          have HSON := Lib.hid hson
          have HVN := Lib.hid hvn
          have HSETF := Lib.hid hset
          have HB57 := Lib.hid hb57
          clear hset hT hfull2 hb57 hson hvn hmm
          go_wp2_with fail
          with_reducible refine HRD2.out.mono ?_
          rintro e w10 ⟨A10, c10, rfl, ho10, hb10⟩
          have HEQ := Lib.hid (equalStrQ A10 A6 16 c10 c6 S w10 (Rep.of_own HSL.out.symm ho10 (Nat.le_refl _)) (Rep.of_own HSL.out.symm (own_below HSON.out hb10) (Nat.le_refl _)) (by unfold maxLen; omega))
          have e0 := (HVN.out.step hb10).a0
          have e1 := (HVN.out.step hb10).a1
          have hb510 := HB57.out.trans (hb10.mono HB57.out.size)
          have HCK := Lib.hid (fun (j : Nat) => volCheck_any A4 B4 u2 c4 16 d4 us2 cs2 (w10.drewN j) (Rep.of_own HL.out.2.1.symm (own_below HO5.out.1 (below_drewN hb510 j)) (Nat.le_refl _)) (Rep.of_own HUN.out.2.1.symm (own_below HO5.out.2 (below_drewN hb510 j)) (Nat.le_refl _)) (by unfold maxLen; omega) (by unfold maxLen; omega) (vol_ok HUN.out.1))
          have HV10 := Lib.hid (HVN.out.step hb10)
          have HB510 := Lib.hid hb510
          have HSE10 := Lib.hid (HSETF.out.below hb10)
          clear a0w a1w ho10 hb10 hb510
          go_wp2_with (first | (go_at_call 32; (with_reducible refine HEQ.out.mono ?_); rintro e w' ⟨rfl, jj, rfl⟩) | (go_at_call 18; (with_reducible refine (HCK.out _).mono ?_); rintro e w12 ⟨hck, hb12⟩; unfold VCheckPost at hck; rw [goodVN_yes HUN.out.1] at hck; subst hck; have f0 := ((HV10.out.step (below_drewN (Below.refl _ _) jj)).step hb12).a0; have hlen : (Builtin.len_ #[67] 3 #[.map (some M)]).run Tryd.prog w12 = .ok (.int .i64 u2) w12 := (by rw [((HSE10.out.drewN jj).below hb12).len Tryd.underlying67 3, HUN.out.2.2.2.1]); have HB12 := Lib.hid (HB510.out.trans (((below_drewN (Below.refl w10.heap.size w10) jj).trans hb12).mono HB510.out.size)); clear e0 e1 hb12))
          go_ret
          exact ⟨rfl, HB2.out.trans ((HB25.out.trans (HB12.out.mono HB25.out.size)).mono HB2.out.size)⟩
end Go.Proofs.YtphbebcbbfbgpacDoor
