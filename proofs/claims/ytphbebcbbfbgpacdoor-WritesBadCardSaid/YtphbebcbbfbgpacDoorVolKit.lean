/- saltcellarkeep.Writes: writes out of raw numbers, in order of their blocks. saltcellarkeep.Volume: a volume out of raw numbers. What the laws over volumes call, its results by name: volume.Apply, saltcellarkeep.Reads, slices.Clone at writes; writes that turn back, in plain Lean. -/
import Derived.Test.YtphbebcbbfbgpacDoorContainsW
import Derived.Test.YtphbebcbbfbgpacDoorSortW
import Derived.Test.YtphbebcbbfbgpacDoorData
import Derived.Test.YtphbebcbbfbgpacDoorBytes
import Derived.Test.YtphbebcbbfbgpacDoorTopKit
import Derived.Test.YtphbebcbbfbgpacDoorLogFirstP
import Derived.Deep.RegionHeld3
import Derived.Test.YtphbebcbbfbgpacDoorApply
import Derived.Test.YtphbebcbbfbgpacDoorVolNew
import Derived.Test.YtphbebcbbfbgpacDoorEngCrashed
import Derived.Test.YtphbebcbbfbgpacDoorRepBlock
import Derived.Lib.SliceRun
namespace Go.Proofs.YtphbebcbbfbgpacDoor
open Go Go.RowKit Go.Sort Go.Shelf
set_option linter.unusedSimpArgs false
set_option linter.unusedVariables false

/-- what the writes out of raw numbers are like -/
structure RawW (ws : List Wrt) (nb : Nat) : Prop where
  len : ws.length ≤ 12
  rng : ∀ x ∈ ws, 0 ≤ x.block ∧ x.block < nb
  data : ∀ x ∈ ws, ∃ r, x.data = dataR r
  asc : ws.Pairwise (fun x y => x.block < y.block)
theorem RawW.good {ws : List Wrt} {nb : Nat} (h : RawW ws nb) : GoodW ws nb :=
  ⟨h.len, fun x hx => (h.rng x hx).1, fun x hx => (h.rng x hx).2, fun x hx => by obtain ⟨r, e⟩ := h.data x hx; rw [e]; have := dataR_size r; omega, h.asc⟩
def WritesPost (w : World) (n nb : Nat) (e : Ending) (w' : World) : Prop :=
  ∃ A c ws, e = .returned (.slice A ws.length c) ∧ ws.length ≤ n ∧ (0 < n → 0 < ws.length) ∧ RawW ws nb ∧ w'.ownsRow w.heap.size 55 2 (.slice A ws.length c) ws.length (flat Wrt.cell 2 ws) ∧ Below w.heap.size w w'

theorem keepS {R : Nat → Prop} {w6 w7 : World} (hT : Touch R w6 w7) {q b o : Nat} (hq : q < w6.heap.size) (hb : b < w6.heap.size) (nq : ¬ R q) (nb : ¬ R b) {u0 u1 u2 u3 u4 : Value}
    (h : w6.cell? ⟨q, 0, none⟩ = some u0 ∧ w6.cell? ⟨b, o, none⟩ = some u1 ∧ w6.cell? ⟨b, o + 1, none⟩ = some u2 ∧ w6.cell? ⟨b, o + 2, none⟩ = some u3 ∧ w6.cell? ⟨b, o + 3, none⟩ = some u4) :
    w7.cell? ⟨q, 0, none⟩ = some u0 ∧ w7.cell? ⟨b, o, none⟩ = some u1 ∧ w7.cell? ⟨b, o + 1, none⟩ = some u2 ∧ w7.cell? ⟨b, o + 2, none⟩ = some u3 ∧ w7.cell? ⟨b, o + 3, none⟩ = some u4 :=
  ⟨(hT.cell (p := ⟨q, 0, none⟩) hq nq).trans h.1, (hT.cell (p := ⟨b, o, none⟩) hb nb).trans h.2.1, (hT.cell (p := ⟨b, o + 1, none⟩) hb nb).trans h.2.2.1, (hT.cell (p := ⟨b, o + 2, none⟩) hb nb).trans h.2.2.2.1, (hT.cell (p := ⟨b, o + 3, none⟩) hb nb).trans h.2.2.2.2⟩

set_option maxRecDepth 100000 in
set_option maxHeartbeats 4000000 in
theorem writesK_any (A : Option Addr) (n c nb : Nat) (ls : List Raw) (w : World) (h : Rep w w.heap.size 4 Raw.cell A n ls) (hn : n ≤ maxLen) (hwf : ∀ a ∈ ls, a.wf) (h0 : 0 < nb) (hnb : nb ≤ 100) :
    Calls Tryd.prog 30 #[.slice A n c, .int .i64 nb] w (WritesPost w n nb) := by
  have hmf : ∀ (fn : Fn) (first cap : Array Value) (w : World), (Instr.makeFunc fn first cap).run Tryd.prog w = .ok (.func fn first cap) w := fun _ _ _ _ => rfl
  have H := Lib.hid h
  have HL := Lib.hid h.1
  have HWF := Lib.hid hwf
  obtain ⟨i0, ii, iz0, iz1, iz2⟩ := info_parts infoWrite
  have II := Lib.hid ii
  have IZ0 := Lib.hid iz0
  have IZ1 := Lib.hid iz1
  have IZ2 := Lib.hid iz2
  unfold maxLen at hn
  clear h hwf ii iz0 iz1 iz2
  go_enter Tryd.func30, Tryd.ntmps30
  go_wp2
  go_loopw [5, 6] (fun v t wr => ∃ (i k : Nat) (ws : List Wrt), i ≤ n ∧ t = .int .i64 i ∧ ws.length = k ∧ k ≤ 12 ∧ k ≤ i ∧ (0 < i → 0 < k) ∧ Hid ((∀ x ∈ ws, (0 ≤ x.block ∧ x.block < nb) ∧ ∃ r, x.data = dataR r) ∧ (ws.map (·.block)).Nodup) ∧ wr.ownsRow w.heap.size 55 2 v k (flat Wrt.cell 2 ws) ∧ Below w.heap.size w wr) (fun _ t _ => n - (intOf t).toNat)
  case atStart => exact ⟨0, 0, [], Nat.zero_le _, rfl, rfl, Nat.zero_le _, Nat.zero_le _, fun h => absurd h (by omega), Lib.hid (by simp), World.ownsRow_nil _ _ _ _, Below.refl _ _⟩
  case round =>
    obtain ⟨i, k, ws, hi, rfl, hk, hk12, hki, hpos, hws, hown, hbel⟩ := hrel
    obtain ⟨Ao, co, rfl⟩ := own_slice2 hown
    have HO := Lib.hid hown
    have HB := Lib.hid hbel
    have HK := Lib.hid hk
    by_cases hlt : i < n ∧ k < 12
    · obtain ⟨hlt, hlt2⟩ := hlt
      obtain ⟨b, off, rfl, hb, a0, a1, a2, a3⟩ := raws_at (k := i) (H.out.below hbel (Nat.le_refl _)) hlt
      have hil : i < ls.length := by have := HL.out; omega
      have hwa := HWF.out _ (List.getElem_mem hil)
      obtain ⟨r, hr⟩ : ∃ r, ls[i]'hil = r := ⟨_, rfl⟩
      rw [hr] at a0 a1 a2 a3 hwa
      have hdat := fun W => data_any r W hwa
      have hds := dataR_size r
      obtain ⟨s, hs⟩ : ∃ s, dataR r = s := ⟨_, rfl⟩
      rw [hs] at hdat hds
      have hpk : ∀ W, Calls Tryd.prog 15 #[.int .i64 r.c, .int .i64 nb] W fun e w' => e = .returned (.int .i64 (pickN r.c nb)) ∧ W = w' := fun W => picked_any r.c nb W hwa.2.2.2 h0 (by omega)
      have hpl := pickN_lt r.c h0
      obtain ⟨p, hp⟩ : ∃ p, pickN r.c nb = p := ⟨_, rfl⟩
      rw [hp] at hpk hpl
      have HDS : Hid (∃ r, s = dataR r) := Lib.hid ⟨r, hs.symm⟩
      obtain ⟨rk, ra, rb, rc⟩ := r
      dsimp only at a0 a1 a2 a3 hdat hpk
      have HDAT := Lib.hid hdat
      have HPK := Lib.hid hpk
      obtain ⟨q, hq⟩ : ∃ q, wr.heap.size = q := ⟨_, rfl⟩
      obtain ⟨wb, hwb⟩ : ∃ wb, wb = wr.alloc (.cells #[.int .i64 p] 3) := ⟨_, rfl⟩
      have hbb : Below wr.heap.size wr wb := by rw [hwb]; exact (Below.refl _ _).alloc (Nat.le_refl _) _
      have hcb : wb.cell? ⟨q, 0, none⟩ = some (.int .i64 p) := by rw [hwb, ← hq]; simp [go_sem]
      have hqb : q < wb.heap.size := by rw [hwb, ← hq]; simp
      have hob := own_below hown hbb
      have hbw := hbel.trans (hbb.mono hbel.size)
      have hog : ∀ g, (Value.slice Ao k co).ownBlock = some g → g ≠ q := fun g hg e => by have := (hown.lt g hg).2; omega
      have hkeep : ∀ W, Below wb.heap.size wb W → W.cell? ⟨q, 0, none⟩ = some (.int .i64 p) ∧ W.cell? ⟨b, off + i * 4, none⟩ = some (.int .i64 rk) ∧ W.cell? ⟨b, off + i * 4 + 1, none⟩ = some (.int .i64 ra) ∧ W.cell? ⟨b, off + i * 4 + 2, none⟩ = some (.int .i64 rb) ∧ W.cell? ⟨b, off + i * 4 + 3, none⟩ = some (.int .i64 rc) := fun W hW => by
        have hW' : Below wr.heap.size wr W := hbb.trans (hW.mono hbb.size)
        have hbr : b < wr.heap.size := Nat.lt_of_lt_of_le hb hbel.size
        exact ⟨(hW.cell (p := ⟨q, 0, none⟩) hqb).trans hcb, (hW'.cell (p := ⟨b, off + i * 4, none⟩) hbr).trans a0, (hW'.cell (p := ⟨b, off + i * 4 + 1, none⟩) hbr).trans a1, (hW'.cell (p := ⟨b, off + i * 4 + 2, none⟩) hbr).trans a2, (hW'.cell (p := ⟨b, off + i * 4 + 3, none⟩) hbr).trans a3⟩
      have HCON := Lib.hid (containsW p q Ao k co ws wb (Rep.of_own hk.symm hob (Nat.le_refl _)) (by omega) hcb hqb)
      have HKEEP := Lib.hid hkeep
      have HOB := Lib.hid hob
      have HBW := Lib.hid hbw
      have HWB := Lib.hid hwb
      have HOG := Lib.hid hog
      have HQ := Lib.hid hq
      have HQB := Lib.hid hqb
      have HBB := Lib.hid hbb
      have HBR : Hid (b < w.heap.size) := Lib.hid hb
      clear hdat hpk hr hs hp hwa hwb hbb hcb hob hbw hog hkeep hbel hown hb hqb
      go_upto_region 6 with (go_at_call 15; (with_reducible refine (HPK.out _).mono ?_); rintro e w' ⟨rfl, rfl⟩)
      rw [← HWB.out]
      clear a0 a1 a2 a3 hq
      go_wp2_with fail
      with_reducible refine HCON.out.mono ?_
      rintro e w5 ⟨hb5, ⟨rfl, hall⟩ | ⟨rfl, hmem⟩⟩
      · have HB5 := Lib.hid hb5
        have hnew : (∀ x ∈ ws ++ [(⟨p, s⟩ : Wrt)], (0 ≤ x.block ∧ x.block < (nb : Int)) ∧ ∃ r, x.data = dataR r) ∧ ((ws ++ [(⟨p, s⟩ : Wrt)]).map (·.block)).Nodup := by
          refine ⟨fun x hx => ?_, ?_⟩
          · rcases List.mem_append.1 hx with hx | hx
            · exact hws.out.1 x hx
            · rw [List.mem_singleton.1 hx]
              exact ⟨⟨by simp, by simp; omega⟩, HDS.out⟩
          · rw [List.map_append, List.nodup_append]
            refine ⟨hws.out.2, by simp, fun x hx y hy e => ?_⟩
            obtain ⟨z, hz, rfl⟩ := List.mem_map.1 hx
            simp only [List.map_cons, List.map_nil, List.mem_singleton] at hy
            exact hall z hz (by rw [e, hy])
        have HNEW := Lib.hid hnew
        clear hb5 hall hnew
        go_upto_region 7 with (fail)
        go_region_held3 (fun W => W.cell? ⟨q, 0, none⟩ = some (.int .i64 p) ∧ W.cell? ⟨b, off + i * 4, none⟩ = some (.int .i64 rk) ∧ W.cell? ⟨b, off + i * 4 + 1, none⟩ = some (.int .i64 ra) ∧ W.cell? ⟨b, off + i * 4 + 2, none⟩ = some (.int .i64 rb) ∧ W.cell? ⟨b, off + i * 4 + 3, none⟩ = some (.int .i64 rc)) (first | exact HK7.out | (refine HKEEP.out _ ?_; (repeat (first | with_reducible exact HB6.out | with_reducible exact HB5.out | with_reducible exact Below.refl _ _ | with_reducible refine Below.drew ?_ | (with_reducible refine Below.alloc ?_ ?_ _) | with_reducible exact HB6.out.size | with_reducible exact HB5.out.size)))) (first | (go_at_call 41; (with_reducible refine (HDAT.out _).mono ?_); rintro e w6 ⟨rfl, hb6⟩; have HB6 : Hid (Below wb.heap.size wb w6) := Lib.hid (HB5.out.drew.trans (hb6.mono HB5.out.drew.size)); have HO6 := Lib.hid (own_below HOB.out HB6.out); clear hb6) | (refine step_append_own rfl (.tmp 30) (.tmp 38) 53 rfl w.heap.size 55 i0 _ 2 24 Tryd.underlying53 II.out IZ0.out IZ1.out IZ2.out rfl (by decide) _ _ _ (by simp [Act.eval]) (HO6.out.alloc _) ⟨w6.heap.size, 0, none⟩ 1 1 [.int .i64 p, .string s] (by simp [Act.eval]) rfl (World.news_of_block (cs := #[.int .i64 p, .string s]) (t := 55) (fr := (0, 0)) (heap_alloc_new w6 _)) (by simp [Value.oneCell']) (by unfold maxLen; omega) (by omega) ((HBW.out.trans (HB6.out.mono HBW.out.size)).alloc (HBW.out.trans (HB6.out.mono HBW.out.size)).size _).size ?_; intro v' w7 hown7 hgr7; have HT7 : Hid (Touch (fun j => (Value.slice Ao k co).ownBlock = some j) w6 w7) := Lib.hid ((Touch.below ((Below.refl _ _).alloc (Nat.le_refl _) _)).trans (Touch.grown hgr7 (fun j hj => hj))); have HK7 := Lib.hid (keepS HT7.out (Nat.lt_of_lt_of_le HQB.out HB6.out.size) (Nat.lt_of_lt_of_le HBR.out (HBW.out.trans (HB6.out.mono HBW.out.size)).size) (fun e => HOG.out _ e rfl) (fun e => by have := (HO6.out.lt b e).1; have := HBR.out; omega) (HKEEP.out w6 HB6.out)); have HO7 := Lib.hid hown7; clear hown7 hgr7))
        all_goals
          have ho7 : w7.ownsRow w.heap.size 55 2 v' (k + 1) (flat Wrt.cell 2 (ws ++ [(⟨p, s⟩ : Wrt)])) := by
            rw [flat_append, wrt_flat1]; exact HO7.out
          have hb67 := HBW.out.trans (HB6.out.mono HBW.out.size)
          have HB7 := Lib.hid (hb67.trans (HT7.out.toBelow hb67.size (fun j hj => (HO6.out.lt j hj).1)))
          have HO8 := Lib.hid ho7
          clear ho7 hb67
          go_wp2
          go_roundw
          case rel => exact ⟨i + 1, k + 1, _, by omega, by go_num, by rw [List.length_append, HK.out]; rfl, by omega, by omega, fun _ => by omega, HNEW, HO8.out, HB7.out⟩
          case measure => simp [intOf]; omega
      · have hmem2 := hmem
        have hp1 : 0 < k := by
          obtain ⟨x, hx, _⟩ := hmem2
          rw [← HK.out]; exact List.length_pos_of_mem hx
        have HO5 := Lib.hid (own_below HOB.out hb5)
        have HB5 := Lib.hid (HBW.out.trans (hb5.mono HBW.out.size))
        clear hmem hmem2 hb5
        go_wp2
        go_roundw
        case rel => exact ⟨i + 1, k, ws, by omega, by go_num, HK.out, hk12, by omega, fun _ => hp1, hws, HO5.out, HB5.out⟩
        case measure => simp [intOf]; omega
    · have hfull : 0 < n → 0 < k := fun h => by
        by_cases h1 : i < n
        · have : ¬ k < 12 := fun h2 => hlt ⟨h1, h2⟩
          omega
        · exact hpos (by omega)
      have hkn : k ≤ n := by omega
      have HB1 := Lib.hid hbel
      have HSO := Lib.hid (sortW_any Ao k co w.heap.size ws wr hown hk (by omega) (fun x hx => ⟨(hws.out.1 x hx).1.1, by have := (hws.out.1 x hx).1.2; omega⟩) hws.out.2 hbel.size)
      have HFU := Lib.hid hfull
      have hfin : ∀ (e : Ending) (w' : World), (∃ ws' : List Wrt, ws'.Perm ws ∧ ws'.Pairwise (fun x y => x.block < y.block) ∧ w'.ownsRow w.heap.size 55 2 (.slice Ao k co) k (flat Wrt.cell 2 ws') ∧ Below w.heap.size wr w') → e = .returned (.slice Ao k co) → WritesPost w n nb e w' := by
        rintro e w' ⟨ws', q1, q2, q3, q4⟩ rfl
        have hl : ws'.length = k := by rw [q1.length_eq, HK.out]
        refine ⟨Ao, co, ws', by rw [hl], by rw [hl]; exact hkn, fun h => by rw [hl]; exact HFU.out h, ⟨by rw [hl]; omega, fun x hx => (hws.out.1 x (q1.mem_iff.1 hx)).1, fun x hx => (hws.out.1 x (q1.mem_iff.1 hx)).2, q2⟩, by rw [hl]; exact q3, HB1.out.trans q4⟩
      have HFIN := Lib.hid hfin
      clear hown hbel hfull hfin hk
      by_cases h1 : i < n
      · have h2 : k = 12 := by omega
        obtain rfl : k = 12 := by omega
        go_wp2_with fail
        refine HSO.out.mono ?_
        rintro e w2 ⟨rfl, hex⟩
        have HE := Lib.hid hex
        clear hex
        go_wp2
        go_ret
        exact HFIN.out _ _ HE.out rfl
      · go_wp2_with fail
        with_reducible refine HSO.out.mono ?_
        rintro e w2 ⟨rfl, hex⟩
        have HE := Lib.hid hex
        clear hex
        go_wp2
        go_ret
        exact HFIN.out _ _ HE.out rfl
end Go.Proofs.YtphbebcbbfbgpacDoor

namespace Go.Proofs.YtphbebcbbfbgpacDoor
open Go Go.RowKit
set_option linter.unusedSimpArgs false
set_option linter.unusedVariables false

def lenV : Value → Nat
  | .slice _ n _ => n
  | _ => 0
/-- what a volume out of raw numbers is like -/
structure RawVol (us : List Itm) (cs : List Int) : Prop where
  good : GoodVol us cs
  len : cs.length = 16
  never : ∀ x ∈ us, x.data ≠ neverB
theorem RawVol.app {us : List Itm} {cs : List Int} (h : RawVol us cs) {ws : List Wrt} (hw : RawW ws 16) : (appliedR us cs ws).2.2 = 0 ∧ RawVol (appliedR us cs ws).1 (appliedR us cs ws).2.1 := by
  have hl := h.len
  have gw : GoodW ws cs.length := by rw [hl]; exact hw.good
  have h0 := applied_takes (V := (us, cs)) h.good (by show cs.length ≤ 23; omega) gw
  obtain ⟨_, _, g, l⟩ := applied_good' (v := (us, cs)) h0
  refine ⟨h0, g, by rw [l]; exact hl, fun y hy => ?_⟩
  rcases applied_datas (V := (us, cs)) h0 y hy with ⟨x, hx, e⟩ | ⟨w, hw', e⟩
  · rw [← e]; exact h.never x hx
  · obtain ⟨r, hr⟩ := hw.data w hw'
    rw [← e, hr]; exact dataR_never r
theorem RawVol.zero : RawVol [] (List.replicate 16 (-1)) := ⟨vol0_good (by omega) (by omega), by simp, by simp⟩

structure VolF (w : World) (V : Nat) (A B : Option Addr) (c d : Nat) (us : List Itm) (cs : List Int) (W : World) : Prop where
  v0 : W.cell? ⟨V, 0, none⟩ = some (.slice A us.length c)
  v1 : W.cell? ⟨V, 1, none⟩ = some (.slice B 16 d)
  f0 : W.frozen? ⟨V, 0, none⟩ = false
  f1 : W.frozen? ⟨V, 1, none⟩ = false
  r0 : W.cell? ⟨w.heap.size, 0, none⟩ = some (.slice none 0 0)
  r1 : W.cell? ⟨w.heap.size, 1, none⟩ = some (.slice none 0 0)
  g0 : W.frozen? ⟨w.heap.size, 0, none⟩ = false
  g1 : W.frozen? ⟨w.heap.size, 1, none⟩ = false
  lo : w.heap.size < V
  sz : V < W.heap.size
  ty : IsCells W V 30
  tr : IsCells W w.heap.size 30
  ou : W.ownsRow w.heap.size 42 3 (.slice A us.length c) us.length (flat Itm.cell 3 us)
  ov : W.ownsRow w.heap.size 3 1 (.slice B 16 d) 16 (flat intCell 1 cs)
  be : Below w.heap.size w W
section
variable {w W W' : World} {V : Nat} {A B A' B' : Option Addr} {c d c' d' : Nat} {us us' : List Itm} {cs cs' : List Int}
theorem VolF.step (h : VolF w V A B c d us cs W) (hb : Below W.heap.size W W') : VolF w V A B c d us cs W' where
  v0 := (hb.cell h.sz).trans h.v0
  v1 := (hb.cell h.sz).trans h.v1
  f0 := (hb.frozen h.sz).trans h.f0
  f1 := (hb.frozen h.sz).trans h.f1
  r0 := (hb.cell (Nat.lt_trans h.lo h.sz)).trans h.r0
  r1 := (hb.cell (Nat.lt_trans h.lo h.sz)).trans h.r1
  g0 := (hb.frozen (Nat.lt_trans h.lo h.sz)).trans h.g0
  g1 := (hb.frozen (Nat.lt_trans h.lo h.sz)).trans h.g1
  lo := h.lo
  sz := Nat.lt_of_lt_of_le h.sz hb.size
  ty := h.ty.below hb
  tr := h.tr.below hb
  ou := own_below h.ou hb
  ov := own_below h.ov hb
  be := h.be.trans (hb.mono h.be.size)
theorem own_set2 {base n size : Nat} {e : TypeId} {v : Value} {xs : List Value} (ho : W.ownsRow base e size v n xs) (ht : IsCells W V 30) (he : e ≠ 30) (x y : Value) :
    ((W.setCell ⟨V, 0, none⟩ x).setCell ⟨V, 1, none⟩ y).ownsRow base e size v n xs := by
  have h1 := own_setCell_other ho (p := ⟨V, 0, none⟩) (fun g hg => own_not ho ht he g hg) x
  exact own_setCell_other h1 (p := ⟨V, 1, none⟩) (fun g hg => own_not ho ht he g hg) y
theorem cell_set2 {R V o : Nat} {W : World} (hne : R ≠ V) (x y : Value) : ((W.setCell ⟨V, 0, none⟩ x).setCell ⟨V, 1, none⟩ y).cell? ⟨R, o, none⟩ = W.cell? ⟨R, o, none⟩ := by
  rw [World.cell?_setCell_other _ _ _ _ (by intro e; first | exact hne (congrArg Addr.block e) | exact hne (congrArg Addr.block e).symm), World.cell?_setCell_other _ _ _ _ (by intro e; first | exact hne (congrArg Addr.block e) | exact hne (congrArg Addr.block e).symm)]
theorem VolF.set (h : VolF w V A B c d us cs W) (hu : W.ownsRow w.heap.size 42 3 (.slice A' us'.length c') us'.length (flat Itm.cell 3 us')) (hv : W.ownsRow w.heap.size 3 1 (.slice B' 16 d') 16 (flat intCell 1 cs')) :
    VolF w V A' B' c' d' us' cs' ((W.setCell ⟨V, 0, none⟩ (.slice A' us'.length c')).setCell ⟨V, 1, none⟩ (.slice B' 16 d')) := by
  have hne : w.heap.size ≠ V := Nat.ne_of_lt h.lo
  have v0 := h.v0
  have v1 := h.v1
  have f0 := h.f0
  have f1 := h.f1
  have g0 := h.g0
  have g1 := h.g1
  refine ⟨?_, ?_, ?_, ?_, ?_, ?_, ?_, ?_, h.lo, ?_, (h.ty.setCell _ _).setCell _ _, (h.tr.setCell _ _).setCell _ _, own_set2 hu h.ty (by decide) _ _, own_set2 hv h.ty (by decide) _ _, ?_⟩
  · simp [go_sem, v0]
  · simp [go_sem, v1]
  · simp [f0]
  · simp [f1]
  · rw [cell_set2 hne]; exact h.r0
  · rw [cell_set2 hne]; exact h.r1
  · simp [g0]
  · simp [g1]
  · simpa [World.setCell] using h.sz
  · exact (h.be.setCell (p := ⟨V, 0, none⟩) (Nat.le_of_lt h.lo) _).setCell (p := ⟨V, 1, none⟩) (Nat.le_of_lt h.lo) _
end
theorem own_nilV {W : World} {base n c size : Nat} {e : TypeId} {A : Option Addr} {xs : List Value} (h : W.ownsRow base e size (.slice A n c) n xs) : A = none → n = 0 ∧ c = 0 := by
  obtain ⟨_, _, hv, _, _, h3⟩ := own_form h
  simp only [Value.slice.injEq] at hv
  obtain ⟨rfl, _, rfl⟩ := hv
  exact h3
theorem own_max' {W : World} {base n c size : Nat} {e : TypeId} {A : Option Addr} {xs : List Value} (h : W.ownsRow base e size (.slice A n c) n xs) : n ≤ maxLen := by
  obtain ⟨_, _, hv, h1, h2, _⟩ := own_form h
  omega
/-- A volume out of raw numbers that a call hands back. -/
def VolumePost (w : World) (e : Ending) (w' : World) : Prop :=
  ∃ A c B d us cs, e = .returned (.agg #[.slice A us.length c, .slice B 16 d]) ∧ RawVol us cs ∧ w'.ownsRow w.heap.size 42 3 (.slice A us.length c) us.length (flat Itm.cell 3 us) ∧ w'.ownsRow w.heap.size 3 1 (.slice B 16 d) 16 (flat intCell 1 cs) ∧ Below w.heap.size w w'

/-- the next volume, in its block -/
structure NextF (w wr : World) (P : Nat) (A B : Option Addr) (c d : Nat) (us : List Itm) (cs : List Int) (W : World) : Prop where
  p0 : W.cell? ⟨P, 0, none⟩ = some (.slice A us.length c)
  p1 : W.cell? ⟨P, 1, none⟩ = some (.slice B 16 d)
  good : RawVol us cs
  ou : W.ownsRow w.heap.size 42 3 (.slice A us.length c) us.length (flat Itm.cell 3 us)
  ov : W.ownsRow w.heap.size 3 1 (.slice B 16 d) 16 (flat intCell 1 cs)
  be : Below wr.heap.size wr W
theorem NextF.new {w wr w6 : World} {An Bn : Option Addr} {cn dn : Nat} {us : List Itm} {cs : List Int} (hg : RawVol us cs) (ou : w6.ownsRow w.heap.size 42 3 (.slice An us.length cn) us.length (flat Itm.cell 3 us)) (ov : w6.ownsRow w.heap.size 3 1 (.slice Bn 16 dn) 16 (flat intCell 1 cs)) (be : Below wr.heap.size wr w6) :
    NextF w wr w6.heap.size An Bn cn dn us cs (w6.alloc (.cells #[.slice An us.length cn, .slice Bn 16 dn] 30)) := by
  have ha := (Below.refl w6.heap.size w6).alloc (Nat.le_refl _) (.cells #[.slice An us.length cn, .slice Bn 16 dn] 30)
  exact ⟨by simp [go_sem], by simp [go_sem], hg, own_below ou ha, own_below ov ha, be.trans (ha.mono be.size)⟩
theorem NextF.store {w wr w6 : World} {P : Nat} {An Bn : Option Addr} {cn dn : Nat} {us : List Itm} {cs : List Int} {x y : Value} (hg : RawVol us cs) (ou : w6.ownsRow w.heap.size 42 3 (.slice An us.length cn) us.length (flat Itm.cell 3 us)) (ov : w6.ownsRow w.heap.size 3 1 (.slice Bn 16 dn) 16 (flat intCell 1 cs)) (be : Below wr.heap.size wr w6)
    (hP : wr.heap.size ≤ P) (ty : IsCells w6 P 30) (h0 : w6.cell? ⟨P, 0, none⟩ = some x) (h1 : w6.cell? ⟨P, 1, none⟩ = some y) :
    NextF w wr P An Bn cn dn us cs ((w6.setCell ⟨P, 0, none⟩ (.slice An us.length cn)).setCell ⟨P, 1, none⟩ (.slice Bn 16 dn)) := by
  refine ⟨?_, ?_, hg, own_set2 ou ty (by decide) _ _, own_set2 ov ty (by decide) _ _, (be.setCell (p := ⟨P, 0, none⟩) hP _).setCell (p := ⟨P, 1, none⟩) hP _⟩
  · simp [go_sem, h0]
  · simp [go_sem, h1]
/-- writes that are applied to the volume -/
theorem applyV {w wr w5 : World} {V b : Nat} {Au Bv Aw : Option Addr} {cu dv cw : Nat} {us : List Itm} {cs : List Int} {ws : List Wrt} (hf : VolF w V Au Bv cu dv us cs wr) (hg : RawVol us cs) (hb5 : Below wr.heap.size wr w5) (hww : RawW ws 16)
    (how : w5.ownsRow b 55 2 (.slice Aw ws.length cw) ws.length (flat Wrt.cell 2 ws)) (W : World) (hW : Below w5.heap.size w5 W) :
    Calls Tryd.prog 26 #[.agg #[.slice Au us.length cu, .slice Bv 16 dv], .slice Aw ws.length cw] W fun e w' => ∃ An cn Bn dn us' cs', e = .returned (.tuple #[.agg #[.slice An us'.length cn, .slice Bn 16 dn], .int .i64 0]) ∧ RawVol us' cs' ∧
      w'.ownsRow w.heap.size 42 3 (.slice An us'.length cn) us'.length (flat Itm.cell 3 us') ∧ w'.ownsRow w.heap.size 3 1 (.slice Bn 16 dn) 16 (flat intCell 1 cs') ∧ Below wr.heap.size wr w' ∧ Below W.heap.size W w' := by
  have hbw : Below wr.heap.size wr W := hb5.trans (hW.mono hb5.size)
  have hfW := hf.step hbw
  have hwW := own_below how hW
  have h := apply_any Au Bv Aw us.length cu 16 dv ws.length cw us cs ws W (Rep.of_own rfl hfW.ou (Nat.le_refl _)) (Rep.of_own hg.len.symm hfW.ov (Nat.le_refl _)) (Rep.of_own rfl hwW (Nat.le_refl _)) (own_nilV hfW.ou) (own_nilV hfW.ov) (own_max' hfW.ou) (by unfold maxLen; omega) (own_max' hwW) (vol_ok hg.good)
  obtain ⟨h0, hg'⟩ := hg.app hww
  have hl := hg'.len
  refine h.mono ?_
  rintro e w' ⟨An, cn, Bn, dn, rfl, hon, hom, hb6⟩
  rw [hl] at hom
  refine ⟨An, cn, Bn, dn, _, _, ?_, hg', own_mono hon hfW.be.size, own_mono hom hfW.be.size, hbw.trans (hb6.mono hbw.size), hb6⟩
  rw [hl, h0]

set_option maxRecDepth 100000 in
set_option maxHeartbeats 4000000 in
theorem volumeK_any (A : Option Addr) (n c : Nat) (ls : List Raw) (w : World) (h : Rep w w.heap.size 4 Raw.cell A n ls) (hn : n ≤ maxLen) (hc : n ≤ c) (hc64 : c ≤ maxLen) (hwf : ∀ a ∈ ls, a.wf) :
    Calls Tryd.prog 21 #[.slice A n c] w (VolumePost w) := by
  have H := Lib.hid h
  have HWF := Lib.hid hwf
  have hnew := new_any 16 (w.alloc (.cells #[.slice none 0 0, .slice none 0 0] 30))
  rw [show newBs 16 = List.replicate 16 (-1) from rfl, show newK 16 = 0 from rfl] at hnew
  have HNEW := Lib.hid hnew
  unfold maxLen at hn hc64
  clear h hwf hnew
  go_enter Tryd.func21, Tryd.ntmps21
  go_wp2_with fail
  refine HNEW.out.mono ?_
  rintro e w1 ⟨B1, d1, rfl, ho1, hb1⟩
  rw [show (List.replicate 16 (-1 : Int)).length = 16 from rfl] at ho1 ⊢
  have hal0 := (Below.refl w.heap.size w).alloc (Nat.le_refl _) (.cells #[.slice none 0 0, .slice none 0 0] 30)
  obtain ⟨w2, hw2⟩ : ∃ w2, w2 = w1.alloc (.cells #[.slice none 0 0, .slice B1 16 d1] 30) := ⟨_, rfl⟩
  have hal1 : Below w1.heap.size w1 w2 := by rw [hw2]; exact (Below.refl _ _).alloc (Nat.le_refl _) _
  have hlt : w.heap.size < w1.heap.size := by have := hb1.size; simp at this; omega
  have hz : w.heap.size < (w.alloc (.cells #[.slice none 0 0, .slice none 0 0] 30)).heap.size := by simp
  have hf0 : VolF w w1.heap.size none B1 0 d1 [] (List.replicate 16 (-1)) w2 := by
    refine ⟨?_, ?_, ?_, ?_, ?_, ?_, ?_, ?_, hlt, ?_, ?_, ?_, World.ownsRow_nil _ _ _ _, ?_, ?_⟩
    · rw [hw2]; simp [go_sem]
    · rw [hw2]; simp [go_sem]
    · rw [hw2]; simp [go_sem]
    · rw [hw2]; simp [go_sem]
    · rw [hal1.cell (p := ⟨w.heap.size, 0, none⟩) hlt, hb1.cell (p := ⟨w.heap.size, 0, none⟩) hz]; simp [go_sem]
    · rw [hal1.cell (p := ⟨w.heap.size, 1, none⟩) hlt, hb1.cell (p := ⟨w.heap.size, 1, none⟩) hz]; simp [go_sem]
    · rw [hal1.frozen (p := ⟨w.heap.size, 0, none⟩) hlt, hb1.frozen (p := ⟨w.heap.size, 0, none⟩) hz]; simp [go_sem]
    · rw [hal1.frozen (p := ⟨w.heap.size, 1, none⟩) hlt, hb1.frozen (p := ⟨w.heap.size, 1, none⟩) hz]; simp [go_sem]
    · rw [hw2]; simp
    · rw [hw2]; exact IsCells.new w1 _ _
    · exact ((IsCells.new w #[.slice none 0 0, .slice none 0 0] 30).below hb1).below hal1
    · exact own_mono (own_below ho1 hal1) (by simp)
    · exact (hal0.trans (hb1.mono hal0.size)).trans (hal1.mono (Nat.le_of_lt hlt))
  have HF0 := Lib.hid hf0
  have HW2 := Lib.hid hw2
  obtain ⟨V, hV⟩ : ∃ V, w1.heap.size = V := ⟨_, rfl⟩
  clear ho1 hb1 hal0 hal1 hlt hz hf0 hw2
  go_upto_region 2 with (fail)
  rw [← HW2.out]
  rw [hV] at HF0
  clear hV
  go_loopw [0] (fun v wr => ∃ (A' : Option Addr) (n' c' : Nat) (ls' : List Raw) (Au Bv : Option Addr) (cu dv : Nat) (us : List Itm) (cs : List Int), v = .slice A' n' c' ∧ n' ≤ c' ∧ c' ≤ c ∧ Hid (Rep w w.heap.size 4 Raw.cell A' n' ls' ∧ (∀ a ∈ ls', a.wf)) ∧ Hid (RawVol us cs) ∧ Hid (VolF w V Au Bv cu dv us cs wr)) (fun v _ => lenV v)
  case atStart => exact ⟨A, n, c, ls, none, B1, 0, d1, [], _, rfl, hc, Nat.le_refl _, Lib.hid ⟨H.out, HWF.out⟩, Lib.hid RawVol.zero, HF0⟩
  case round =>
    obtain ⟨A', n', c', ls', Au, Bv, cu, dv, us, cs, rfl, hnc, hcc, hrep, hgood, HF⟩ := hrel
    by_cases hpos : 0 < n'
    · obtain ⟨b, off, rfl, hb, _⟩ := hrep.out.1.2 hpos
      obtain ⟨q, hq⟩ : ∃ q, (if 5 ≤ n' then 5 else n') = q := ⟨_, rfl⟩
      have hqn : q ≤ n' := by rw [← hq]; split <;> omega
      have hq0 : 0 < q := by rw [← hq]; split <;> omega
      have hqm : min (5 : Int) (n' : Int) = (q : Int) := by rw [← hq]; split <;> omega
      have htk : (ls'.take q).length = q := by have := hrep.out.1.1; rw [List.length_take]; omega
      have hwr : ∀ W, Below wr.heap.size wr W → Calls Tryd.prog 30 #[.slice (some ⟨b, off, none⟩) q c', .int .i64 16] W fun e w' => ∃ Aw cw ws, e = .returned (.slice Aw ws.length cw) ∧ RawW ws 16 ∧ w'.ownsRow W.heap.size 55 2 (.slice Aw ws.length cw) ws.length (flat Wrt.cell 2 ws) ∧ Below wr.heap.size wr w' ∧ Below W.heap.size W w' := fun W hW => by
        have hbw := HF.out.be.trans (hW.mono HF.out.be.size)
        have hx : Calls Tryd.prog 30 #[.slice (some ⟨b, off, none⟩) q c', .int .i64 16] W (WritesPost W q 16) := writesK_any (some ⟨b, off, none⟩) q c' 16 (ls'.take q) W (((hrep.out.1.taken hqn).below hbw (Nat.le_refl _)).mono hbw.size) (by unfold maxLen; omega) (fun a ha => hrep.out.2 a (List.mem_of_mem_take ha)) (by omega) (by omega)
        refine hx.mono ?_
        rintro e w' ⟨Aw, cw, ws, rfl, _, _, hww, how, hb⟩
        exact ⟨Aw, cw, ws, rfl, hww, how, hW.trans (hb.mono hW.size), hb⟩
      have HWR := Lib.hid hwr
      have v0 := HF.out.v0
      have v1 := HF.out.v1
      have hkeep : ∀ W, Below wr.heap.size wr W → W.cell? ⟨V, 0, none⟩ = some (.slice Au us.length cu) ∧ W.cell? ⟨V, 1, none⟩ = some (.slice Bv 16 dv) := fun W hW => ⟨(HF.out.step hW).v0, (HF.out.step hW).v1⟩
      have HKEEP := Lib.hid hkeep
      have HQ := Lib.hid hq
      clear hq htk hwr hkeep hb
      have hqc : q ≤ c' := by omega
      go_upto_region 4 with (fail)
      go_cut [6, 7] from 12 to 32 (fun s6 s7 W => ∃ (P : Nat) (An Bn : Option Addr) (cn dn : Nat) (us' : List Itm) (cs' : List Int), s6 = .pointer (some ⟨P, 0, none⟩) ∧ s7 = .int .i64 0 ∧ NextF w wr P An Bn cn dn us' cs' W)
      case first =>
        go_region_held3 (fun W => W.cell? ⟨V, 0, none⟩ = some (.slice Au us.length cu) ∧ W.cell? ⟨V, 1, none⟩ = some (.slice Bv 16 dv)) ((refine HKEEP.out _ ?_; (repeat (first | with_reducible exact HB6.out | with_reducible exact HB5.out | with_reducible exact Below.refl _ _ | with_reducible refine Below.drew ?_ | (with_reducible refine Below.alloc ?_ ?_ _) | (with_reducible refine Below.setCell ?_ ?_ _) | with_reducible exact HB6.out.size | with_reducible exact HB5.out.size | with_reducible exact Nat.le_refl _ | (simp; done) | (refine Nat.le_trans HB5.out.size ?_; simp; done) | (refine Nat.le_trans HB6.out.size ?_; simp; done))))) (first | (go_at_call 30; (with_reducible refine (HWR.out _ ?hA).mono ?_); (case hA => first | exact (Below.refl _ _).drew | exact ((Below.refl _ _).alloc (Nat.le_refl _) _).drew); rintro e w5 ⟨Aw, cw, ws, rfl, hww, how, hbr5, hb5⟩; have HB5 := Lib.hid hbr5; have HAP := Lib.hid (applyV HF.out hgood.out hbr5 hww how); have s5 := hb5.size; have y0 := hb5.cell (p := ⟨wr.heap.size, 0, none⟩); have y1 := hb5.cell (p := ⟨wr.heap.size, 1, none⟩); have yf := fun j => hb5.frozen (p := ⟨wr.heap.size, j, none⟩); have T5 := Lib.hid (fun (P : Nat) (hh : IsCells _ P 30) => IsCells.below hh hb5); simp [go_sem] at s5 y0 y1 yf; (try have s6 := Nat.lt_of_succ_le s5); clear hww how hbr5 hb5) | (go_at_call 26; (with_reducible refine (HAP.out _ ?hA).mono ?_); (case hA => first | exact Below.refl _ _ | exact (Below.refl _ _).alloc (Nat.le_refl _) _); rintro e w6 ⟨An, cn, Bn, dn, us', cs', rfl, hg', hou, hov, hbr6, hb6⟩; have HB6 := Lib.hid hbr6; have HG' := Lib.hid hg'; have HOU := Lib.hid hou; have HOV := Lib.hid hov; have t5 := hb6.size; have z0 := hb6.cell (p := ⟨wr.heap.size, 0, none⟩); have z1 := hb6.cell (p := ⟨wr.heap.size, 1, none⟩); have zf := fun j => hb6.frozen (p := ⟨wr.heap.size, j, none⟩); have x0 := hb6.cell (p := ⟨w5.heap.size, 0, none⟩); have x1 := hb6.cell (p := ⟨w5.heap.size, 1, none⟩); have xf := fun j => hb6.frozen (p := ⟨w5.heap.size, j, none⟩); have T6 := Lib.hid (fun (P : Nat) (hh : IsCells _ P 30) => IsCells.below hh hb6); simp [go_sem] at t5 z0 z1 zf x0 x1 xf; clear hg' hou hov hbr6 hb6))
        all_goals
          go_wp2_with fail
          go_meet
          case rel => first
            | exact ⟨_, An, Bn, cn, dn, us', cs', rfl, rfl, NextF.new HG'.out HOU.out HOV.out HB6.out⟩
            | exact ⟨_, An, Bn, cn, dn, us', cs', rfl, rfl, NextF.store HG'.out HOU.out HOV.out HB6.out HB5.out.size (T6.out _ (by first | exact IsCells.new w5 _ _ | exact (IsCells.new w5 _ _).drew)) x0 x1⟩
            | exact ⟨_, An, Bn, cn, dn, us', cs', rfl, rfl, NextF.store HG'.out HOU.out HOV.out HB6.out (Nat.le_refl _) (T6.out _ (T5.out _ (by first | exact IsCells.new wr _ _ | exact (IsCells.new wr _ _).drew))) ((z0 s6).trans y0) ((z1 s6).trans y1)⟩
      case rest =>
        obtain ⟨P, An, Bn, cn, dn, us', cs', rfl, rfl, hnx⟩ := hcut
        rename_i W7
        have hbe := hnx.be
        obtain ⟨e0, e1⟩ := HKEEP.out _ hbe
        have ef0 := (HF.out.step hbe).f0
        have ef1 := (HF.out.step hbe).f1
        have p0 := hnx.p0
        have p1 := hnx.p1
        have HN := Lib.hid hnx
        have HVN := Lib.hid ((HF.out.step hbe).set hnx.ou hnx.ov)
        clear hnx hbe
        have hdrop : Rep w w.heap.size 4 Raw.cell (if c' = q then some ⟨b, off, none⟩ else some ⟨b, off + q * 4, none⟩) (n' - q) (ls'.drop q) := by
          split
          · exact ⟨by rw [List.length_drop, hrep.out.1.1], fun hp => absurd hp (by omega)⟩
          · exact hrep.out.1.dropped hqn
        have HD := Lib.hid (And.intro hdrop (fun a (ha : a ∈ ls'.drop q) => hrep.out.2 a (List.mem_of_mem_drop ha)))
        clear hdrop
        go_wp2_with fail
        refine ⟨⟨_, _, _, ls'.drop q, An, Bn, cn, dn, us', cs', rfl, by omega, by omega, HD, Lib.hid HN.out.good, HVN.out⟩, ?_⟩
        simp only [lenV, go_sem]
        omega
    · have r0 := HF.out.r0
      have r1 := HF.out.r1
      have g0 := HF.out.g0
      have g1 := HF.out.g1
      have v0 := HF.out.v0
      have v1 := HF.out.v1
      have hn0 : n' = 0 := by omega
      subst hn0
      go_wp2_with fail
      refine bodyPost_ret (v := .agg #[.slice Au us.length cu, .slice Bv 16 dv]) (by simp [results, Tryd.results21, go_sem, r0, r1]) rfl ?_
      have hF := HF.out
      have hT := own_set2 (x := .slice Au us.length cu) (y := .slice Bv 16 dv) hF.ou hF.tr (by decide)
      have hU := own_set2 (x := .slice Au us.length cu) (y := .slice Bv 16 dv) hF.ov hF.tr (by decide)
      exact ⟨Au, cu, Bv, dv, us, cs, rfl, hgood.out, hT, hU, (hF.be.setCell (p := ⟨w.heap.size, 0, none⟩) (Nat.le_refl _) _).setCell (p := ⟨w.heap.size, 1, none⟩) (Nat.le_refl _) _⟩
end Go.Proofs.YtphbebcbbfbgpacDoor

namespace Go.Proofs.YtphbebcbbfbgpacDoor
open Go Go.RowKit
set_option linter.unusedSimpArgs false
set_option linter.unusedVariables false

theorem cloneWrts (A : Option Addr) (n c : Nat) (ls : List Wrt) (w : World) (h : Rep w w.heap.size 2 Wrt.cell A n ls) (hnil : A = none → n = 0 ∧ c = 0) (hr : n * 24 ≤ 140737488355328) :
    Calls Tryd.prog 33 #[.slice A n c] w (OwnPost w 55 2 n (flat Wrt.cell 2 ls)) := by
  have qT : ∀ (w : World) (a : Option Addr) (n c n' c' : Nat), (binOp .eql 53 (.slice a n c) (.slice none n' c')).run Tryd.prog w = .ok (.bool a.isNone) w := fun w a n c n' c' => Lib.run_eql_slice_nil w _ _ a n c n' c' Tryd.underlying53
  obtain ⟨i0, hi, hz0, hz1, hz2⟩ := info_parts infoWrite
  cases A with
  | none =>
    obtain ⟨rfl, rfl⟩ := hnil rfl
    obtain rfl : ls = [] := List.eq_nil_of_length_eq_zero h.1.symm
    clear h
    go_enter Tryd.func33, Tryd.ntmps33
    go_wp2
    go_ret
    exact OwnPost.mk' (World.ownsRow_nil _ _ _ _) (Below.refl _ _)
  | some ad =>
    have hl : (flat Wrt.cell 2 ls).length = n * 2 := by rw [flat_length, h.1]
    have hc := h.flat_any
    have HL := Lib.hid hl
    have HC := Lib.hid hc
    have HI := Lib.hid hi
    have HZ0 := Lib.hid hz0
    have HZ1 := Lib.hid hz1
    have HZ2 := Lib.hid hz2
    have hon : (w.alloc (.cells #[] 55)).ownsRow w.heap.size 55 2 (.slice (some ⟨w.heap.size, 0, none⟩) 0 0) 0 [] := World.ownsRow_made w #[] 0 (Nat.le_refl _) (by unfold maxLen; omega) rfl
    have HO := Lib.hid hon
    have hlt : ∀ j u, (flat Wrt.cell 2 ls)[j]? = some u → (w.alloc (.cells #[] 55)).cell? (ad.add j) = some u := fun j u hu => by
      have := hc j u hu
      rw [World.cell?_alloc_lt _ _ _ (World.block_lt_of_cell? w _ this)]; exact this
    have HT := Lib.hid hlt
    clear hl hc hi hz0 hz1 hz2 h hnil hon hlt
    go_enter Tryd.func33, Tryd.ntmps33
    go_wp2_with (at_builtin; refine wpList_append_own _ rfl _ _ 53 rfl w.heap.size 55 i0 _ 2 24 Tryd.underlying53 HI.out HZ0.out HZ1.out HZ2.out rfl (by decide) _ _ _ rfl HO.out ad n c (flat Wrt.cell 2 ls) rfl HL.out HT.out (wrt_one ls) (by unfold maxLen; omega) (by omega) (by simp) ?_; intro v' w1 hown hgr _)
    go_ret
    exact OwnPost.mk' (by simpa using hown) (((Below.refl _ _).alloc (Nat.le_refl _) _).grown hgr (by simp) (by intro k hk; cases hk; exact Nat.le_refl _))

/-- what saltcellarkeep.Reads hands back, by name -/
theorem readsB (A B : Option Addr) (c d u : Nat) (us : List Itm) (cs : List Int) (rs : List ByteArray) (w : World) (h : Rep w w.heap.size 3 Itm.cell A u us) (h' : Rep w w.heap.size 1 intCell B 16 cs) (g : GoodVol us cs) (hr : readsR (us, cs) = rs) :
    Calls Tryd.prog 31 #[.agg #[.slice A u c, .slice B 16 d]] w fun e w' => ∃ A' c', e = .returned (.slice A' 16 c') ∧ w'.ownsRow w.heap.size 9 1 (.slice A' 16 c') 16 (flat strCell 1 rs) ∧ Below w.heap.size w w' := by
  have h1 := h.1
  have h2 := h'.1
  subst h1 hr
  have := reads_any A B c d (us, cs) w h (by rw [← h2]; exact h') g
  rw [← h2] at this
  refine this.mono ?_
  rintro e w' ⟨A', c', rfl, ho, hb, _⟩
  exact ⟨A', c', rfl, ho, hb⟩
/-- writes that a volume takes, by name -/
theorem applyB (Au Bv Aw : Option Addr) (u cu dv q cw u' : Nat) (us us' : List Itm) (cs cs' : List Int) (ws : List Wrt) (w : World) (h : Rep w w.heap.size 3 Itm.cell Au u us) (h' : Rep w w.heap.size 1 intCell Bv 16 cs) (h'' : Rep w w.heap.size 2 Wrt.cell Aw q ws)
    (nu : Au = none → u = 0 ∧ cu = 0) (nv : Bv = none → 16 = 0 ∧ dv = 0) (mu : u ≤ maxLen) (mq : q ≤ maxLen) (g : GoodVol us cs) (ha : appliedR us cs ws = (us', cs', 0)) (hu' : us'.length = u') (hc' : cs'.length = 16) :
    Calls Tryd.prog 26 #[.agg #[.slice Au u cu, .slice Bv 16 dv], .slice Aw q cw] w fun e w' => ∃ An cn Bn dn, e = .returned (.tuple #[.agg #[.slice An u' cn, .slice Bn 16 dn], .int .i64 0]) ∧
      w'.ownsRow w.heap.size 42 3 (.slice An u' cn) u' (flat Itm.cell 3 us') ∧ w'.ownsRow w.heap.size 3 1 (.slice Bn 16 dn) 16 (flat intCell 1 cs') ∧ Below w.heap.size w w' := by
  have hx := apply_any Au Bv Aw u cu 16 dv q cw us cs ws w h h' h'' nu nv mu (by unfold maxLen; omega) mq (vol_ok g)
  rw [ha] at hx
  refine hx.mono ?_
  rintro e w' ⟨An, cn, Bn, dn, rfl, ho, ho', hb⟩
  dsimp only at ho ho' ⊢
  rw [hu'] at ho ⊢
  rw [hc'] at ho' ⊢
  exact ⟨An, cn, Bn, dn, rfl, ho, ho', hb⟩

/-- writes of which so many have turned back -/
def backAt (rs : List ByteArray) (ws : List Wrt) (i : Nat) : List Wrt := (backW rs ws).take i ++ ws.drop i
section
variable {rs : List ByteArray} {ws : List Wrt}
theorem backAt_zero : backAt rs ws 0 = ws := by simp [backAt]
theorem backAt_all : backAt rs ws ws.length = backW rs ws := by
  rw [backAt, List.drop_length, List.append_nil, List.take_of_length_le (by rw [backW, List.length_map]; exact Nat.le_refl _)]
theorem backAt_len {i : Nat} (h : i ≤ ws.length) : (backAt rs ws i).length = ws.length := by
  rw [backAt, List.length_append, List.length_take, List.length_drop, backW, List.length_map]; omega
theorem backAt_get {i : Nat} (h : i < ws.length) (h' : i < (backAt rs ws i).length) : (backAt rs ws i)[i] = ws[i] := by
  have hl : ((backW rs ws).take i).length = i := by rw [List.length_take, backW, List.length_map]; omega
  have : (backAt rs ws i)[i]? = some ws[i] := by
    rw [backAt, List.getElem?_append_right (by omega), hl, Nat.sub_self, List.getElem?_drop, Nat.add_zero, List.getElem?_eq_getElem h]
  rw [List.getElem?_eq_getElem h'] at this
  exact Option.some.inj this
theorem backAt_set {i : Nat} (h : i < ws.length) : (backAt rs ws i).set i ⟨ws[i].block, rs.getD ws[i].block.toNat ⟨#[]⟩⟩ = backAt rs ws (i + 1) := by
  have hl : ((backW rs ws).take i).length = i := by rw [List.length_take, backW, List.length_map]; omega
  have hb : i < (backW rs ws).length := by rw [backW, List.length_map]; exact h
  have hg : (backW rs ws)[i] = ⟨ws[i].block, rs.getD ws[i].block.toNat ⟨#[]⟩⟩ := by simp [backW]
  rw [backAt, List.set_append_right _ _ (by omega), hl, Nat.sub_self, List.drop_eq_getElem_cons h, List.set_cons_zero, backAt, List.take_succ_eq_append_getElem hb, List.append_assoc, hg]
  rfl
end
end Go.Proofs.YtphbebcbbfbgpacDoor
