/- What a script hands back, held through what follows: answers, a volume's items and blocks, the volume in its block. (and what it wants) -/
import Derived.Test.YtphbebcbbfbgpacDoorData
import Derived.Test.YtphbebcbbfbgpacDoorEngRun
import Derived.Deep.RegionHeld3
import Derived.Deep.CutBlock
import Derived.Lib.SliceRun
import Derived.Test.YtphbebcbbfbgpacDoorOpenRaw
import Derived.Deep.QuietTactic
import Derived.Test.YtphbebcbbfbgpacDoorSame
import Derived.Test.YtphbebcbbfbgpacDoorPressRun
namespace Go.Proofs.YtphbebcbbfbgpacDoor
open Go Go.RowKit

theorem cut_world {G : World → Prop} {W : World} (S : World → Prop) (h : S W) (k : ∀ W', S W' → G W') : G W := k W h
theorem frozen_alloc_lt (w : World) (o : Obj) {a : Addr} (h : a.block < w.heap.size) : (w.alloc o).frozen? a = w.frozen? a := ((Below.refl w.heap.size w).alloc (Nat.le_refl _) o).frozen h
theorem Touch.allocC {R : Nat → Prop} {w W : World} (h : Touch R w W) (o : Obj) : Touch R w (W.alloc o) := h.trans (Touch.below ((Below.refl _ _).alloc (Nat.le_refl _) o))
theorem raws_at {w : World} {B n k : Nat} {A : Option Addr} {ls : List Raw} (h : Rep w B 4 Raw.cell A n ls) (hk : k < n) :
    ∃ b off, A = some ⟨b, off, none⟩ ∧ b < B ∧ w.cell? ⟨b, off + k * 4, none⟩ = some (.int .i64 (ls[k]'(by have := h.1; omega)).kind) ∧ w.cell? ⟨b, off + k * 4 + 1, none⟩ = some (.int .i64 (ls[k]'(by have := h.1; omega)).a) ∧
      w.cell? ⟨b, off + k * 4 + 2, none⟩ = some (.int .i64 (ls[k]'(by have := h.1; omega)).b) ∧ w.cell? ⟨b, off + k * 4 + 3, none⟩ = some (.int .i64 (ls[k]'(by have := h.1; omega)).c) := by
  obtain ⟨b, off, e, hb, hc⟩ := h.at_ hk
  exact ⟨b, off, e, hb, hc 0 (by omega), hc 1 (by omega), hc 2 (by omega), hc 3 (by omega)⟩
theorem acn_flat1 (x : Acn) : flat Acn.cell 4 [x] = [.int .i64 x.kind, .int .i64 x.block, .string x.data, .int .i64 x.keep] := by
  rw [flat_one]; rfl
theorem infoAct : (Tryd.prog.info? 36).map (fun i => (i.zero, i.size, i.bytes)) = some (some (.agg #[.int .i64 0, .int .i64 0, .string ByteArray.empty, .int .i64 0]), 4, 40) := by kernel_rfl
theorem ok_small (k : Nat) (h : k ≤ 1000000) : i64Ok (k : Int) := by
  have h1 : -9223372036854775808 ≤ (k : Int) ∧ (k : Int) ≤ 9223372036854775807 := by omega
  simpa [i64Ok, Lit.wf, IntKind.min, IntKind.max, IntKind.signed, IntKind.bits] using h1
theorem str_small (d : ByteArray) (h : d.size ≤ 1000) : strOk d := by
  unfold strOk; unfold maxLen; omega
/-- Acts that a call hands back. -/
def ActsPost (w : World) (most : Nat) (e : Ending) (w' : World) : Prop :=
  ∃ A c xs, e = .returned (.slice A xs.length c) ∧ xs.length ≤ most ∧ (∀ a ∈ xs, Acn.wf a) ∧ w'.ownsRow w.heap.size 36 4 (.slice A xs.length c) xs.length (flat Acn.cell 4 xs) ∧ Below w.heap.size w w'
/-- an act in its block, and the raw numbers that it is made of -/
structure ActB (w1 : World) (p : Nat) (W : World) : Prop where
  ex : ∃ a : Acn, a.wf ∧ W.cell? ⟨p, 0, none⟩ = some (.int .i64 a.kind) ∧ W.cell? ⟨p, 1, none⟩ = some (.int .i64 a.block) ∧ W.cell? ⟨p, 2, none⟩ = some (.string a.data) ∧ W.cell? ⟨p, 3, none⟩ = some (.int .i64 a.keep)
  be : Below w1.heap.size w1 W
structure ActA (w1 : World) (p : Nat) (a : Acn) (W : World) : Prop where
  c0 : W.cell? ⟨p, 0, none⟩ = some (.int .i64 a.kind)
  c1 : W.cell? ⟨p, 1, none⟩ = some (.int .i64 a.block)
  c2 : W.cell? ⟨p, 2, none⟩ = some (.string a.data)
  c3 : W.cell? ⟨p, 3, none⟩ = some (.int .i64 a.keep)
  fz : ∀ i, W.frozen? ⟨p, i, none⟩ = false
  be : Below w1.heap.size w1 W
  lo : w1.heap.size ≤ p
  hi : p < W.heap.size

theorem actB_set4 {w1 W : World} {p : Nat} {a : Acn} {k b kp : Int} {dd : ByteArray} (h : ActA w1 p a W) (hk : i64Ok k) (hb : i64Ok b) (hd : strOk dd) (hkp : i64Ok kp) :
    ActB w1 p ((((W.setCell ⟨p, 0, none⟩ (.int .i64 k)).setCell ⟨p, 1, none⟩ (.int .i64 b)).setCell ⟨p, 2, none⟩ (.string dd)).setCell ⟨p, 3, none⟩ (.int .i64 kp)) := by
  refine ⟨⟨⟨k, b, dd, kp⟩, ⟨hk, hb, hd, hkp⟩, ?_, ?_, ?_, ?_⟩, (((h.be.setCell (p := ⟨p, 0, none⟩) h.lo _).setCell (p := ⟨p, 1, none⟩) h.lo _).setCell (p := ⟨p, 2, none⟩) h.lo _).setCell (p := ⟨p, 3, none⟩) h.lo _⟩
  · simp [go_sem, h.c0]
  · simp [go_sem, h.c1]
  · simp [go_sem, h.c2]
  · simp [go_sem, h.c3]
theorem actB_set2 {w1 W : World} {p : Nat} {a : Acn} {k : Int} {dd : ByteArray} (h : ActA w1 p a W) (hw : a.wf) (hk : i64Ok k) (hd : strOk dd) :
    ActB w1 p ((W.setCell ⟨p, 0, none⟩ (.int .i64 k)).setCell ⟨p, 2, none⟩ (.string dd)) := by
  refine ⟨⟨⟨k, a.block, dd, a.keep⟩, ⟨hk, hw.2.1, hd, hw.2.2.2⟩, ?_, ?_, ?_, ?_⟩, (h.be.setCell (p := ⟨p, 0, none⟩) h.lo _).setCell (p := ⟨p, 2, none⟩) h.lo _⟩
  · simp [go_sem, h.c0]
  · simp [go_sem, h.c1]
  · simp [go_sem, h.c2]
  · simp [go_sem, h.c3]
theorem actB_same {w1 W : World} {p : Nat} {a : Acn} (h : ActA w1 p a W) (hw : a.wf) : ActB w1 p W := ⟨⟨a, hw, h.c0, h.c1, h.c2, h.c3⟩, h.be⟩

set_option maxRecDepth 100000 in
set_option maxHeartbeats 4000000 in
theorem acts_any (A : Option Addr) (n c most : Nat) (ls : List Raw) (w : World) (h : Rep w w.heap.size 4 Raw.cell A n ls) (hn : n ≤ maxLen) (hm : most ≤ 1000) (hwf : ∀ a ∈ ls, a.wf) :
    Calls Tryd.prog 14 #[.slice A n c, .int .i64 most] w (ActsPost w most) := by
  have H := Lib.hid h
  have HL := Lib.hid h.1
  have HWF := Lib.hid hwf
  unfold maxLen at hn
  obtain ⟨i0, ii, iz0, iz1, iz2⟩ := info_parts infoAct
  have II := Lib.hid ii
  have IZ0 := Lib.hid iz0
  have IZ1 := Lib.hid iz1
  have IZ2 := Lib.hid iz2
  clear h hwf ii iz0 iz1 iz2
  go_enter Tryd.func14, Tryd.ntmps14
  go_wp2
  go_loopw [5, 6] (fun v t wr => ∃ (i : Nat) (xs : List Acn), i ≤ n ∧ i ≤ most ∧ t = .int .i64 i ∧ xs.length = i ∧ Hid (∀ a ∈ xs, Acn.wf a) ∧ Below w.heap.size w wr ∧ wr.ownsRow w.heap.size 36 4 v i (flat Acn.cell 4 xs)) (fun _ t _ => n - (intOf t).toNat)
  case atStart => exact ⟨0, [], Nat.zero_le _, Nat.zero_le _, rfl, rfl, Lib.hid (by simp), Below.refl _ _, World.ownsRow_nil _ _ _ _⟩
  case round =>
    obtain ⟨i, xs, hi, him, rfl, hal, haw, hbel, hown⟩ := hrel
    have HB := Lib.hid hbel
    have HO := Lib.hid hown
    have HAL := Lib.hid hal
    by_cases hlt : i < n
    · by_cases hlt2 : i < most
      · obtain ⟨b, off, rfl, hb, a0, a1, a2, a3⟩ := raws_at (k := i) (H.out.below hbel (Nat.le_refl _)) hlt
        have hil : i < ls.length := by have := HL.out; omega
        have hwa := HWF.out _ (List.getElem_mem hil)
        obtain ⟨r, hr⟩ : ∃ r, ls[i]'hil = r := ⟨_, rfl⟩
        rw [hr] at a0 a1 a2 a3 hwa
        have hdat := fun W => data_any r W hwa
        have hds := dataR_size r
        obtain ⟨d, hd⟩ : ∃ d, dataR r = d := ⟨_, rfl⟩
        rw [hd] at hdat hds
        obtain ⟨kind, ra, rb, rc⟩ := r
        dsimp only at a0 a1 a2 a3 hdat
        have h24 : ∀ W, Calls Tryd.prog 15 #[.int .i64 kind, .int .i64 24] W fun e w' => e = .returned (.int .i64 (pickN kind 24)) ∧ W = w' := fun W => picked_any kind 24 W hwa.1 (by omega) (by omega)
        have h8 : ∀ W, Calls Tryd.prog 15 #[.int .i64 rc, .int .i64 8] W fun e w' => e = .returned (.int .i64 (pickN rc 8)) ∧ W = w' := fun W => picked_any rc 8 W hwa.2.2.2 (by omega) (by omega)
        have h80 : ∀ W, Calls Tryd.prog 15 #[.int .i64 ra, .int .i64 80] W fun e w' => e = .returned (.int .i64 (pickN ra 80)) ∧ W = w' := fun W => picked_any ra 80 W hwa.2.1 (by omega) (by omega)
        have h3 : ∀ W, Calls Tryd.prog 15 #[.int .i64 ra, .int .i64 3] W fun e w' => e = .returned (.int .i64 (pickN ra 3)) ∧ W = w' := fun W => picked_any ra 3 W hwa.2.1 (by omega) (by omega)
        have l24 := pickN_lt kind (m := 24) (by omega)
        have l8 := pickN_lt rc (m := 8) (by omega)
        have l80 := pickN_lt ra (m := 80) (by omega)
        have l3 := pickN_lt ra (m := 3) (by omega)
        obtain ⟨z, hz⟩ : ∃ z, pickN kind 24 = z := ⟨_, rfl⟩
        obtain ⟨bk, hbk⟩ : ∃ bk, pickN rc 8 = bk := ⟨_, rfl⟩
        obtain ⟨kp, hkp⟩ : ∃ kp, pickN ra 80 = kp := ⟨_, rfl⟩
        obtain ⟨q3, hq3⟩ : ∃ q3, pickN ra 3 = q3 := ⟨_, rfl⟩
        rw [hz] at h24 l24
        rw [hbk] at h8 l8
        rw [hkp] at h80 l80
        rw [hq3] at h3 l3
        have HDAT := Lib.hid hdat
        have H24 := Lib.hid h24
        have H8 := Lib.hid h8
        have H80 := Lib.hid h80
        have H3 := Lib.hid h3
        have HDS := Lib.hid hds
        have HWA := Lib.hid hwa
        clear hdat h24 h8 h80 h3 hds hwa hz hbk hkp hq3 hd hr hb hbel hown hal
        go_upto_region 6 with (fail)
        obtain ⟨w1, hw1⟩ : ∃ w1, w1 = wr.alloc (.cells #[.int .i64 kind, .int .i64 ra, .int .i64 rb, .int .i64 rc] 80) := ⟨_, rfl⟩
        have e0 : w1.cell? ⟨wr.heap.size, 0, none⟩ = some (.int .i64 kind) := by rw [hw1]; simp [go_sem]
        have e1 : w1.cell? ⟨wr.heap.size, 1, none⟩ = some (.int .i64 ra) := by rw [hw1]; simp [go_sem]
        have e2 : w1.cell? ⟨wr.heap.size, 2, none⟩ = some (.int .i64 rb) := by rw [hw1]; simp [go_sem]
        have e3 : w1.cell? ⟨wr.heap.size, 3, none⟩ = some (.int .i64 rc) := by rw [hw1]; simp [go_sem]
        have hsz : w1.heap.size = wr.heap.size + 1 := by rw [hw1]; simp
        have hb1 : Below wr.heap.size wr w1 := by rw [hw1]; exact (Below.refl _ _).alloc (Nat.le_refl _) _
        rw [← hw1]
        have hlt1 : wr.heap.size < w1.heap.size := by omega
        have hkeep : ∀ W, Below w1.heap.size w1 W → W.cell? ⟨wr.heap.size, 0, none⟩ = some (.int .i64 kind) ∧ W.cell? ⟨wr.heap.size, 1, none⟩ = some (.int .i64 ra) ∧ W.cell? ⟨wr.heap.size, 2, none⟩ = some (.int .i64 rb) ∧ W.cell? ⟨wr.heap.size, 3, none⟩ = some (.int .i64 rc) := fun W hW =>
          ⟨(hW.cell (p := ⟨wr.heap.size, 0, none⟩) hlt1).trans e0, (hW.cell (p := ⟨wr.heap.size, 1, none⟩) hlt1).trans e1, (hW.cell (p := ⟨wr.heap.size, 2, none⟩) hlt1).trans e2, (hW.cell (p := ⟨wr.heap.size, 3, none⟩) hlt1).trans e3⟩
        have HKEEP := Lib.hid hkeep
        have HB1 := Lib.hid hb1
        have HSZ := Lib.hid hsz
        clear hkeep hb1 hw1 hsz
        obtain ⟨q, hq⟩ : ∃ q, wr.heap.size = q := ⟨_, rfl⟩
        rw [hq] at e0 e1 e2 e3 hlt1 HKEEP ⊢
        have HQ := Lib.hid hq
        clear hq
        go_cut [8] from 10 to 79 (fun s8 W => ∃ p, s8 = .pointer (some ⟨p, 0, none⟩) ∧ ActA w1 p ⟨2, bk, d, 0⟩ W)
        case first =>
          go_region_held3 (fun W => W.cell? ⟨q, 0, none⟩ = some (.int .i64 kind) ∧ W.cell? ⟨q, 1, none⟩ = some (.int .i64 ra) ∧ W.cell? ⟨q, 2, none⟩ = some (.int .i64 rb) ∧ W.cell? ⟨q, 3, none⟩ = some (.int .i64 rc)) (((refine HKEEP.out _ ?_; (repeat (first | with_reducible exact HW5.out | with_reducible exact Below.refl _ _ | with_reducible refine Below.drew ?_ | with_reducible refine Below.alloc ?_ ?_ _ | with_reducible refine Below.setCell ?_ ?_ _ | with_reducible exact HW5.out.size | with_reducible exact Nat.le_refl _ | with_reducible exact Nat.le_add_right _ _ | (simp; done) | (refine Nat.le_trans HW5.out.size ?_; simp; done)))))) (first | (go_at_call 15; (with_reducible refine (H8.out _).mono ?_; rintro e w' ⟨rfl, rfl⟩)) | (go_at_call 41; with_reducible refine (HDAT.out _).mono ?_; rintro e w5 ⟨rfl, hb5⟩; have s5 := hb5.size; have hw5 : Below w1.heap.size w1 w5 := (Below.refl w1.heap.size w1).drew.trans (hb5.mono (by simp)); have y0 := hb5.cell (p := ⟨w1.heap.size, 0, none⟩); have y1 := hb5.cell (p := ⟨w1.heap.size, 1, none⟩); have y2 := hb5.cell (p := ⟨w1.heap.size, 2, none⟩); have y3 := hb5.cell (p := ⟨w1.heap.size, 3, none⟩); have yf := fun j => hb5.frozen (p := ⟨w1.heap.size, j, none⟩); simp [go_sem] at s5 y0 y1 y2 y3 yf; (try have s6 := Nat.lt_of_succ_le s5); have hal := fun (o : Obj) (a : Addr) (h : a.block < w5.heap.size) => World.cell?_alloc_lt w5 o a h; have hfz := fun (o : Obj) (a : Addr) (h : a.block < w5.heap.size) => frozen_alloc_lt w5 o h; have HW5 := Lib.hid hw5; clear hb5 hw5) | (go_at_call 41; with_reducible refine (HDAT.out _).mono ?_; rintro e w5 ⟨rfl, hb5⟩; have s5 := hb5.size; have hw5 : Below w1.heap.size w1 w5 := ((Below.refl w1.heap.size w1).alloc (Nat.le_refl _) _).drew.trans (hb5.mono (by simp)); have y0 := hb5.cell (p := ⟨w1.heap.size, 0, none⟩); have y1 := hb5.cell (p := ⟨w1.heap.size, 1, none⟩); have y2 := hb5.cell (p := ⟨w1.heap.size, 2, none⟩); have y3 := hb5.cell (p := ⟨w1.heap.size, 3, none⟩); have yf := fun j => hb5.frozen (p := ⟨w1.heap.size, j, none⟩); simp [go_sem] at s5 y0 y1 y2 y3 yf; (try have s6 := Nat.lt_of_succ_le s5); have hal := fun (o : Obj) (a : Addr) (h : a.block < w5.heap.size) => World.cell?_alloc_lt w5 o a h; have hfz := fun (o : Obj) (a : Addr) (h : a.block < w5.heap.size) => frozen_alloc_lt w5 o h; have HW5 := Lib.hid hw5; clear hb5 hw5))
          · go_wp2_with fail
            go_meet
            case rel =>
              refine ⟨w5.heap.size, rfl, ?_, ?_, ?_, ?_, ?_, ?_, ?_, ?_⟩
              · simp [go_sem]
              · simp [go_sem]
              · simp [go_sem]
              · simp [go_sem]
              · intro j; simp [go_sem]
              · repeat (first | with_reducible exact HW5.out | with_reducible exact Below.refl _ _ | with_reducible refine Below.drew ?_ | with_reducible refine Below.alloc ?_ ?_ _ | with_reducible refine Below.setCell ?_ ?_ _ | with_reducible exact HW5.out.size | with_reducible exact Nat.le_refl _ | with_reducible exact Nat.le_add_right _ _ | (simp; done) | (refine Nat.le_trans HW5.out.size ?_; simp; done))
              · exact HW5.out.size
              · simp
          · go_wp2_with fail
            go_meet
            case rel =>
              refine ⟨w1.heap.size, rfl, ?_, ?_, ?_, ?_, ?_, ?_, ?_, ?_⟩
              · simp [go_sem, y0]
              · simp [go_sem, y1]
              · simp [go_sem, y2]
              · simp [go_sem, y3]
              · intro j; simp [go_sem, yf]
              · repeat (first | with_reducible exact HW5.out | with_reducible exact Below.refl _ _ | with_reducible refine Below.drew ?_ | with_reducible refine Below.alloc ?_ ?_ _ | with_reducible refine Below.setCell ?_ ?_ _ | with_reducible exact HW5.out.size | with_reducible exact Nat.le_refl _ | with_reducible exact Nat.le_add_right _ _ | (simp; done) | (refine Nat.le_trans HW5.out.size ?_; simp; done))
              · exact Nat.le_refl _
              · simp; omega
          · go_wp2_with fail
            go_meet
            case rel =>
              refine ⟨w1.heap.size, rfl, ?_, ?_, ?_, ?_, ?_, ?_, ?_, ?_⟩
              · simp [go_sem, y0]
              · simp [go_sem, y1]
              · simp [go_sem, y2]
              · simp [go_sem, y3]
              · intro j; simp [go_sem, yf]
              · repeat (first | with_reducible exact HW5.out | with_reducible exact Below.refl _ _ | with_reducible refine Below.drew ?_ | with_reducible refine Below.alloc ?_ ?_ _ | with_reducible refine Below.setCell ?_ ?_ _ | with_reducible exact HW5.out.size | with_reducible exact Nat.le_refl _ | with_reducible exact Nat.le_add_right _ _ | (simp; done) | (refine Nat.le_trans HW5.out.size ?_; simp; done))
              · exact Nat.le_refl _
              · simp; omega
        case rest =>
          obtain ⟨p, rfl, hA⟩ := hcut
          obtain ⟨e0, e1, e2, e3⟩ := HKEEP.out _ hA.be
          go_upto_region 7 with (fail)
          go_upto_block 2 with (first | (go_at_call 15; (with_reducible refine (H24.out _).mono ?_; rintro e w' ⟨rfl, rfl⟩)) | (go_at_call 15; (with_reducible refine (H80.out _).mono ?_; rintro e w' ⟨rfl, rfl⟩)) | (go_at_call 15; (with_reducible refine (H3.out _).mono ?_; rintro e w' ⟨rfl, rfl⟩)))
          have HA := Lib.hid hA
          have c0 := hA.c0
          have c1 := hA.c1
          have c2 := hA.c2
          have c3 := hA.c3
          have f0 := hA.fz 0
          have f1 := hA.fz 1
          have f2 := hA.fz 2
          have f3 := hA.fz 3
          have hpq : q < p := Nat.lt_of_lt_of_le hlt1 hA.lo
          dsimp only at c0 c1 c2 c3
          have HWFA : Hid (Acn.wf ⟨2, bk, d, 0⟩) := Lib.hid ⟨rfl, ok_small bk (by omega), str_small d (Nat.le_trans HDS.out (by omega)), rfl⟩
          have HDS39 : d.size ≤ 1000 := Nat.le_trans HDS.out (by omega)
          clear hA
          go_cut [8, 9] from 10 to 79 (fun s8 s9 W => s8 = .pointer (some ⟨p, 0, none⟩) ∧ ActB w1 p W)
          case first =>
            go_wp2_with (first | (go_at_call 15; (with_reducible refine (H24.out _).mono ?_; rintro e w' ⟨rfl, rfl⟩)) | (go_at_call 15; (with_reducible refine (H80.out _).mono ?_; rintro e w' ⟨rfl, rfl⟩)) | (go_at_call 15; (with_reducible refine (H3.out _).mono ?_; rintro e w' ⟨rfl, rfl⟩)))
            all_goals
              go_meet
              case rel =>
                refine ⟨rfl, ?_⟩
                with_reducible first
                  | exact actB_same HA.out HWFA.out
                  | refine actB_set2 HA.out HWFA.out ?_ ?_
                  | refine actB_set4 HA.out ?_ ?_ ?_ ?_
                all_goals first
                  | exact str_small _ HDS39
                  | exact str_small ⟨#[]⟩ (by decide)
                  | exact ok_small kp (by omega)
                  | rfl
          case rest =>
            obtain ⟨rfl, hB⟩ := hcut
            rename_i W2
            have hbe := hB.be
            obtain ⟨⟨k', b', dd', kp'⟩, hwf', d0, d1, d2, d3⟩ := hB.ex
            dsimp only at d0 d1 d2 d3
            have HWF' := Lib.hid hwf'
            have HO2 := Lib.hid (own_below (own_below HO.out HB1.out) hbe)
            have hw2 := HB.out.trans ((HB1.out.mono HB.out.size).trans (hbe.mono (Nat.le_trans HB.out.size HB1.out.size)))
            have HWA2 := Lib.hid (hw2.alloc hw2.size (.cells #[.int .i64 k', .int .i64 b', .string dd', .int .i64 kp'] 36))
            clear hw2 hwf' hbe hB c0 c1 c2 c3 f0 f1 f2 f3
            go_wp2_with (at_builtin; refine wpList_append_own _ rfl (.tmp 76) (.tmp 78) 23 rfl w.heap.size 36 i0 _ 4 40 Tryd.underlying23 II.out IZ0.out IZ1.out IZ2.out rfl (by decide) _ _ _ rfl (HO2.out.alloc _) ⟨wc.heap.size, 0, none⟩ 1 1 [.int .i64 k', .int .i64 b', .string dd', .int .i64 kp'] rfl rfl (World.news_of_block (cs := #[.int .i64 k', .int .i64 b', .string dd', .int .i64 kp']) (t := 36) (fr := (0, 0)) (heap_alloc_new wc _)) (by simp [Value.oneCell']) (by unfold maxLen; omega) (by omega) HWA2.out.size ?_; intro v' W3 hown3 hgr3 _)
            have hb3 : Below w.heap.size w W3 := HWA2.out.grown hgr3 HWA2.out.size (fun k hk => (HO2.out.lt k hk).1)
            have HB3 := Lib.hid hb3
            have ho3 : W3.ownsRow w.heap.size 36 4 v' (i + 1) (flat Acn.cell 4 (xs ++ [(⟨k', b', dd', kp'⟩ : Acn)])) := by
              rw [flat_append, acn_flat1]; exact hown3
            have haw3 : Hid (∀ a ∈ xs ++ [(⟨k', b', dd', kp'⟩ : Acn)], Acn.wf a) := Lib.hid (fun a ha => by
              rcases List.mem_append.1 ha with ha | ha
              · exact haw.out a ha
              · rw [List.mem_singleton.1 ha]; exact HWF'.out)
            clear hgr3 hown3 hb3
            go_wp2
            go_roundw
            case rel =>
              exact ⟨i + 1, _, by omega, by omega, by go_num, by rw [List.length_append, HAL.out]; rfl, haw3, HB3.out, ho3⟩
            case measure => simp [intOf]; omega
      · obtain ⟨Ax, cx, rfl⟩ := own_slice2 hown
        clear hbel hown hal
        go_wp2
        go_ret
        have e := HAL.out
        subst e
        exact ⟨Ax, cx, xs, rfl, him, haw.out, HO.out, HB.out⟩
    · obtain ⟨Ax, cx, rfl⟩ := own_slice2 hown
      clear hbel hown hal
      go_wp2
      go_ret
      have e := HAL.out
      subst e
      exact ⟨Ax, cx, xs, rfl, him, haw.out, HO.out, HB.out⟩
end Go.Proofs.YtphbebcbbfbgpacDoor

namespace Go.Proofs.YtphbebcbbfbgpacDoor
open Go Go.RowKit

theorem acn_one (ls : List Acn) : ∀ u ∈ flat Acn.cell 4 ls, u.oneCell' = true := by
  intro u hu
  obtain ⟨j, hj⟩ := List.getElem?_of_mem hu
  obtain ⟨k, i, hk, hi, _, rfl⟩ := flat_split ls j u hj
  match i, hi with
  | 0, _ => rfl
  | 1, _ => rfl
  | 2, _ => rfl
  | 3, _ => rfl
theorem cloneActs (A : Option Addr) (n c : Nat) (ls : List Acn) (w : World) (h : Rep w w.heap.size 4 Acn.cell A n ls) (hnil : A = none → n = 0 ∧ c = 0) (hr : n * 40 ≤ 140737488355328) :
    Calls Tryd.prog 17 #[.slice A n c] w (OwnPost w 36 4 n (flat Acn.cell 4 ls)) := by
  have qT : ∀ (w : World) (a : Option Addr) (n c n' c' : Nat), (binOp .eql 23 (.slice a n c) (.slice none n' c')).run Tryd.prog w = .ok (.bool a.isNone) w := fun w a n c n' c' => Lib.run_eql_slice_nil w _ _ a n c n' c' Tryd.underlying23
  obtain ⟨i0, hi, hz0, hz1, hz2⟩ := info_parts infoAct
  cases A with
  | none =>
    obtain ⟨rfl, rfl⟩ := hnil rfl
    obtain rfl : ls = [] := List.eq_nil_of_length_eq_zero h.1.symm
    clear h
    go_enter Tryd.func17, Tryd.ntmps17
    go_wp2
    go_ret
    exact OwnPost.mk' (World.ownsRow_nil _ _ _ _) (Below.refl _ _)
  | some ad =>
    have hl : (flat Acn.cell 4 ls).length = n * 4 := by rw [flat_length, h.1]
    have hc := h.flat_any
    have HL := Lib.hid hl
    have HC := Lib.hid hc
    have HI := Lib.hid hi
    have HZ0 := Lib.hid hz0
    have HZ1 := Lib.hid hz1
    have HZ2 := Lib.hid hz2
    have hon : (w.alloc (.cells #[] 36)).ownsRow w.heap.size 36 4 (.slice (some ⟨w.heap.size, 0, none⟩) 0 0) 0 [] := World.ownsRow_made w #[] 0 (Nat.le_refl _) (by unfold maxLen; omega) rfl
    have HO := Lib.hid hon
    have hlt : ∀ j u, (flat Acn.cell 4 ls)[j]? = some u → (w.alloc (.cells #[] 36)).cell? (ad.add j) = some u := fun j u hu => by
      have := hc j u hu
      rw [World.cell?_alloc_lt _ _ _ (World.block_lt_of_cell? w _ this)]; exact this
    have HT := Lib.hid hlt
    clear hl hc hi hz0 hz1 hz2 h hnil hon hlt
    go_enter Tryd.func17, Tryd.ntmps17
    go_wp2_with (at_builtin; refine wpList_append_own _ rfl _ _ 23 rfl w.heap.size 36 i0 _ 4 40 Tryd.underlying23 HI.out HZ0.out HZ1.out HZ2.out rfl (by decide) _ _ _ rfl HO.out ad n c (flat Acn.cell 4 ls) rfl HL.out HT.out (acn_one ls) (by unfold maxLen; omega) (by omega) (by simp) ?_; intro v' w1 hown hgr _)
    go_ret
    exact OwnPost.mk' (by simpa using hown) (((Below.refl _ _).alloc (Nat.le_refl _) _).grown hgr (by simp) (by intro k hk; cases hk; exact Nat.le_refl _))

theorem Touch.setK {R : Nat → Prop} {w W : World} (h : Touch R w W) (p : Addr) (hp : R p.block) (u : Value) : Touch R w (W.setCell p u) := h.trans (Touch.setCell p hp u)
theorem Touch.drewK {R : Nat → Prop} {w W : World} (h : Touch R w W) : Touch R w W.drew := h.trans Touch.drew
theorem touch_two (W : World) (B : Nat) (u v : Value) : Touch (fun k => k = B) W ((W.setCell ⟨B, 0, none⟩ u).setCell ⟨B, 1, none⟩ v) := (Touch.setCell (R := fun k => k = B) ⟨B, 0, none⟩ rfl u).trans (Touch.setCell (R := fun k => k = B) ⟨B, 1, none⟩ rfl v)
theorem runEs_len : ∀ (l : List Acn) (E : Eng), (runEs E l).1.length = l.length
  | [], _ => rfl
  | a :: l, E => by rw [runEs, List.length_cons, List.length_cons, runEs_len l]
/-- what a script of eight blocks hands back -/
def TRunPost (w : World) (ls : List Acn) (e : Ending) (w' : World) : Prop := ScriptPost w ((runEs (eng0 8) ls).1, (runEs (eng0 8) ls).2.v, 0) e w'

set_option maxRecDepth 100000 in
set_option maxHeartbeats 4000000 in
theorem trun_any (A : Option Addr) (n c : Nat) (ls : List Acn) (w : World) (h : Rep w w.heap.size 4 Acn.cell A n ls) (hn : n ≤ 300) (hwf : ∀ a ∈ ls, a.wf) :
    Calls Tryd.prog 35 #[.slice A n c] w (TRunPost w ls) := by
  have hnl := h.1
  have hbe0 : Below w.heap.size w (w.alloc (.cells #[.slice none 0 0, .slice none 0 0] 30)) := (Below.refl _ _).alloc (Nat.le_refl _) _
  have hrun := run_engine A n c 8 ls (w.alloc (.cells #[.slice none 0 0, .slice none 0 0] 30)) ((h.below hbe0 (Nat.le_refl _)).mono hbe0.size) (by unfold maxLen; omega) hwf
  have hsc : scriptR 8 ls = ((runEs (eng0 8) ls).1, (runEs (eng0 8) ls).2.v, 0) := script_on (m := 8) (by omega) (by omega)
  rw [hsc] at hrun
  unfold TRunPost
  obtain ⟨V, hV⟩ : ∃ V, (runEs (eng0 8) ls).2.v = V := ⟨_, rfl⟩
  obtain ⟨xs, hx⟩ : ∃ xs, (runEs (eng0 8) ls).1 = xs := ⟨_, rfl⟩
  have hxl : xs.length = n := by rw [← hx, runEs_len, hnl]
  rw [hV, hx] at hrun ⊢
  have HRUN := Lib.hid hrun
  have HF0 : Hid (NBoxF w w.heap.size (.slice none 0 0) (w.alloc (.cells #[.slice none 0 0, .slice none 0 0] 30))) := Lib.hid (by
    refine ⟨?_, ?_, ?_, ?_, by simp⟩
    all_goals simp [go_sem])
  have HBE0 := Lib.hid hbe0
  have HXL := Lib.hid hxl
  have dn : ((n : Int) != n) = false := by simp
  clear hrun hsc hV hx hbe0 hnl hxl h hwf
  obtain ⟨us, cs⟩ := V
  go_enter Tryd.func35, Tryd.ntmps35
  go_wp2_with fail
  refine HRUN.out.mono ?_
  rintro e w1 ⟨Ax, cx, A1, c1, B1, d1, rfl, ho0, ho1, ho2, hb1⟩
  dsimp only at ho0 ho1 ho2 ⊢
  rw [HXL.out] at ho0 ⊢
  have hw1 : w.heap.size < w1.heap.size := by have := hb1.size; simp at this; omega
  have hf := HF0.out.step hb1 HF0.out.sz
  have r0 := hf.a0
  have r1 := hf.a1
  have z0 := hf.z0
  have z1 := hf.z1
  have HO0 := Lib.hid ho0
  have HO1 := Lib.hid ho1
  have HO2 := Lib.hid ho2
  have HB1 := Lib.hid (HBE0.out.trans (hb1.mono HBE0.out.size))
  clear ho0 ho1 ho2 hb1 hf
  go_wp2
  go_region
  all_goals
    go_wp2
    refine bodyPost_ret (v := .tuple #[.slice Ax n cx, .agg #[.slice A1 us.length c1, .slice B1 cs.length d1], .int .i64 0]) (by simp [results, Tryd.results35, go_sem, r0, r1, hw1]) rfl ?_
    refine ⟨Ax, cx, A1, c1, B1, d1, by simp only [HXL.out], ?_, ?_, ?_, ?_⟩
    · simp only [HXL.out]
      exact own_mono (own_touch HO0.out (R := fun k => k = w.heap.size) (by repeat (with_reducible first | exact touch_two _ _ _ _ | refine Touch.allocC ?_ _ | refine Touch.drewK ?_)) (fun g hg e => by have := (HO0.out.lt g hg).1; simp at this; omega)) (by simp)
    · exact own_mono (own_touch HO1.out (R := fun k => k = w.heap.size) (by repeat (with_reducible first | exact touch_two _ _ _ _ | refine Touch.allocC ?_ _ | refine Touch.drewK ?_)) (fun g hg e => by have := (HO1.out.lt g hg).1; simp at this; omega)) (by simp)
    · exact own_mono (own_touch HO2.out (R := fun k => k = w.heap.size) (by repeat (with_reducible first | exact touch_two _ _ _ _ | refine Touch.allocC ?_ _ | refine Touch.drewK ?_)) (fun g hg e => by have := (HO2.out.lt g hg).1; simp at this; omega)) (by simp)
    · have hb := (HB1.out.setCell (p := ⟨w.heap.size, 0, none⟩) (Nat.le_refl _) (.slice A1 us.length c1)).setCell (p := ⟨w.heap.size, 1, none⟩) (Nat.le_refl _) (.slice B1 cs.length d1)
      exact (hb.alloc hb.size _).drew

def strCell (x : ByteArray) (_ : Nat) : Value := .string x
noncomputable def readsR (V : Vol) : List ByteArray := (List.range V.2.length).map (fun i : Nat => (readR V.1 V.2 (i : Int)).1)
theorem readPost_form {ls : List Itm} {bs : List Int} {b : Int} {z : ByteArray} {e : Ending} (h : ReadPost ls bs b e) (hz : (readR ls bs b).1 = z) : ∃ k, e = .returned (.tuple #[.string z, .int .i64 k]) := ⟨_, by rw [h, hz]⟩
theorem infoStr : (Tryd.prog.info? 9).map (fun i => (i.zero, i.size, i.bytes)) = some (some (.string ByteArray.empty), 1, 16) := by kernel_rfl
theorem str_flat1 (x : ByteArray) : flat strCell 1 [x] = [.string x] := by rw [flat_one]; rfl

set_option maxRecDepth 100000 in
set_option maxHeartbeats 4000000 in
theorem reads_any (A B : Option Addr) (c d : Nat) (V : Vol) (w : World) (h : Rep w w.heap.size 3 Itm.cell A V.1.length V.1) (h' : Rep w w.heap.size 1 intCell B V.2.length V.2) (g : GoodVol V.1 V.2) :
    Calls Tryd.prog 31 #[.agg #[.slice A V.1.length c, .slice B V.2.length d]] w (OwnPost w 9 1 V.2.length (flat strCell 1 (readsR V))) := by
  have hn1 : V.1.length ≤ 24 := g.good.1
  have hn2 : V.2.length ≤ 32 := g.hi
  have hok : ∀ b ∈ V.2, i64Ok b := fun b hb => by
    have h1 := g.ge b hb
    have h2 : b < 24 := by
      by_cases h0 : 0 ≤ b
      · obtain ⟨x, hx, e⟩ := g.ids b hb h0
        have := (g.good.2.ok x hx).2.1
        omega
      · omega
    have h3 : -9223372036854775808 ≤ b ∧ b ≤ 9223372036854775807 := by omega
    simpa [i64Ok, Lit.wf, IntKind.min, IntKind.max, IntKind.signed, IntKind.bits] using h3
  have hrd : ∀ (i : Nat) W, Below w.heap.size w W → Calls Tryd.prog 27 #[.agg #[.slice A V.1.length c, .slice B V.2.length d], .int .i64 i] W fun e w' => ReadPost V.1 V.2 i e ∧ Below W.heap.size W w' := fun i W hb =>
    volRead_any A B V.1.length c V.2.length d i V.1 V.2 W ((h.below hb (Nat.le_refl _)).mono hb.size) ((h'.below hb (Nat.le_refl _)).mono hb.size) (by unfold maxLen; omega) (by unfold maxLen; omega) hok
  have HRD := Lib.hid hrd
  obtain ⟨m, hm⟩ : ∃ m, V.2.length = m := ⟨_, rfl⟩
  obtain ⟨rs, hrs⟩ : ∃ rs, readsR V = rs := ⟨_, rfl⟩
  have hlen : rs.length = m := by rw [← hrs, ← hm]; simp [readsR]
  have hat : ∀ (i : Nat) (hi : i < rs.length), (readR V.1 V.2 i).1 = rs[i] := fun i hi => by subst hrs; simp [readsR]
  obtain ⟨s0, hs0⟩ : ∃ s0, Value.slice A V.1.length c = s0 := ⟨_, rfl⟩
  rw [hrs]
  rw [hm] at hn2 HRD ⊢
  rw [hs0] at HRD ⊢
  have HAT := Lib.hid hat
  have HLEN := Lib.hid hlen
  obtain ⟨i0, ii, iz0, iz1, iz2⟩ := info_parts infoStr
  have II := Lib.hid ii
  have IZ0 := Lib.hid iz0
  have IZ1 := Lib.hid iz1
  have IZ2 := Lib.hid iz2
  clear hrd hok h h' g hrs hm hat hlen hs0 hn1 ii iz0 iz1 iz2
  obtain ⟨w0, hw0⟩ : ∃ w0, w0 = w.alloc (.cells #[s0, .slice B m d] 30) := ⟨_, rfl⟩
  have a0 : w0.cell? ⟨w.heap.size, 0, none⟩ = some s0 := by rw [hw0]; simp [go_sem]
  have a1 : w0.cell? ⟨w.heap.size, 1, none⟩ = some (.slice B m d) := by rw [hw0]; simp [go_sem]
  have hsz : w.heap.size < w0.heap.size := by rw [hw0]; simp
  have hb0 : Below w.heap.size w w0 := by rw [hw0]; exact (Below.refl _ _).alloc (Nat.le_refl _) _
  have A0 := Lib.hid a0
  have A1 := Lib.hid a1
  have HB0 := Lib.hid hb0
  have HW0 := Lib.hid hw0
  clear hw0 hb0
  go_enter Tryd.func31, Tryd.ntmps31
  go_upto_region 2 with (fail)
  rw [← HW0.out]
  go_wp2
  clear a0 a1
  go_loopw [3, 10] (fun v t wr => ∃ (i : Nat), i ≤ m ∧ t = .int .i64 i ∧ Below w0.heap.size w0 wr ∧ wr.ownsRow w0.heap.size 9 1 v i (flat strCell 1 (rs.take i))) (fun _ t _ => m - (intOf t).toNat)
  case atStart => exact ⟨0, Nat.zero_le _, rfl, Below.refl _ _, World.ownsRow_nil _ _ _ _⟩
  case round =>
    obtain ⟨i, hi, rfl, hbel, hown⟩ := hrel
    have HB := Lib.hid hbel
    have HO := Lib.hid hown
    have a0 := (hbel.cell (p := ⟨w.heap.size, 0, none⟩) hsz).trans A0.out
    have a1 := (hbel.cell (p := ⟨w.heap.size, 1, none⟩) hsz).trans A1.out
    by_cases hlt : i < m
    · have hil : i < rs.length := by have := HLEN.out; omega
      have hz := HAT.out i hil
      obtain ⟨z, hz2⟩ : ∃ z, rs[i]'hil = z := ⟨_, rfl⟩
      rw [hz2] at hz
      have hnext : rs.take (i + 1) = rs.take i ++ [z] := by rw [List.take_succ_eq_append_getElem hil, hz2]
      have HNX := Lib.hid hnext
      have HZ := Lib.hid hz
      have HBW : Hid (Below w.heap.size w wr) := Lib.hid (HB0.out.trans (hbel.mono HB0.out.size))
      clear hbel hown hz hz2 hnext
      go_wp2_with fail
      refine (HRD.out i _ HBW.out).mono ?_
      rintro e w1 ⟨hp, hb1⟩
      obtain ⟨k, rfl⟩ := readPost_form hp HZ.out
      have HO1 := Lib.hid (own_below HO.out hb1)
      have hb2 := HB.out.trans (hb1.mono HB.out.size)
      have HB2 := Lib.hid (hb2.alloc hb2.size (.cells #[.string z] 9))
      clear hp hb1 hb2 a0 a1
      go_wp2_with (at_builtin; refine wpList_append_own _ rfl (.tmp 19) (.tmp 21) 65 rfl w0.heap.size 9 i0 _ 1 16 Tryd.underlying65 II.out IZ0.out IZ1.out IZ2.out rfl (by decide) _ _ _ rfl (HO1.out.alloc _) ⟨w1.heap.size, 0, none⟩ 1 1 [.string z] rfl rfl (World.news_of_block (cs := #[.string z]) (t := 9) (fr := (0, 0)) (heap_alloc_new w1 _)) (by simp [Value.oneCell']) (by unfold maxLen; omega) (by omega) HB2.out.size ?_; intro v' W3 hown3 hgr3 _)
      have HB3 := Lib.hid (HB2.out.grown hgr3 HB2.out.size (fun k hk => (HO1.out.lt k hk).1))
      have ho3 : W3.ownsRow w0.heap.size 9 1 v' (i + 1) (flat strCell 1 (rs.take (i + 1))) := by
        rw [HNX.out, flat_append, str_flat1]; exact hown3
      clear hgr3 hown3
      go_wp2
      go_roundw
      case rel => exact ⟨i + 1, by omega, by go_num, HB3.out, ho3⟩
      case measure => simp [intOf]; omega
    · obtain rfl : i = m := by omega
      obtain ⟨Ax, cx, rfl⟩ := own_slice2 hown
      have hfull : rs.take i = rs := List.take_of_length_le (by have := HLEN.out; omega)
      rw [hfull] at hown
      have HOF := Lib.hid (own_mono hown (base' := w.heap.size) (Nat.le_of_lt hsz))
      clear hbel hown hfull a0 a1
      go_wp2
      go_ret
      exact OwnPost.mk' HOF.out (HB0.out.trans (HB.out.mono HB0.out.size))
end Go.Proofs.YtphbebcbbfbgpacDoor

namespace Go.Proofs.YtphbebcbbfbgpacDoor
open Go Go.RowKit

theorem dedupe_snoc (xs : List ByteArray) (x : ByteArray) : dedupe (xs ++ [x]) = if x ∈ dedupe xs then dedupe xs else dedupe xs ++ [x] := by unfold dedupe; rw [List.foldl_append]; rfl
theorem mem_dedupe {xs : List ByteArray} {x : ByteArray} : x ∈ dedupe xs ↔ x ∈ xs := by
  suffices h : ∀ x, x ∈ dedupe xs ↔ x ∈ xs from h x
  refine snocInd (C := fun xs => ∀ x, x ∈ dedupe xs ↔ x ∈ xs) xs (by simp [dedupe]) (fun l a ih x => ?_)
  rw [dedupe_snoc]
  by_cases h : a ∈ dedupe l
  · rw [if_pos h, List.mem_append, ih x]
    constructor
    · exact .inl
    · rintro (h1 | h1)
      · exact h1
      · rw [List.mem_singleton.1 h1]; exact (ih a).1 h
  · rw [if_neg h, List.mem_append, List.mem_append, ih x]
theorem nodup_dedupe (xs : List ByteArray) : (dedupe xs).Nodup := by
  refine snocInd (C := fun xs => (dedupe xs).Nodup) xs (by simp [dedupe]) (fun l a ih => ?_)
  rw [dedupe_snoc]
  split
  · exact ih
  · rename_i h
    rw [List.nodup_append]
    exact ⟨ih, by simp, fun x hx y hy => by rw [List.mem_singleton.1 hy]; rintro rfl; exact h hx⟩
theorem le_of_subset {l m : List ByteArray} (hl : l.Nodup) (h : ∀ x ∈ l, x ∈ m) : l.length ≤ m.length := by
  induction l generalizing m with
  | nil => simp
  | cons a l ih =>
    have ha : a ∈ m := h a (by simp)
    have hl' := List.nodup_cons.1 hl
    have : l.length ≤ (m.erase a).length := ih hl'.2 (fun x hx => by
      have hne : x ≠ a := fun e => hl'.1 (e ▸ hx)
      exact (List.mem_erase_of_ne hne).2 (h x (by simp [hx])))
    rw [List.length_erase_of_mem ha] at this
    have hp : 0 < m.length := List.length_pos_of_mem ha
    simp only [List.length_cons]
    omega
theorem readsR_len (V : Vol) : (readsR V).length = V.2.length := by simp [readsR]
/-- what a block of a valid volume reads as -/
theorem read_at {V : Vol} (g : GoodVol V.1 V.2) {i : Nat} (hi : i < V.2.length) :
    (readR V.1 V.2 (i : Int)).1 = if V.2[i] < 0 then ⟨#[]⟩ else (gotX V.1 V.2[i]).data := by
  rw [readR, if_pos (goodVB_yes g), if_pos ⟨by omega, by omega⟩, Int.toNat_natCast, getD_lt hi]
  split <;> rfl
theorem gotX_mem {ls : List Itm} (g : Good ls) {x : Itm} (hx : x ∈ ls) : gotX ls x.id = x := by
  obtain ⟨k, hk, rfl⟩ := List.getElem_of_mem hx
  have h1 := (got_some g hk rfl).1
  have h2 := (got_some g hk rfl).2
  rw [gotR, if_pos h1] at h2
  exact h2
theorem mem_reads {V : Vol} (g : GoodVol V.1 V.2) (s : ByteArray) (hs : s.size ≠ 0) : s ∈ readsR V ↔ ∃ x ∈ V.1, x.data = s := by
  unfold readsR
  rw [List.mem_map]
  constructor
  · rintro ⟨i, hi, rfl⟩
    rw [List.mem_range] at hi
    rw [read_at g hi] at hs ⊢
    by_cases h0 : V.2[i] < 0
    · rw [if_pos h0] at hs; exact absurd rfl hs
    · rw [if_neg h0]
      obtain ⟨x, hx, e⟩ := g.ids _ (List.getElem_mem hi) (by omega)
      exact ⟨x, hx, by rw [← e, gotX_mem g.good hx]⟩
  · rintro ⟨x, hx, rfl⟩
    have hr := g.refs x hx
    have hok := (g.good.2.ok x hx)
    unfold itmOk at hok
    have hc : 0 < V.2.count x.id := by omega
    obtain ⟨i, hi, e⟩ := List.getElem_of_mem (List.count_pos_iff.1 hc)
    refine ⟨i, List.mem_range.2 hi, ?_⟩
    rw [read_at g hi, if_neg (by omega), e, gotX_mem g.good hx]
theorem reads_size {V : Vol} (g : GoodVol V.1 V.2) : ∀ s ∈ readsR V, s.size ≤ 48 := by
  intro s hs
  by_cases h0 : s.size = 0
  · omega
  · obtain ⟨x, hx, rfl⟩ := (mem_reads g s h0).1 hs
    have hok := g.good.2.ok x hx
    unfold itmOk at hok
    omega
def nonE (ss : List ByteArray) : List ByteArray := ss.filter (fun s => decide (s.size ≠ 0))
theorem nonE_snoc (ss : List ByteArray) (s : ByteArray) : nonE (ss ++ [s]) = if s.size ≠ 0 then nonE ss ++ [s] else nonE ss := by
  have e : [s].filter (fun s => decide (s.size ≠ 0)) = if s.size ≠ 0 then [s] else [] := by simp only [List.filter_cons, List.filter_nil, decide_eq_true_eq]
  unfold nonE
  rw [List.filter_append, e]
  split
  · rfl
  · rw [List.append_nil]
/-- the number of different data of blocks is that of items -/
theorem items_count {V : Vol} (g : GoodVol V.1 V.2) : (dedupe (nonE (readsR V))).length = V.1.length := by
  have hnd : (V.1.map (·.data)).Nodup := by
    rw [List.nodup_iff_pairwise_ne, List.pairwise_map]
    exact g.good.2.datas
  have h1 := le_of_subset (nodup_dedupe (nonE (readsR V))) (m := V.1.map (·.data)) (fun s hs => by
    rw [mem_dedupe] at hs
    obtain ⟨h1, h2⟩ := List.mem_filter.1 hs
    obtain ⟨x, hx, e⟩ := (mem_reads g s (by simpa using h2)).1 h1
    exact List.mem_map.2 ⟨x, hx, e⟩)
  have h2 := le_of_subset hnd (m := dedupe (nonE (readsR V))) (fun s hs => by
    obtain ⟨x, hx, rfl⟩ := List.mem_map.1 hs
    rw [mem_dedupe]
    have h0 := g.data x hx
    exact List.mem_filter.2 ⟨(mem_reads g x.data h0).2 ⟨x, hx, rfl⟩, by simpa using h0⟩)
  rw [List.length_map] at h1 h2
  omega
theorem runEs_app : ∀ (l m : List Acn) (E : Eng), runEs E (l ++ m) = ((runEs E l).1 ++ (runEs (runEs E l).2 m).1, (runEs (runEs E l).2 m).2)
  | [], m, E => rfl
  | a :: l, m, E => by rw [List.cons_append, runEs, runEs, runEs_app l m]; rfl
theorem run_sim (l : List Acn) : ∃ H, Sim (runEs (eng0 8) l).2 H := ⟨_, (sim_run l (sim0 (n := 8) (by omega) (by omega))).2⟩
theorem run_good (l : List Acn) : GoodVol (runEs (eng0 8) l).2.v.1 (runEs (eng0 8) l).2.v.2 := by
  obtain ⟨H, h⟩ := run_sim l
  exact h.good.vol
end Go.Proofs.YtphbebcbbfbgpacDoor

namespace Go.Proofs.YtphbebcbbfbgpacDoor
open Go

/-- what a block's number reads as -/
def datOf (ls : List Itm) (id : Int) : ByteArray := if id < 0 then ⟨#[]⟩ else (gotX ls id).data
theorem datOf_mem {ls : List Itm} (g : Good ls) {x : Itm} (hx : x ∈ ls) : datOf ls x.id = x.data := by
  have h0 := (g.2.ok x hx).1
  rw [datOf, if_neg (by omega), gotX_mem g hx]
theorem read_dat {V : Vol} (g : GoodVol V.1 V.2) {i : Nat} (hi : i < V.2.length) : (readR V.1 V.2 (i : Int)).1 = datOf V.1 V.2[i] := read_at g hi
theorem readsR_eq {V : Vol} (g : GoodVol V.1 V.2) : readsR V = V.2.map (datOf V.1) := by
  refine List.ext_getElem (by simp [readsR]) (fun i h1 h2 => ?_)
  have hi : i < V.2.length := by simpa using h2
  simp only [readsR, List.getElem_map, List.getElem_range]
  exact read_dat g hi

/-- emptying a block -/
theorem dat_drop {ls : List Itm} {bs : List Int} {k : Nat} (g : GoodVol ls bs) (hk : k < bs.length) (h0 : 0 ≤ bs[k]) {i : Nat} (hi : i < bs.length) (hne : i ≠ k) : datOf (dropL ls bs[k]) bs[i] = datOf ls bs[i] := by
  have g' := drop_good g hk h0
  by_cases hn : bs[i] < 0
  · rw [datOf, datOf, if_pos hn, if_pos hn]
  · have hm : bs[i] ∈ bs.set k (-1) := by
      have : (bs.set k (-1))[i]'(by simpa using hi) = bs[i] := List.getElem_set_ne (by omega) _
      rw [← this]; exact List.getElem_mem _
    obtain ⟨y, hy, e⟩ := g'.ids _ hm (by omega)
    obtain ⟨⟨x, hx, rfl⟩, _⟩ := mem_dropL.1 hy
    have hxid : x.id = bs[i] := by rw [← e, upOne_id]
    have e1 : datOf (dropL ls bs[k]) bs[i] = x.data := by
      have := datOf_mem g'.good hy
      rw [e, upOne_data] at this
      exact this
    rw [e1, ← hxid, datOf_mem g.good hx]
theorem reads_dropStep {V : Vol} {w : Wrt} (g : GoodVol V.1 V.2) (h0 : 0 ≤ w.block) (h1 : w.block < V.2.length) : readsR (dropStep V w) = (readsR V).set w.block.toNat ⟨#[]⟩ := by
  have g' := dropStep_good g h0 h1
  have hk : w.block.toNat < V.2.length := by omega
  rw [readsR_eq g, readsR_eq g']
  refine List.ext_getElem (by simp [dropStep_len]) (fun i h2 h3 => ?_)
  have hi : i < V.2.length := by simpa using h3
  rw [List.getElem_map, List.getElem_set]
  by_cases hn : 0 ≤ V.2[w.block.toNat]
  · have e : dropStep V w = (dropL V.1 V.2[w.block.toNat], V.2.set w.block.toNat (-1)) := by
      unfold dropStep; rw [getD_lt hk, if_pos hn]
    simp only [e]
    by_cases hik : w.block.toNat = i
    · subst hik
      rw [if_pos rfl, List.getElem_set_self, datOf, if_pos (by omega)]
    · rw [if_neg hik, List.getElem_set_ne hik, List.getElem_map]
      exact dat_drop g hk hn hi (by omega)
  · have e : dropStep V w = V := by
      unfold dropStep; rw [getD_lt hk, if_neg hn]
    simp only [e]
    by_cases hik : w.block.toNat = i
    · subst hik
      rw [if_pos rfl, datOf, if_pos (by omega)]
    · rw [if_neg hik, List.getElem_map]

/-- keeping data -/
theorem kept_mem {ls us : List Itm} {d : ByteArray} {id : Int} (h : keptR ls d = (us, id, 0)) :
    (∃ y ∈ us, y.id = id ∧ y.data = d) ∧ (∀ x ∈ ls, ∃ y ∈ us, y.id = x.id ∧ y.data = x.data) ∧ (∀ y ∈ us, y.data = d ∨ ∃ x ∈ ls, x.data = y.data) := by
  cases hg : goodB ls with
  | false => rw [kept_bad d hg] at h; simp at h
  | true =>
  by_cases h48 : d.size ≤ 48
  · cases hix : ls.findIdx? (fun x => decide (x.data = d)) with
    | some k =>
      obtain ⟨hk, hp, _⟩ := List.findIdx?_eq_some_iff_getElem.1 hix
      have hp' : ls[k].data = d := by simpa using hp
      by_cases hr : ls[k].refs = 32
      · rw [kept_full hg h48 hix hk hr] at h; simp at h
      · rw [kept_up hg h48 hix hk hr] at h
        simp only [Prod.mk.injEq, and_true] at h
        obtain ⟨rfl, rfl⟩ := h
        refine ⟨⟨{ ls[k] with refs := ls[k].refs + 1 }, List.mem_set hk _, rfl, hp'⟩, fun x hx => ?_, fun y hy => ?_⟩
        · obtain ⟨j, hj, rfl⟩ := List.getElem_of_mem hx
          by_cases hjk : k = j
          · subst hjk; exact ⟨_, List.mem_set hk _, rfl, rfl⟩
          · refine ⟨ls[j], ?_, rfl, rfl⟩
            have : (ls.set k { ls[k] with refs := ls[k].refs + 1 })[j]'(by simpa using hj) = ls[j] := List.getElem_set_ne hjk _
            rw [← this]; exact List.getElem_mem _
        · rcases List.mem_or_eq_of_mem_set hy with hy | rfl
          · exact .inr ⟨y, hy, rfl⟩
          · exact .inl hp'
    | none =>
      by_cases hf : freeIx ls < 24
      · rw [kept_new hg h48 hix hf] at h
        simp only [Prod.mk.injEq, and_true] at h
        obtain ⟨rfl, rfl⟩ := h
        refine ⟨⟨⟨freeIx ls, d, 1⟩, by simp, rfl, rfl⟩, fun x hx => ⟨x, ?_, rfl, rfl⟩, fun y hy => ?_⟩
        · rw [← List.take_append_drop (freeIx ls) ls] at hx
          rcases List.mem_append.1 hx with hx | hx
          · simp [hx]
          · simp [hx]
        · rcases List.mem_append.1 hy with hy | hy
          · rcases List.mem_append.1 hy with hy | hy
            · exact .inr ⟨y, List.mem_of_mem_take hy, rfl⟩
            · rw [List.mem_singleton.1 hy]; exact .inl rfl
          · exact .inr ⟨y, List.mem_of_mem_drop hy, rfl⟩
      · rw [kept_no hg h48 hix hf] at h; simp at h
  · rw [kept_long hg h48] at h; simp at h
theorem reads_keep {ls us : List Itm} {bs : List Int} {k : Nat} {d : ByteArray} {id : Int} (g : GoodVol ls bs) (hk : k < bs.length) (h0 : bs[k] = -1) (hd : d.size ≠ 0) (he : keptR ls d = (us, id, 0)) :
    readsR (us, bs.set k id) = (readsR (ls, bs)).set k d := by
  have g' := keep_good g hk h0 hd he
  obtain ⟨⟨y, hy, e1, e2⟩, hall, _⟩ := kept_mem he
  rw [readsR_eq (V := (us, bs.set k id)) g', readsR_eq (V := (ls, bs)) g]
  refine List.ext_getElem (by simp) (fun i h2 h3 => ?_)
  have hi : i < bs.length := by simpa using h3
  rw [List.getElem_map, List.getElem_set]
  dsimp only
  by_cases hik : k = i
  · subst hik
    rw [if_pos rfl, List.getElem_set_self, ← e1, datOf_mem g'.good hy, e2]
  · rw [if_neg hik, List.getElem_set_ne hik, List.getElem_map]
    by_cases hn : bs[i] < 0
    · rw [datOf, datOf, if_pos hn, if_pos hn]
    · obtain ⟨x, hx, e⟩ := g.ids _ (List.getElem_mem hi) (by omega)
      obtain ⟨z, hz, z1, z2⟩ := hall x hx
      rw [← e, datOf_mem g.good hx, ← z1, datOf_mem g'.good hz, z2]

/-- blocks written over -/
def putAll (ss : List ByteArray) (ws : List Wrt) : List ByteArray := ws.foldl (fun ss w => ss.set w.block.toNat w.data) ss
def clearAll (ss : List ByteArray) (ws : List Wrt) : List ByteArray := ws.foldl (fun ss w => ss.set w.block.toNat ⟨#[]⟩) ss
theorem size_zero {d : ByteArray} (h : d.size = 0) : d = ⟨#[]⟩ := by
  apply ByteArray.ext
  exact Array.eq_empty_of_size_eq_zero h
theorem reads_dropAll : ∀ {ws : List Wrt} {V : Vol}, GoodVol V.1 V.2 → (∀ w ∈ ws, 0 ≤ w.block ∧ w.block < V.2.length) → readsR (ws.foldl dropStep V) = clearAll (readsR V) ws
  | [], _, _, _ => rfl
  | w :: r, V, g, h => by
    have hw := h w (by simp)
    rw [List.foldl_cons, reads_dropAll (dropStep_good g hw.1 hw.2) (fun x hx => by rw [dropStep_len]; exact h x (by simp [hx])), reads_dropStep g hw.1 hw.2]
    rfl
theorem reads_keepAll : ∀ {ws : List Wrt} {ls us : List Itm} {bs cs : List Int}, GoodVol ls bs → (∀ w ∈ ws, 0 ≤ w.block ∧ w.block < bs.length) → ws.Pairwise (fun x y => x.block < y.block) →
    (∀ w ∈ ws, bs[w.block.toNat]? = some (-1)) → keepAll ls bs ws = (us, cs, 0) → readsR (us, cs) = putAll (readsR (ls, bs)) ws
  | [], ls, us, bs, cs, g, _, _, _, h => by
    simp only [keepAll, Prod.mk.injEq, and_true] at h
    obtain ⟨rfl, rfl⟩ := h
    rfl
  | w :: r, ls, us, bs, cs, g, hr, hp, he, h => by
    have hw := hr w (by simp)
    have hk : w.block.toNat < bs.length := by omega
    obtain ⟨hp1, hp2⟩ := List.pairwise_cons.1 hp
    have hm1 := he w (by simp)
    rw [List.getElem?_eq_getElem hk] at hm1
    have hm2 : bs[w.block.toNat] = -1 := by simpa using hm1
    rw [keepAll] at h
    have hput : putAll (readsR (ls, bs)) (w :: r) = putAll ((readsR (ls, bs)).set w.block.toNat w.data) r := rfl
    rw [hput]
    by_cases hd : w.data.size = 0
    · rw [if_pos hd] at h
      rw [reads_keepAll g (fun x hx => hr x (by simp [hx])) hp2 (fun x hx => he x (by simp [hx])) h]
      congr 1
      refine List.ext_getElem (by simp) (fun i h2 h3 => ?_)
      rw [List.getElem_set]
      split
      · rename_i hik
        subst hik
        rw [size_zero hd]
        have : ∀ (ss : List ByteArray) (e : ss = bs.map (datOf ls)) (hi : w.block.toNat < ss.length), ss[w.block.toNat]'hi = ⟨#[]⟩ := fun ss e hi => by
          subst e
          rw [List.getElem_map, hm2, datOf, if_pos (by omega)]
        exact this _ (readsR_eq (V := (ls, bs)) g) h2
      · rfl
    · rw [if_neg hd] at h
      by_cases h0 : (keptR ls w.data).2.2 = 0
      · rw [if_pos h0] at h
        have hke : keptR ls w.data = ((keptR ls w.data).1, (keptR ls w.data).2.1, 0) := by rw [← h0]
        have g2 := keep_good (us := (keptR ls w.data).1) (id := (keptR ls w.data).2.1) g hk hm2 hd hke
        rw [reads_keepAll g2 (fun x hx => by rw [List.length_set]; exact hr x (by simp [hx])) hp2 (fun x hx => by
          have h1 := hp1 x hx
          have h2 := hr x (by simp [hx])
          rw [List.getElem?_set_ne (by omega)]
          exact he x (by simp [hx])) h, reads_keep g hk hm2 hd hke]
      · rw [if_neg h0] at h
        simp only [Prod.mk.injEq] at h
        exact absurd h.2.2 h0
theorem putAll_len : ∀ (ws : List Wrt) (ss : List ByteArray), (putAll ss ws).length = ss.length
  | [], _ => rfl
  | w :: r, ss => by rw [putAll, List.foldl_cons]; exact (putAll_len r _).trans (by simp)
theorem putAll_set {w : Wrt} {d : ByteArray} : ∀ (ws : List Wrt) (ss : List ByteArray), (∀ x ∈ ws, 0 ≤ x.block) → 0 ≤ w.block → (∀ x ∈ ws, x.block ≠ w.block) → putAll (ss.set w.block.toNat d) ws = (putAll ss ws).set w.block.toNat d
  | [], _, _, _, _ => rfl
  | x :: r, ss, h0, hw, h => by
    have h1 := h x (by simp)
    have h2 := h0 x (by simp)
    have e : ((ss.set w.block.toNat d).set x.block.toNat x.data) = ((ss.set x.block.toNat x.data).set w.block.toNat d) := List.set_comm _ _ (by omega)
    rw [putAll, List.foldl_cons, e]
    exact putAll_set r _ (fun y hy => h0 y (by simp [hy])) hw (fun y hy => h y (by simp [hy]))
theorem putAll_clear : ∀ (ws : List Wrt) (ss : List ByteArray), (∀ x ∈ ws, 0 ≤ x.block) → AscW ws → putAll (clearAll ss ws) ws = putAll ss ws
  | [], _, _, _ => rfl
  | w :: r, ss, h0, hp => by
    obtain ⟨hp1, hp2⟩ := List.pairwise_cons.1 hp
    have hne : ∀ x ∈ r, x.block ≠ w.block := fun x hx => by have := hp1 x hx; omega
    have hr0 : ∀ x ∈ r, 0 ≤ x.block := fun x hx => h0 x (by simp [hx])
    have e1 : putAll (clearAll ss (w :: r)) (w :: r) = putAll ((clearAll (ss.set w.block.toNat ⟨#[]⟩) r).set w.block.toNat w.data) r := rfl
    have e2 : putAll ss (w :: r) = putAll (ss.set w.block.toNat w.data) r := rfl
    rw [e1, e2, putAll_set r _ hr0 (h0 w (by simp)) hne, putAll_set r _ hr0 (h0 w (by simp)) hne, putAll_clear r _ hr0 hp2, putAll_set r _ hr0 (h0 w (by simp)) hne, List.set_set]
/-- what is read of a volume behind writes -/
theorem reads_applied {V : Vol} {us : List Itm} {cs : List Int} {ws : List Wrt} (h : appliedR V.1 V.2 ws = (us, cs, 0)) : readsR (us, cs) = putAll (readsR V) ws := by
  unfold appliedR at h
  split at h
  · rename_i hg
    have g : GoodVol V.1 V.2 := by simpa [goodVB] using hg
    split at h
    · rename_i hw
      have gw := writesK_zero.1 hw
      have hrng : ∀ w ∈ ws, 0 ≤ w.block ∧ w.block < V.2.length := fun w hw => ⟨gw.lo w hw, gw.hi w hw⟩
      have h1 := dropAll_good (s := V) g hrng
      rw [reads_keepAll h1.1 (fun w hw => by have := hrng w hw; rw [show (ws.foldl dropStep (V.1, V.2)).2.length = V.2.length from h1.2]; exact this) gw.asc (fun w hw => by
        have hw' := hrng w hw
        have hk : w.block.toNat < V.2.length := by omega
        have := dropAll_at (s := V) hk g.ge hrng
        rw [if_pos (by rw [show ((w.block.toNat : Nat) : Int) = w.block from by omega]; exact List.mem_map.2 ⟨w, hw, rfl⟩)] at this
        exact this) h]
      have h2 := reads_dropAll (V := V) g hrng
      rw [show readsR ((ws.foldl dropStep (V.1, V.2)).1, (ws.foldl dropStep (V.1, V.2)).2) = readsR (ws.foldl dropStep V) from rfl, h2, putAll_clear ws _ gw.lo gw.asc]
    · rename_i hw
      simp only [Prod.mk.injEq] at h
      exact absurd h.2.2 hw
  · simp at h

/-- a valid volume has no more items than blocks -/
theorem items_le {ls : List Itm} {bs : List Int} (g : GoodVol ls bs) : ls.length ≤ bs.length ∧ ∀ x ∈ ls, x.refs ≤ bs.length := by
  have h1 := length_le_of_subset (ids_nodup g.good.2) (m := bs) (fun y hy => by
    obtain ⟨x, hx, rfl⟩ := List.mem_map.1 hy
    have hr := g.refs x hx
    have hok := (g.good.2.ok x hx).2.2.2.1
    exact List.count_pos_iff.1 (by omega))
  refine ⟨by simpa using h1, fun x hx => ?_⟩
  have hr := g.refs x hx
  have := List.count_le_length (a := x.id) (l := bs)
  omega
theorem kept_takes {ls : List Itm} {bs : List Int} (g : GoodVol ls bs) (hl : bs.length ≤ 23) {d : ByteArray} (hd : d.size ≤ 48) : (keptR ls d).2.2 = 0 := by
  obtain ⟨hi, hrf⟩ := items_le g
  have hg := goodB_true g.good
  cases hix : ls.findIdx? (fun x => decide (x.data = d)) with
  | some k =>
    obtain ⟨hk, _, _⟩ := List.findIdx?_eq_some_iff_getElem.1 hix
    rw [kept_up hg hd hix hk (by have := hrf _ (List.getElem_mem hk); omega)]
  | none =>
    have := (freeIx_spec ls).1
    rw [kept_new hg hd hix (by omega)]
theorem keepAll_takes : ∀ {ws : List Wrt} {ls : List Itm} {bs : List Int}, GoodVol ls bs → bs.length ≤ 23 → (∀ w ∈ ws, 0 ≤ w.block ∧ w.block < bs.length) → ws.Pairwise (fun x y => x.block < y.block) → (∀ w ∈ ws, w.data.size ≤ 48) →
    (∀ w ∈ ws, bs[w.block.toNat]? = some (-1)) → (keepAll ls bs ws).2.2 = 0
  | [], _, _, _, _, _, _, _, _ => rfl
  | w :: r, ls, bs, g, hl, hr, hp, hs, he => by
    have hw := hr w (by simp)
    have hk : w.block.toNat < bs.length := by omega
    obtain ⟨hp1, hp2⟩ := List.pairwise_cons.1 hp
    rw [keepAll]
    by_cases hd : w.data.size = 0
    · rw [if_pos hd]
      exact keepAll_takes g hl (fun x hx => hr x (by simp [hx])) hp2 (fun x hx => hs x (by simp [hx])) (fun x hx => he x (by simp [hx]))
    · rw [if_neg hd]
      have h0 := kept_takes g hl (hs w (by simp))
      rw [if_pos h0]
      have hm1 := he w (by simp)
      rw [List.getElem?_eq_getElem hk] at hm1
      have g2 := keep_good (us := (keptR ls w.data).1) (id := (keptR ls w.data).2.1) g hk (by simpa using hm1) hd (by rw [← h0])
      exact keepAll_takes g2 (by rw [List.length_set]; exact hl) (fun x hx => by rw [List.length_set]; exact hr x (by simp [hx])) hp2 (fun x hx => hs x (by simp [hx])) (fun x hx => by
          have h1 := hp1 x hx
          have h2 := hr x (by simp [hx])
          rw [List.getElem?_set_ne (by omega)]
          exact he x (by simp [hx]))
/-- a volume of few blocks takes all writes that may be -/
theorem applied_takes {V : Vol} {ws : List Wrt} (g : GoodVol V.1 V.2) (hl : V.2.length ≤ 23) (gw : GoodW ws V.2.length) : (appliedR V.1 V.2 ws).2.2 = 0 := by
  have hrng : ∀ w ∈ ws, 0 ≤ w.block ∧ w.block < V.2.length := fun w hw => ⟨gw.lo w hw, gw.hi w hw⟩
  have h1 := dropAll_good (s := V) g hrng
  rw [applied_on (goodVB_yes g) (writesK_zero.2 gw)]
  refine keepAll_takes h1.1 (by rw [show (ws.foldl dropStep (V.1, V.2)).2.length = V.2.length from h1.2]; exact hl) (fun w hw => by rw [show (ws.foldl dropStep (V.1, V.2)).2.length = V.2.length from h1.2]; exact hrng w hw) gw.asc gw.size (fun w hw => ?_)
  have hw' := hrng w hw
  have hk : w.block.toNat < V.2.length := by omega
  have := dropAll_at (s := V) hk g.ge hrng
  rw [if_pos (by rw [show ((w.block.toNat : Nat) : Int) = w.block from by omega]; exact List.mem_map.2 ⟨w, hw, rfl⟩)] at this
  exact this
end Go.Proofs.YtphbebcbbfbgpacDoor

namespace Go.Proofs.YtphbebcbbfbgpacDoor
open Go

/-- never there -/
def neverB : ByteArray := ⟨#[110, 101, 118, 101, 114, 32, 116, 104, 101, 114, 101]⟩
theorem app_head (a b : ByteArray) (h : a.size ≠ 0) : (a ++ b).data.toList.head? = a.data.toList.head? := by
  rw [ByteArray.data_append, Array.toList_append, List.head?_append]
  cases hl : a.data.toList with
  | nil => exact absurd (by rw [size_list, hl]; rfl) h
  | cons x r => rfl
theorem dataR_never (r : Raw) : dataR r ≠ neverB := by
  intro e
  have e2 := congrArg (fun b => b.data.toList.head?) e
  have en : neverB.data.toList.head? = some 110 := rfl
  simp only [en] at e2
  unfold dataR at e2
  split at e2
  · simp at e2
  · split at e2
    · unfold repB at e2
      cases hn : pickN r.b 40 with
      | zero => rw [hn] at e2; simp [Lib.repeatL] at e2
      | succ n => rw [hn] at e2; simp [Lib.repeatL] at e2
    · split at e2
      · rw [ByteArray.append_assoc, app_head _ _ (by decide)] at e2
        simp at e2
      · split at e2
        · rw [app_head _ _ (by decide)] at e2
          simp at e2
        · rw [app_head _ _ (by decide)] at e2
          simp at e2
/-- items' data behind writes come of items or of writes -/
theorem dropStep_datas (V : Vol) (w : Wrt) : ∀ y ∈ (dropStep V w).1, ∃ x ∈ V.1, x.data = y.data := by
  intro y hy
  unfold dropStep at hy
  split at hy
  · obtain ⟨⟨x, hx, rfl⟩, _⟩ := mem_dropL.1 hy
    exact ⟨x, hx, (upOne_data _ _ _).symm⟩
  · exact ⟨y, hy, rfl⟩
theorem dropAll_datas : ∀ (ws : List Wrt) (V : Vol), ∀ y ∈ (ws.foldl dropStep V).1, ∃ x ∈ V.1, x.data = y.data
  | [], V, y, hy => ⟨y, hy, rfl⟩
  | w :: r, V, y, hy => by
    rw [List.foldl_cons] at hy
    obtain ⟨z, hz, e⟩ := dropAll_datas r _ y hy
    obtain ⟨x, hx, e2⟩ := dropStep_datas V w z hz
    exact ⟨x, hx, by rw [e2, e]⟩
theorem keepAll_datas : ∀ {ws : List Wrt} {ls us : List Itm} {bs cs : List Int}, keepAll ls bs ws = (us, cs, 0) → ∀ y ∈ us, (∃ x ∈ ls, x.data = y.data) ∨ ∃ w ∈ ws, w.data = y.data
  | [], ls, us, bs, cs, h, y, hy => by
    simp only [keepAll, Prod.mk.injEq, and_true] at h
    obtain ⟨rfl, rfl⟩ := h
    exact .inl ⟨y, hy, rfl⟩
  | w :: r, ls, us, bs, cs, h, y, hy => by
    rw [keepAll] at h
    by_cases hd : w.data.size = 0
    · rw [if_pos hd] at h
      rcases keepAll_datas h y hy with h1 | ⟨x, hx, e⟩
      · exact .inl h1
      · exact .inr ⟨x, by simp [hx], e⟩
    · rw [if_neg hd] at h
      by_cases h0 : (keptR ls w.data).2.2 = 0
      · rw [if_pos h0] at h
        have hke : keptR ls w.data = ((keptR ls w.data).1, (keptR ls w.data).2.1, 0) := by rw [← h0]
        rcases keepAll_datas h y hy with ⟨z, hz, e⟩ | ⟨x, hx, e⟩
        · rcases (kept_mem hke).2.2 z hz with h1 | ⟨x, hx, e2⟩
          · exact .inr ⟨w, by simp, by rw [← h1, e]⟩
          · exact .inl ⟨x, hx, by rw [e2, e]⟩
        · exact .inr ⟨x, by simp [hx], e⟩
      · rw [if_neg h0] at h
        simp only [Prod.mk.injEq] at h
        exact absurd h.2.2 h0
theorem applied_datas {V : Vol} {ws : List Wrt} (h : (appliedR V.1 V.2 ws).2.2 = 0) : ∀ y ∈ (appliedR V.1 V.2 ws).1, (∃ x ∈ V.1, x.data = y.data) ∨ ∃ w ∈ ws, w.data = y.data := by
  obtain ⟨g, gw, _⟩ := applied_good' h
  have e := applied_on (goodVB_yes g) (writesK_zero.2 gw)
  intro y hy
  have hk : keepAll (ws.foldl dropStep (V.1, V.2)).1 (ws.foldl dropStep (V.1, V.2)).2 ws = ((appliedR V.1 V.2 ws).1, (appliedR V.1 V.2 ws).2.1, 0) := by rw [← e, ← h]
  rcases keepAll_datas hk y hy with ⟨z, hz, e1⟩ | h2
  · obtain ⟨x, hx, e2⟩ := dropAll_datas ws _ z hz
    exact .inl ⟨x, hx, by rw [e2, e1]⟩
  · exact .inr h2

/-- the writes that bring back what was -/
def backW (ss : List ByteArray) (ws : List Wrt) : List Wrt := ws.map (fun w => ⟨w.block, ss.getD w.block.toNat ⟨#[]⟩⟩)
theorem backW_good {ss : List ByteArray} {ws : List Wrt} {b : Int} (g : GoodW ws b) (hs : ∀ s ∈ ss, s.size ≤ 48) : GoodW (backW ss ws) b := by
  refine ⟨by rw [backW, List.length_map]; exact g.len, fun x hx => ?_, fun x hx => ?_, fun x hx => ?_, ?_⟩
  · obtain ⟨w, hw, rfl⟩ := List.mem_map.1 hx; exact g.lo w hw
  · obtain ⟨w, hw, rfl⟩ := List.mem_map.1 hx; exact g.hi w hw
  · obtain ⟨w, hw, rfl⟩ := List.mem_map.1 hx
    simp only
    rw [List.getD_eq_getElem?_getD]
    cases h : ss[w.block.toNat]? with
    | none => exact Nat.zero_le _
    | some z => exact hs z (List.mem_of_getElem? h)
  · rw [backW, List.pairwise_map]; exact g.asc
theorem putAll_back : ∀ {ws : List Wrt} {ss : List ByteArray}, AscW ws → (∀ w ∈ ws, 0 ≤ w.block ∧ w.block < ss.length) → putAll (putAll ss ws) (backW ss ws) = ss
  | [], _, _, _ => rfl
  | w :: r, ss, hp, hr => by
    obtain ⟨hp1, hp2⟩ := List.pairwise_cons.1 hp
    have hw := hr w (by simp)
    have hk : w.block.toNat < ss.length := by omega
    have hne : ∀ x ∈ r, x.block ≠ w.block := fun x hx => by have := hp1 x hx; omega
    have hr0 : ∀ x ∈ r, 0 ≤ x.block := fun x hx => (hr x (by simp [hx])).1
    have e1 : putAll ss (w :: r) = putAll (ss.set w.block.toNat w.data) r := rfl
    have e2 : ∀ tt, putAll tt (backW ss (w :: r)) = putAll (tt.set w.block.toNat (ss.getD w.block.toNat ⟨#[]⟩)) (backW ss r) := fun _ => rfl
    have e3 : ss.getD w.block.toNat ⟨#[]⟩ = ss[w.block.toNat] := by rw [List.getD_eq_getElem?_getD, List.getElem?_eq_getElem hk]; rfl
    rw [e1, e2, putAll_set r _ hr0 hw.1 hne, List.set_set, ← putAll_set r _ hr0 hw.1 hne, e3, List.set_getElem_self]
    exact putAll_back hp2 (fun x hx => hr x (by simp [hx]))
/-- writing back the previous data restores what is read -/
theorem undone {V : Vol} (g : GoodVol V.1 V.2) (hl : V.2.length ≤ 23) {ws : List Wrt} (gw : GoodW ws V.2.length) :
    let U : Vol := ((appliedR V.1 V.2 ws).1, (appliedR V.1 V.2 ws).2.1)
    let R : Vol := ((appliedR U.1 U.2 (backW (readsR V) ws)).1, (appliedR U.1 U.2 (backW (readsR V) ws)).2.1)
    (appliedR V.1 V.2 ws).2.2 = 0 ∧ GoodVol U.1 U.2 ∧ U.2.length = V.2.length ∧ (appliedR U.1 U.2 (backW (readsR V) ws)).2.2 = 0 ∧ GoodVol R.1 R.2 ∧ R.2.length = V.2.length ∧ readsR R = readsR V ∧ R.1.length = V.1.length := by
  intro U R
  have h0 := applied_takes g hl gw
  obtain ⟨_, _, gU, lU⟩ := applied_good' h0
  have gb := backW_good gw (reads_size g)
  have lU' : U.2.length = V.2.length := lU
  have h1 : (appliedR U.1 U.2 (backW (readsR V) ws)).2.2 = 0 := applied_takes gU (by rw [lU']; exact hl) (by rw [lU']; exact gb)
  obtain ⟨_, _, gR, lR⟩ := applied_good' h1
  have r1 : readsR U = putAll (readsR V) ws := reads_applied (V := V) (by rw [← h0])
  have r2 : readsR R = putAll (readsR U) (backW (readsR V) ws) := reads_applied (V := U) (by rw [← h1])
  have r3 : readsR R = readsR V := by
    rw [r2, r1, putAll_back gw.asc (fun w hw => ⟨gw.lo w hw, by rw [readsR_len]; exact gw.hi w hw⟩)]
  refine ⟨h0, gU, lU', h1, gR, by rw [show R.2.length = U.2.length from lR, lU'], r3, ?_⟩
  rw [← items_count gR, ← items_count g, r3]
end Go.Proofs.YtphbebcbbfbgpacDoor

namespace Go.Proofs.YtphbebcbbfbgpacDoor
open Go Go.RowKit

/-- a crash that keeps all -/
theorem crash_all {E : Eng} {H : Hse} (h : Sim E H) {keep : Int} (hk : ¬ keep < 0) (hp : E.pend.length ≤ keep.toNat) :
    (crashE E keep).1.v = E.v ∧ (crashE E keep).1.opened = false ∧ (crashE E keep).2 = ((H.deals.length : Int), 0) := by
  obtain ⟨c1, c2, c3, c4⟩ := h.crash hk
  have hfit : fitN ((H.deals.drop H.last).map (·.1)) keep.toNat = ((H.deals.drop H.last).map (·.1)).length := fitN_all _ _ (by rw [← h.pend]; exact hp)
  have hl := h.last
  have e : H.last + fitN ((H.deals.drop H.last).map (·.1)) keep.toNat = H.deals.length := by
    rw [hfit, List.length_map, List.length_drop]; omega
  rw [e, List.take_of_length_le (Nat.le_refl _)] at c2
  unfold crashE
  rw [if_neg hk, c2]
  simp only
  rw [h.redo]
  simp
/-- a crash's engine stands for the house that it left -/
theorem crash_sim {E : Eng} {H : Hse} (h : Sim E H) (b : Int) (d : ByteArray) {keep : Int} (hk : ¬ keep < 0) :
    Sim (crashE E keep).1 ⟨H.base, H.deals.take (crashN H keep), crashN H keep, false, []⟩ ∧ (crashE E keep).2.2 = 0 ∧ (crashE E keep).2.1 = (crashN H keep : Int) ∧ H.last ≤ crashN H keep ∧ crashN H keep ≤ H.deals.length := by
  obtain ⟨h1, h2⟩ := sim_act h ⟨7, b, d, keep⟩
  have ea : actE E ⟨7, b, d, keep⟩ = ((crashE E keep).1, ⟨(crashE E keep).2.2, noData, 0, 0, (crashE E keep).2.1⟩) := rfl
  have eh : actH H ⟨7, b, d, keep⟩ = (⟨H.base, H.deals.take (crashN H keep), crashN H keep, false, []⟩, ⟨0, noData, 0, 0, crashN H keep⟩) := by
    rw [actH, if_neg (by simp), if_neg (by simp), if_neg (by simp), if_neg (by simp), if_neg (by simp), if_neg (by simp), if_pos rfl, if_neg hk]
  rw [ea, eh] at h1 h2
  simp only [Ans.mk.injEq, true_and] at h1
  obtain ⟨c1, _, _, c4⟩ := h.crash hk
  refine ⟨h2, h1.1, h1.2, ?_, ?_⟩
  · rw [c1]; omega
  · rw [c1]; exact c4
theorem flush_pend (E : Eng) (b : Int) (d : ByteArray) (k : Int) : (actE E ⟨6, b, d, k⟩).1.pend = [] ∧ (actE E ⟨6, b, d, k⟩).1.v = E.v := ⟨rfl, rfl⟩
theorem run_snoc (l : List Acn) (a : Acn) : runEs (eng0 8) (l ++ [a]) = ((runEs (eng0 8) l).1 ++ [(actE (runEs (eng0 8) l).2 a).2], (actE (runEs (eng0 8) l).2 a).1) := by
  rw [runEs_app]; rfl
def crashA (keep : Nat) : Acn := ⟨7, 0, ⟨#[]⟩, keep⟩
/-- no crash removes what was flushed -/
theorem flushed (l : List Acn) (keep : Nat) : (runEs (eng0 8) ((l ++ [⟨5, 0, ⟨#[]⟩, 0⟩, ⟨6, 0, ⟨#[]⟩, 0⟩]) ++ [crashA keep])).2.v = (runEs (eng0 8) (l ++ [⟨5, 0, ⟨#[]⟩, 0⟩, ⟨6, 0, ⟨#[]⟩, 0⟩])).2.v := by
  rw [run_snoc]
  obtain ⟨H, h⟩ := run_sim (l ++ [⟨5, 0, ⟨#[]⟩, 0⟩, ⟨6, 0, ⟨#[]⟩, 0⟩])
  have hp : (runEs (eng0 8) (l ++ [⟨5, 0, ⟨#[]⟩, 0⟩, ⟨6, 0, ⟨#[]⟩, 0⟩])).2.pend = [] := by
    rw [show l ++ [(⟨5, 0, ⟨#[]⟩, 0⟩ : Acn), ⟨6, 0, ⟨#[]⟩, 0⟩] = (l ++ [⟨5, 0, ⟨#[]⟩, 0⟩]) ++ [⟨6, 0, ⟨#[]⟩, 0⟩] by simp, run_snoc]
    exact (flush_pend _ 0 ⟨#[]⟩ 0).1
  exact (crash_all h (keep := (keep : Int)) (by omega) (by rw [hp]; simp)).1
/-- a crash that keeps everything loses only the open transaction -/
theorem kept_all (l : List Acn) : (runEs (eng0 8) (l ++ [crashA 4000])).2.v = (runEs (eng0 8) l).2.v ∧
    (runEs (eng0 8) (l ++ [crashA 4000, ⟨4, 0, ⟨#[]⟩, 0⟩])).1 = (runEs (eng0 8) l).1 ++ [(actE (runEs (eng0 8) l).2 (crashA 4000)).2, Ans.of 7] := by
  obtain ⟨H, h⟩ := run_sim l
  have hg := h.good.log
  have hc := crash_all h (keep := ((4000 : Nat) : Int)) (by omega) (by rw [Int.toNat_natCast]; omega)
  refine ⟨?_, ?_⟩
  · rw [run_snoc]; exact hc.1
  · rw [show l ++ [crashA 4000, (⟨4, 0, ⟨#[]⟩, 0⟩ : Acn)] = (l ++ [crashA 4000]) ++ [⟨4, 0, ⟨#[]⟩, 0⟩] by simp, run_snoc, run_snoc]
    have e : (actE (actE (runEs (eng0 8) l).2 (crashA 4000)).1 ⟨4, 0, ⟨#[]⟩, 0⟩).2 = Ans.of (commitE (crashE (runEs (eng0 8) l).2 ((4000 : Nat) : Int)).1).2 := rfl
    simp only
    rw [e, commitE, if_neg (by rw [hc.2.1]; simp)]
    simp
end Go.Proofs.YtphbebcbbfbgpacDoor

namespace Go.Proofs.YtphbebcbbfbgpacDoor
open Go Go.RowKit

theorem str_at {w : World} {B n k : Nat} {A : Option Addr} {ls : List ByteArray} (h : Rep w B 1 strCell A n ls) (hk : k < n) :
    ∃ b off, A = some ⟨b, off, none⟩ ∧ b < B ∧ w.cell? ⟨b, off + k, none⟩ = some (.string (ls[k]'(by have := h.1; omega))) := by
  obtain ⟨b, off, e, hb, hc⟩ := h.at_ hk
  exact ⟨b, off, e, hb, by have := hc 0 (by omega); rw [Nat.mul_one] at this; exact this⟩

theorem pickedT_any (n : Int) (m : Nat) (w : World) (hn : i64Ok n) (h0 : 0 < m) (hm : m ≤ 1000000) :
    Calls Tryd.prog 37 #[.int .i64 n, .int .i64 m] w fun e w' => e = .returned (.int .i64 (pickN n m)) ∧ w = w' := by
  have HP := Lib.hid (fun W => picked_any n m W hn h0 hm)
  clear hn h0 hm
  go_enter Tryd.func37, Tryd.ntmps37
  go_wp2_with (go_at_call 15; (with_reducible refine (HP.out _).mono ?_); rintro e w' ⟨rfl, rfl⟩)
  go_ret
  exact ⟨rfl, rfl⟩

theorem crashT_any (k : Nat) (w : World) : Calls Tryd.prog 36 #[.int .i64 k] w fun e w' => e = .returned (.agg #[.int .i64 7, .int .i64 0, .string ⟨#[]⟩, .int .i64 k]) ∧ Below w.heap.size w w' := by
  go_enter Tryd.func36, Tryd.ntmps36
  go_wp2
  refine bodyPost_ret (v := .agg #[.int .i64 7, .int .i64 0, .string ⟨#[]⟩, .int .i64 k]) (by simp [results, Tryd.results36, go_sem]) rfl ?_
  exact ⟨rfl, (Below.refl _ _).alloc (Nat.le_refl _) _⟩

set_option maxHeartbeats 1000000 in
theorem equalStr_yes (A B : Option Addr) (n c d : Nat) (ls : List ByteArray) (w : World) (h : Rep w w.heap.size 1 strCell A n ls) (h' : Rep w w.heap.size 1 strCell B n ls) (hn : n ≤ maxLen) :
    Calls Tryd.prog 32 #[.slice A n c, .slice B n d] w fun e w' => e = .returned (.bool true) ∧ Below w.heap.size w w' := by
  have H := Lib.hid h
  have H' := Lib.hid h'
  have hnn : ((n : Int) != n) = false := by simp
  clear h h'
  unfold maxLen at hn
  go_enter Tryd.func32, Tryd.ntmps32
  go_wp2
  go_loopw [13] (fun i wr => ∃ k : Nat, k ≤ n ∧ i = .int .i64 k ∧ Below w.heap.size w wr) (fun i _ => n - (intOf i).toNat)
  case atStart => exact ⟨0, Nat.zero_le _, rfl, Below.refl _ _⟩
  case round =>
    obtain ⟨k, hk, rfl, hbel⟩ := hrel
    have HB := Lib.hid hbel
    by_cases hlt : k < n
    · obtain ⟨b, off, rfl, hb, c0⟩ := str_at (H.out.below hbel (Nat.le_refl _)) hlt
      obtain ⟨b', off', rfl, hb', e0⟩ := str_at (H'.out.below hbel (Nat.le_refl _)) hlt
      obtain ⟨x, hx⟩ : ∃ x, ls[k]'(by have := H.out.1; omega) = x := ⟨_, rfl⟩
      rw [hx] at c0 e0
      have hne : (x.toList != x.toList) = false := by simp
      clear hx hbel hb hb'
      go_wp2
      go_quiet (fail)
      go_wp2
      go_roundw
      case rel => exact ⟨k + 1, by omega, by go_num, below_drewN HB.out _⟩
      case measure => simp [intOf]; omega
    · clear hbel
      go_wp2
      go_ret
      exact ⟨rfl, HB.out⟩

/-- What is read of all blocks, and that the script was taken. -/
def TReadsPost (w : World) (ls : List Acn) (e : Ending) (w' : World) : Prop :=
  ∃ A c, e = .returned (.tuple #[.slice A (readsR (runEs (eng0 8) ls).2.v).length c, .bool true]) ∧ w'.ownsRow w.heap.size 9 1 (.slice A (readsR (runEs (eng0 8) ls).2.v).length c) (readsR (runEs (eng0 8) ls).2.v).length (flat strCell 1 (readsR (runEs (eng0 8) ls).2.v)) ∧ Below w.heap.size w w'

set_option maxRecDepth 100000 in
set_option maxHeartbeats 4000000 in
theorem treads_any (A : Option Addr) (n c : Nat) (ls : List Acn) (w : World) (h : Rep w w.heap.size 4 Acn.cell A n ls) (hn : n ≤ 300) (hwf : ∀ a ∈ ls, a.wf) :
    Calls Tryd.prog 34 #[.slice A n c] w (TReadsPost w ls) := by
  have hrun := trun_any A n c ls w h hn hwf
  have hgood := run_good ls
  unfold TReadsPost
  unfold TRunPost at hrun
  obtain ⟨V, hV⟩ : ∃ V, (runEs (eng0 8) ls).2.v = V := ⟨_, rfl⟩
  obtain ⟨xs, hx⟩ : ∃ xs, (runEs (eng0 8) ls).1 = xs := ⟨_, rfl⟩
  rw [hV, hx] at hrun
  rw [hV] at hgood ⊢
  have hrl := readsR_len V
  rw [hrl]
  have HRUN := Lib.hid hrun
  have HG := Lib.hid hgood
  clear hrun hgood hV hx h hwf hrl
  go_enter Tryd.func34, Tryd.ntmps34
  go_wp2_with fail
  refine HRUN.out.mono ?_
  rintro e w4 ⟨Ax, cx, A4, c4, B4, d4, rfl, p0, p1, p2, hb4⟩
  dsimp only at p0 p1 p2 ⊢
  have al := (Below.refl w4.heap.size w4).alloc (Nat.le_refl _) (.cells #[.slice A4 V.1.length c4, .slice B4 V.2.length d4] 30)
  have hrd := reads_any A4 B4 c4 d4 V _ (Rep.of_own rfl (own_below p1 al) (Nat.le_refl _)) (Rep.of_own rfl (own_below p2 al) (Nat.le_refl _)) HG.out
  have hb5 := hb4.alloc hb4.size (.cells #[.slice A4 V.1.length c4, .slice B4 V.2.length d4] 30)
  have HRD := Lib.hid hrd
  have HB5 := Lib.hid hb5
  clear p0 p1 p2 hb4 al hrd hb5
  go_wp2_with fail
  with_reducible refine HRD.out.mono ?_
  rintro e w6 ⟨A6, c6, rfl, ho6, hb6, _, _, _⟩
  have HO6 := Lib.hid (own_mono ho6 HB5.out.size)
  have HB6 := Lib.hid (HB5.out.trans (hb6.mono HB5.out.size))
  clear ho6 hb6
  go_wp2
  go_ret2
  exact ⟨A6, c6, rfl, HO6.out, HB6.out⟩
end Go.Proofs.YtphbebcbbfbgpacDoor

namespace Go.Proofs.YtphbebcbbfbgpacDoor
open Go Go.RowKit

theorem wf_lit (k : Int) (h : i64Ok k) : Acn.wf ⟨k, 0, ⟨#[]⟩, 0⟩ := ⟨h, rfl, str_small ⟨#[]⟩ (by decide), rfl⟩
theorem wf_crash (k : Nat) (h : k ≤ 1000000) : Acn.wf (crashA k) := ⟨rfl, rfl, str_small ⟨#[]⟩ (by decide), ok_small k h⟩
theorem wf_app {xs ys : List Acn} (h : ∀ a ∈ xs, Acn.wf a) (k : ∀ a ∈ ys, Acn.wf a) : ∀ a ∈ xs ++ ys, Acn.wf a := fun a ha => (List.mem_append.1 ha).elim (h a) (k a)

theorem ans_at {w : World} {B n k : Nat} {A : Option Addr} {ls : List Ans} (h : Rep w B 5 Ans.cell A n ls) (hk : k < n) :
    ∃ b off, A = some ⟨b, off, none⟩ ∧ b < B ∧ w.cell? ⟨b, off + k * 5, none⟩ = some (.int .i64 (ls[k]'(by have := h.1; omega)).code) ∧ w.cell? ⟨b, off + k * 5 + 1, none⟩ = some (.string (ls[k]'(by have := h.1; omega)).data) ∧
      w.cell? ⟨b, off + k * 5 + 2, none⟩ = some (.int .i64 (ls[k]'(by have := h.1; omega)).items) ∧ w.cell? ⟨b, off + k * 5 + 3, none⟩ = some (.int .i64 (ls[k]'(by have := h.1; omega)).log) ∧ w.cell? ⟨b, off + k * 5 + 4, none⟩ = some (.int .i64 (ls[k]'(by have := h.1; omega)).count) := by
  obtain ⟨b, off, e, hb, hc⟩ := h.at_ hk
  exact ⟨b, off, e, hb, hc 0 (by omega), hc 1 (by omega), hc 2 (by omega), hc 3 (by omega), hc 4 (by omega)⟩
end Go.Proofs.YtphbebcbbfbgpacDoor

namespace Go.Proofs.YtphbebcbbfbgpacDoor
open Go Go.RowKit
set_option linter.unusedSimpArgs false
set_option linter.unusedVariables false

def kindA (k : Int) : Acn := ⟨k, 0, ⟨#[]⟩, 0⟩
def readA (b : Int) : Acn := ⟨3, b, ⟨#[]⟩, 0⟩
/-- a Mark does not change what is read, and a crash after it does not either -/
theorem marked (l : List Acn) (keep : Nat) : (runEs (eng0 8) (l ++ [kindA 8, kindA 9, crashA keep])).2.v = (runEs (eng0 8) l).2.v ∧
    (runEs (eng0 8) (l ++ [kindA 8, kindA 9, crashA keep])).1 = (runEs (eng0 8) l).1 ++ [Ans.of 0, ⟨0, noData, (runEs (eng0 8) l).2.v.1.length, 0, 0⟩, Ans.of 0] := by
  rw [runEs_app]
  obtain ⟨E, hE⟩ : ∃ E, (runEs (eng0 8) l).2 = E := ⟨_, rfl⟩
  rw [hE]
  have e : runEs E [kindA 8, kindA 9, crashA keep] = ([Ans.of 0, ⟨0, noData, E.v.1.length, 0, 0⟩, (actE ⟨E.v, E.v, [], [], E.opened, E.ws⟩ (crashA keep)).2], (actE ⟨E.v, E.v, [], [], E.opened, E.ws⟩ (crashA keep)).1) := rfl
  rw [e]
  have hc : crashE ⟨E.v, E.v, [], [], E.opened, E.ws⟩ (keep : Int) = (⟨E.v, E.v, [], [], false, []⟩, 0, 0) := by
    unfold crashE cutS
    rw [if_neg (by omega)]
    simp only [List.take_nil, List.append_nil, scanL_nil, redo, if_true, List.length_nil, Int.natCast_zero, List.nil_append]
  have ha : actE ⟨E.v, E.v, [], [], E.opened, E.ws⟩ (crashA keep) = ((crashE ⟨E.v, E.v, [], [], E.opened, E.ws⟩ (keep : Int)).1, ⟨(crashE ⟨E.v, E.v, [], [], E.opened, E.ws⟩ (keep : Int)).2.2, noData, 0, 0, (crashE ⟨E.v, E.v, [], [], E.opened, E.ws⟩ (keep : Int)).2.1⟩) := rfl
  rw [ha, hc]
  exact ⟨rfl, rfl⟩

/-- a crash after a crash changes nothing -/
theorem twice (l : List Acn) (keep : Nat) : ∃ n : Int, (runEs (eng0 8) ((l ++ [crashA keep]) ++ [crashA 0])).2.v = (runEs (eng0 8) (l ++ [crashA keep])).2.v ∧
    (runEs (eng0 8) (l ++ [crashA keep])).1 = (runEs (eng0 8) l).1 ++ [⟨0, noData, 0, 0, n⟩] ∧
    (runEs (eng0 8) ((l ++ [crashA keep]) ++ [crashA 0])).1 = ((runEs (eng0 8) l).1 ++ [⟨0, noData, 0, 0, n⟩]) ++ [⟨0, noData, 0, 0, n⟩] := by
  obtain ⟨H, h⟩ := run_sim l
  obtain ⟨s1, s2, s3, s4, s5⟩ := crash_sim h 0 ⟨#[]⟩ (keep := (keep : Int)) (by omega)
  have hp : (crashE (runEs (eng0 8) l).2 (keep : Int)).1.pend = [] := by
    rw [s1.pend, List.drop_of_length_le (by simp only [List.length_take]; omega)]; rfl
  obtain ⟨t1, _, t3⟩ := crash_all s1 (keep := ((0 : Nat) : Int)) (by omega) (by rw [hp]; simp)
  refine ⟨(crashN H keep : Int), ?_, ?_, ?_⟩
  · rw [run_snoc, run_snoc]; exact t1
  · rw [run_snoc]
    have e : (actE (runEs (eng0 8) l).2 (crashA keep)).2 = ⟨(crashE (runEs (eng0 8) l).2 (keep : Int)).2.2, noData, 0, 0, (crashE (runEs (eng0 8) l).2 (keep : Int)).2.1⟩ := rfl
    simp only
    rw [e, s2, s3]
  · rw [run_snoc, run_snoc]
    have e : (actE (runEs (eng0 8) l).2 (crashA keep)).2 = ⟨(crashE (runEs (eng0 8) l).2 (keep : Int)).2.2, noData, 0, 0, (crashE (runEs (eng0 8) l).2 (keep : Int)).2.1⟩ := rfl
    have e2 : (actE (actE (runEs (eng0 8) l).2 (crashA keep)).1 (crashA 0)).2 = ⟨(crashE (crashE (runEs (eng0 8) l).2 (keep : Int)).1 ((0 : Nat) : Int)).2.2, noData, 0, 0, (crashE (crashE (runEs (eng0 8) l).2 (keep : Int)).1 ((0 : Nat) : Int)).2.1⟩ := rfl
    simp only
    rw [e, e2, s2, s3, t3]
    simp only [List.length_take]
    rw [Nat.min_eq_left s5]

/-- acts that leave the volume -/
theorem act_still {a : Acn} (E : Eng) (h : a.kind = 1 ∨ a.kind = 2 ∨ a.kind = 3 ∨ a.kind = 5) : (actE E a).1.v = E.v := by
  unfold actE
  by_cases k1 : a.kind = 1
  · rw [if_pos k1]; split <;> rfl
  rw [if_neg k1]
  by_cases k2 : a.kind = 2
  · rw [if_pos k2]
    unfold putE
    dsimp only
    repeat' split
    all_goals rfl
  rw [if_neg k2]
  by_cases k3 : a.kind = 3
  · rw [if_pos k3]
  rw [if_neg k3, if_neg (by omega), if_pos (by omega)]
theorem run_still : ∀ (l : List Acn) (E : Eng), (∀ a ∈ l, a.kind = 1 ∨ a.kind = 2 ∨ a.kind = 3 ∨ a.kind = 5) → (runEs E l).2.v = E.v
  | [], _, _ => rfl
  | a :: l, E, h => by
    rw [runEs]
    exact (run_still l _ (fun x hx => h x (by simp [hx]))).trans (act_still E (h a (by simp)))
/-- an aborted transaction has no effect -/
theorem aborted (l more : List Acn) (h : ∀ a ∈ more, a.kind = 2 ∨ a.kind = 3) : (runEs (eng0 8) (((l ++ [kindA 1]) ++ more) ++ [kindA 5])).2.v = (runEs (eng0 8) l).2.v := by
  rw [show ((l ++ [kindA 1]) ++ more) ++ [kindA 5] = l ++ (([kindA 1] ++ more) ++ [kindA 5]) by simp, runEs_app]
  refine run_still _ _ (fun a ha => ?_)
  rcases List.mem_append.1 ha with ha | ha
  · rcases List.mem_append.1 ha with ha | ha
    · rw [List.mem_singleton.1 ha]; exact .inl rfl
    · have := h a ha; omega
  · rw [List.mem_singleton.1 ha]; exact .inr (.inr (.inr rfl))

/-- the number of blocks stays -/
theorem act_base (E : Eng) (a : Acn) : (actE E a).1.base = E.base ∨ (actE E a).1.base = E.v := by
  unfold actE
  by_cases k1 : a.kind = 1
  · rw [if_pos k1]; split <;> exact .inl rfl
  rw [if_neg k1]
  by_cases k2 : a.kind = 2
  · rw [if_pos k2]
    left
    unfold putE
    dsimp only
    repeat' split
    all_goals rfl
  rw [if_neg k2]
  by_cases k3 : a.kind = 3
  · rw [if_pos k3]; exact .inl rfl
  rw [if_neg k3]
  by_cases k4 : a.kind = 4
  · rw [if_pos k4]
    left
    unfold commitE
    dsimp only
    repeat' split
    all_goals rfl
  rw [if_neg k4]
  by_cases k5 : a.kind = 5
  · rw [if_pos k5]; exact .inl rfl
  rw [if_neg k5]
  by_cases k6 : a.kind = 6
  · rw [if_pos k6]; exact .inl rfl
  rw [if_neg k6]
  by_cases k7 : a.kind = 7
  · rw [if_pos k7]
    left
    unfold crashE
    dsimp only
    repeat' split
    all_goals rfl
  rw [if_neg k7]
  by_cases k8 : a.kind = 8
  · rw [if_pos k8]; exact .inr rfl
  rw [if_neg k8]
  split <;> exact .inl rfl
theorem run_blocks : ∀ (l : List Acn) {E : Eng} {H : Hse}, Sim E H → (runEs E l).2.v.2.length = E.v.2.length
  | [], _, _, _ => rfl
  | a :: l, E, H, h => by
    rw [runEs]
    have h2 := (sim_act h a).2
    rw [run_blocks l h2, h2.good.blocks]
    rcases act_base E a with e | e
    · rw [e, h.good.blocks]
    · rw [e]
theorem run_blocksN {n : Nat} (h1 : 1 ≤ n) (h2 : n ≤ 32) (l : List Acn) : (runEs (eng0 n) l).2.v.2.length = n := by
  rw [run_blocks l (sim0 h1 h2)]; simp [eng0]

/-- what an engine is like behind an abort -/
theorem abort_state (l : List Acn) : (runEs (eng0 8) (l ++ [kindA 5])).2.opened = false ∧ (runEs (eng0 8) (l ++ [kindA 5])).2.ws = [] := by
  rw [run_snoc]
  exact ⟨rfl, rfl⟩
/-- a transaction reads what it wrote, and later reads return it if the transaction was committed -/
theorem sees {E : Eng} {H : Hse} (h : Sim E H) (ho : E.opened = false) (hw : E.ws = []) (hl : E.v.2.length ≤ 23) {b : Nat} (hb : b < E.v.2.length) {s : ByteArray} (hs : s.size ≤ 48) :
    ∃ a1 a3 a4 a5, (runEs E [kindA 1, readA b, ⟨2, b, s, 0⟩, readA b, kindA 4, readA b]).1 = [Ans.of 0, a1, Ans.of 0, a3, Ans.of a4, a5] ∧ (readsR E.v)[b]? = some a1.data ∧ a3.data = s ∧
      ((a4 = 0 ∧ a5.data = s) ∨ (a4 = 1 ∧ (readsR E.v)[b]? = some a5.data)) := by
  obtain ⟨v, base, lg, pe, op, ws⟩ := E
  dsimp only at ho hw hl hb ⊢
  subst ho hw
  have g : GoodVol v.1 v.2 := h.good.vol
  have hrd : (readsR v)[b]? = some (readR v.1 v.2 (b : Int)).1 := by
    unfold readsR
    rw [List.getElem?_map, List.getElem?_range hb]; rfl
  have e1 : actE ⟨v, base, lg, pe, false, []⟩ (kindA 1) = (⟨v, base, lg, pe, true, []⟩, Ans.of 0) := rfl
  have e2 : actE ⟨v, base, lg, pe, true, []⟩ (readA b) = (⟨v, base, lg, pe, true, []⟩, ⟨(readR v.1 v.2 (b : Int)).2, (readR v.1 v.2 (b : Int)).1, 0, 0, 0⟩) := rfl
  have e3 : actE ⟨v, base, lg, pe, true, []⟩ ⟨2, b, s, 0⟩ = (⟨v, base, lg, pe, true, [⟨b, s⟩]⟩, Ans.of 0) := by
    unfold actE
    rw [if_neg (by simp), if_pos rfl]
    unfold putE
    dsimp only
    rw [if_pos rfl, if_pos ⟨by omega, by omega⟩, if_pos hs, if_pos (.inr (by simp)), putW_nil]
  have hthere : thereB [(⟨b, s⟩ : Wrt)] (b : Int) = true := by rw [thereB_ge (by simp)]; simp
  have hlow : lowIx [(⟨b, s⟩ : Wrt)] (b : Int) = 0 := lowIx_ge (by simp)
  have e4 : actE ⟨v, base, lg, pe, true, [⟨b, s⟩]⟩ (readA b) = (⟨v, base, lg, pe, true, [⟨b, s⟩]⟩, ⟨0, s, 0, 0, 0⟩) := by
    have : readE ⟨v, base, lg, pe, true, [⟨b, s⟩]⟩ (b : Int) = (s, 0) := by
      unfold readE
      dsimp only
      rw [if_pos hthere, hlow]; rfl
    have e : actE ⟨v, base, lg, pe, true, [⟨b, s⟩]⟩ (readA b) = (⟨v, base, lg, pe, true, [⟨b, s⟩]⟩, ⟨(readE ⟨v, base, lg, pe, true, [⟨b, s⟩]⟩ (b : Int)).2, (readE ⟨v, base, lg, pe, true, [⟨b, s⟩]⟩ (b : Int)).1, 0, 0, 0⟩) := rfl
    rw [e, this]
  have gw : GoodW [(⟨b, s⟩ : Wrt)] v.2.length := ⟨by simp, by simp, by simpa using hb, by simpa using hs, by simp⟩
  have hap := applied_takes g hl gw
  have e5 : actE ⟨v, base, lg, pe, true, [⟨b, s⟩]⟩ (kindA 4) = ((commitE ⟨v, base, lg, pe, true, [⟨b, s⟩]⟩).1, Ans.of (commitE ⟨v, base, lg, pe, true, [⟨b, s⟩]⟩).2) := rfl
  have hrun : (runEs ⟨v, base, lg, pe, false, []⟩ [kindA 1, readA b, ⟨2, b, s, 0⟩, readA b, kindA 4, readA b]).1 =
      [Ans.of 0, ⟨(readR v.1 v.2 (b : Int)).2, (readR v.1 v.2 (b : Int)).1, 0, 0, 0⟩, Ans.of 0, ⟨0, s, 0, 0, 0⟩, Ans.of (commitE ⟨v, base, lg, pe, true, [⟨b, s⟩]⟩).2, (actE (commitE ⟨v, base, lg, pe, true, [⟨b, s⟩]⟩).1 (readA b)).2] := by
    simp only [runEs, e1, e2, e3, e4, e5]
  refine ⟨_, _, _, _, hrun, hrd, rfl, ?_⟩
  have hread : ∀ F : Eng, F.ws = [] → (actE F (readA b)).2.data = (readR F.v.1 F.v.2 (b : Int)).1 := by
    intro F hF
    have : (actE F (readA b)).2.data = (readE F (b : Int)).1 := rfl
    rw [this, readE, hF, thereB_nil, if_neg (by simp)]
  unfold commitE
  dsimp only
  rw [if_pos rfl, if_pos hap]
  by_cases h4 : lg.length + pe.length + (recL [(⟨b, s⟩ : Wrt)]).length ≤ 4000
  · rw [if_pos h4]
    left
    refine ⟨rfl, ?_⟩
    rw [hread _ rfl]
    have hra := reads_applied (V := v) (us := (appliedR v.1 v.2 [⟨b, s⟩]).1) (cs := (appliedR v.1 v.2 [⟨b, s⟩]).2.1) (ws := [⟨b, s⟩]) (by rw [← hap])
    have hcl := (applied_good' hap).2.2.2
    have h2 : (readsR ((appliedR v.1 v.2 [⟨b, s⟩]).1, (appliedR v.1 v.2 [⟨b, s⟩]).2.1))[b]? = some (readR (appliedR v.1 v.2 [⟨b, s⟩]).1 (appliedR v.1 v.2 [⟨b, s⟩]).2.1 (b : Int)).1 := by
      unfold readsR
      rw [List.getElem?_map, List.getElem?_range (by rw [hcl]; exact hb)]; rfl
    rw [hra, putAll, List.foldl_cons, List.foldl_nil, Int.toNat_natCast, List.getElem?_set_self (by rw [readsR_len]; exact hb)] at h2
    exact (Option.some.inj h2).symm
  · rw [if_neg h4]
    right
    refine ⟨rfl, ?_⟩
    rw [hread _ rfl]
    exact hrd
end Go.Proofs.YtphbebcbbfbgpacDoor

namespace Go.Proofs.YtphbebcbbfbgpacDoor
open Go Go.RowKit

theorem int_at {w : World} {B n k : Nat} {A : Option Addr} {ls : List Int} (h : Rep w B 1 intCell A n ls) (hk : k < n) :
    ∃ b off, A = some ⟨b, off, none⟩ ∧ b < B ∧ w.cell? ⟨b, off + k, none⟩ = some (.int .i64 (ls[k]'(by have := h.1; omega))) := by
  obtain ⟨b, off, e, hb, hc⟩ := h.at_ hk
  exact ⟨b, off, e, hb, by have := hc 0 (by omega); rw [Nat.mul_one] at this; exact this⟩
theorem not_all_true {a : Bool} (h : a = true) : (!a) = false := by rw [h]; rfl

set_option maxHeartbeats 1000000 in
theorem equalStrQ (A B : Option Addr) (n c d : Nat) (ls : List ByteArray) (w : World) (h : Rep w w.heap.size 1 strCell A n ls) (h' : Rep w w.heap.size 1 strCell B n ls) (hn : n ≤ maxLen) :
    Calls Tryd.prog 32 #[.slice A n c, .slice B n d] w fun e w' => e = .returned (.bool true) ∧ ∃ j, w' = w.drewN j := by
  have H := Lib.hid h
  have H' := Lib.hid h'
  have hnn : ((n : Int) != n) = false := by simp
  clear h h'
  unfold maxLen at hn
  go_enter Tryd.func32, Tryd.ntmps32
  go_wp2
  go_loopw [13] (fun i wr => ∃ k j : Nat, k ≤ n ∧ i = .int .i64 k ∧ wr = w.drewN j) (fun i _ => n - (intOf i).toNat)
  case atStart => exact ⟨0, 0, Nat.zero_le _, rfl, rfl⟩
  case round =>
    obtain ⟨k, j, hk, rfl, rfl⟩ := hrel
    by_cases hlt : k < n
    · obtain ⟨b, off, rfl, hb, c0⟩ := str_at H.out hlt
      obtain ⟨b', off', rfl, hb', e0⟩ := str_at H'.out hlt
      obtain ⟨x, hx⟩ : ∃ x, ls[k]'(by have := H.out.1; omega) = x := ⟨_, rfl⟩
      rw [hx] at c0 e0
      have hne : (x.toList != x.toList) = false := by simp
      clear hx hb hb'
      go_wp2
      go_quiet (fail)
      go_wp2
      go_roundw
      case rel => exact ⟨k + 1, _, by omega, by go_num, rfl⟩
      case measure => simp [intOf]; omega
    · go_wp2
      go_ret
      exact ⟨rfl, _, rfl⟩

set_option maxHeartbeats 1000000 in
theorem equalIntQ (A B : Option Addr) (n c d : Nat) (ls : List Int) (w : World) (h : Rep w w.heap.size 1 intCell A n ls) (h' : Rep w w.heap.size 1 intCell B n ls) (hn : n ≤ maxLen) :
    Calls Tryd.prog 20 #[.slice A n c, .slice B n d] w fun e w' => e = .returned (.bool true) ∧ ∃ j, w' = w.drewN j := by
  have H := Lib.hid h
  have H' := Lib.hid h'
  have hnn : ((n : Int) != n) = false := by simp
  clear h h'
  unfold maxLen at hn
  go_enter Tryd.func20, Tryd.ntmps20
  go_wp2
  go_loopw [13] (fun i wr => ∃ k j : Nat, k ≤ n ∧ i = .int .i64 k ∧ wr = w.drewN j) (fun i _ => n - (intOf i).toNat)
  case atStart => exact ⟨0, 0, Nat.zero_le _, rfl, rfl⟩
  case round =>
    obtain ⟨k, j, hk, rfl, rfl⟩ := hrel
    by_cases hlt : k < n
    · obtain ⟨b, off, rfl, hb, c0⟩ := int_at H.out hlt
      obtain ⟨b', off', rfl, hb', e0⟩ := int_at H'.out hlt
      obtain ⟨x, hx⟩ : ∃ x, ls[k]'(by have := H.out.1; omega) = x := ⟨_, rfl⟩
      rw [hx] at c0 e0
      have hne : (x != x) = false := by simp
      clear hx hb hb'
      go_wp2
      go_quiet (fail)
      go_wp2
      go_roundw
      case rel => exact ⟨k + 1, _, by omega, by go_num, rfl⟩
      case measure => simp [intOf]; omega
    · go_wp2
      go_ret
      exact ⟨rfl, _, rfl⟩

set_option maxHeartbeats 1000000 in
theorem equalItmQ (A B : Option Addr) (n c d : Nat) (ls : List Itm) (w : World) (h : Rep w w.heap.size 3 Itm.cell A n ls) (h' : Rep w w.heap.size 3 Itm.cell B n ls) (hn : n ≤ maxLen) :
    Calls Tryd.prog 19 #[.slice A n c, .slice B n d] w fun e w' => e = .returned (.bool true) ∧ ∃ j, w' = w.drewN j := by
  have H := Lib.hid h
  have H' := Lib.hid h'
  have hnn : ((n : Int) != n) = false := by simp
  clear h h'
  unfold maxLen at hn
  go_enter Tryd.func19, Tryd.ntmps19
  go_wp2
  go_loopw [13] (fun i wr => ∃ k j : Nat, k ≤ n ∧ i = .int .i64 k ∧ wr = w.drewN j) (fun i _ => n - (intOf i).toNat)
  case atStart => exact ⟨0, 0, Nat.zero_le _, rfl, rfl⟩
  case round =>
    obtain ⟨k, j, hk, rfl, rfl⟩ := hrel
    by_cases hlt : k < n
    · obtain ⟨b, off, rfl, hb, c0, c1, c2⟩ := items_at H.out hlt
      obtain ⟨b', off', rfl, hb', e0, e1, e2⟩ := items_at H'.out hlt
      obtain ⟨x, hx⟩ : ∃ x, ls[k]'(by have := H.out.1; omega) = x := ⟨_, rfl⟩
      rw [hx] at c0 c1 c2 e0 e1 e2
      obtain ⟨x0, x1, x2⟩ := x
      dsimp only at c0 c1 c2 e0 e1 e2
      clear hx hb hb'
      go_wp2
      go_quiet (fail)
      go_wp2
      go_roundw
      case rel => exact ⟨k + 1, _, by omega, by go_num, rfl⟩
      case measure => simp [intOf]; omega
    · go_wp2
      go_ret
      exact ⟨rfl, _, rfl⟩

set_option maxHeartbeats 1000000 in
theorem equalAnsQ (A B : Option Addr) (n c d : Nat) (ls : List Ans) (w : World) (h : Rep w w.heap.size 5 Ans.cell A n ls) (h' : Rep w w.heap.size 5 Ans.cell B n ls) (hn : n ≤ maxLen) :
    Calls Tryd.prog 38 #[.slice A n c, .slice B n d] w fun e w' => e = .returned (.bool true) ∧ ∃ j, w' = w.drewN j := by
  have H := Lib.hid h
  have H' := Lib.hid h'
  have hnn : ((n : Int) != n) = false := by simp
  clear h h'
  unfold maxLen at hn
  go_enter Tryd.func38, Tryd.ntmps38
  go_wp2
  go_loopw [13] (fun i wr => ∃ k j : Nat, k ≤ n ∧ i = .int .i64 k ∧ wr = w.drewN j) (fun i _ => n - (intOf i).toNat)
  case atStart => exact ⟨0, 0, Nat.zero_le _, rfl, rfl⟩
  case round =>
    obtain ⟨k, j, hk, rfl, rfl⟩ := hrel
    by_cases hlt : k < n
    · obtain ⟨b, off, rfl, hb, c0, c1, c2, c3, c4⟩ := ans_at H.out hlt
      obtain ⟨b', off', rfl, hb', e0, e1, e2, e3, e4⟩ := ans_at H'.out hlt
      obtain ⟨x, hx⟩ : ∃ x, ls[k]'(by have := H.out.1; omega) = x := ⟨_, rfl⟩
      rw [hx] at c0 c1 c2 c3 c4 e0 e1 e2 e3 e4
      obtain ⟨x0, x1, x2, x3, x4⟩ := x
      dsimp only at c0 c1 c2 c3 c4 e0 e1 e2 e3 e4
      clear hx hb hb'
      go_wp2
      go_quiet (fail)
      go_wp2
      go_roundw
      case rel => exact ⟨k + 1, _, by omega, by go_num, rfl⟩
      case measure => simp [intOf]; omega
    · go_wp2
      go_ret
      exact ⟨rfl, _, rfl⟩
end Go.Proofs.YtphbebcbbfbgpacDoor

namespace Go.Proofs.YtphbebcbbfbgpacDoor
open Go Go.RowKit
set_option linter.unusedSimpArgs false
set_option linter.unusedVariables false

/-- a volume in its block -/
structure VolB (B : Nat) (s1 s2 : Value) (W : World) : Prop where
  a0 : W.cell? ⟨B, 0, none⟩ = some s1
  a1 : W.cell? ⟨B, 1, none⟩ = some s2
  sz : B < W.heap.size
theorem VolB.step {W W' : World} {B : Nat} {s1 s2 : Value} (h : VolB B s1 s2 W) (hb : Below W.heap.size W W') : VolB B s1 s2 W' where
  a0 := (hb.cell h.sz).trans h.a0
  a1 := (hb.cell h.sz).trans h.a1
  sz := Nat.lt_of_lt_of_le h.sz hb.size
theorem VolB.touch {R : Nat → Prop} {W W' : World} {B : Nat} {s1 s2 : Value} (h : VolB B s1 s2 W) (hT : Touch R W W') (hR : ¬ R B) : VolB B s1 s2 W' where
  a0 := (hT.cell h.sz hR).trans h.a0
  a1 := (hT.cell h.sz hR).trans h.a1
  sz := Nat.lt_of_lt_of_le h.sz hT.size
theorem VolB.new (W : World) (s1 s2 : Value) (T : TypeId) : VolB W.heap.size s1 s2 (W.alloc (.cells #[s1, s2] T)) := by
  refine ⟨?_, ?_, by simp⟩
  all_goals simp [go_sem]

/-- the rows that a script hands back -/
structure RunR (base n u q : Nat) (Ax A B : Option Addr) (cx c d : Nat) (xs : List Ans) (us : List Itm) (cs : List Int) (W : World) : Prop where
  hx : n = xs.length
  hu : u = us.length
  hq : q = cs.length
  x : W.ownsRow base 39 5 (.slice Ax n cx) n (flat Ans.cell 5 xs)
  u : W.ownsRow base 42 3 (.slice A u c) u (flat Itm.cell 3 us)
  v : W.ownsRow base 3 1 (.slice B q d) q (flat intCell 1 cs)
section
variable {base n u q : Nat} {Ax A B : Option Addr} {cx c d : Nat} {xs : List Ans} {us : List Itm} {cs : List Int} {W W' W0 : World}
theorem RunR.step (h : RunR base n u q Ax A B cx c d xs us cs W) (hb : Below W.heap.size W W') : RunR base n u q Ax A B cx c d xs us cs W' :=
  ⟨h.hx, h.hu, h.hq, own_below h.x hb, own_below h.u hb, own_below h.v hb⟩
/-- what was there once is kept by what turns later blocks alone -/
theorem RunR.touch {R : Nat → Prop} (h0 : RunR base n u q Ax A B cx c d xs us cs W0) (h : RunR base n u q Ax A B cx c d xs us cs W) (hT : Touch R W W') (hR : ∀ k, R k → W0.heap.size ≤ k) : RunR base n u q Ax A B cx c d xs us cs W' :=
  ⟨h.hx, h.hu, h.hq, own_touch h.x hT (fun g hg e => by have := (h0.x.lt g hg).2; have := hR g e; omega), own_touch h.u hT (fun g hg e => by have := (h0.u.lt g hg).2; have := hR g e; omega), own_touch h.v hT (fun g hg e => by have := (h0.v.lt g hg).2; have := hR g e; omega)⟩
theorem RunR.xrep (h : RunR base n u q Ax A B cx c d xs us cs W) : Rep W W.heap.size 5 Ans.cell Ax n xs := Rep.of_own h.hx h.x (Nat.le_refl _)
theorem RunR.urep (h : RunR base n u q Ax A B cx c d xs us cs W) : Rep W W.heap.size 3 Itm.cell A u us := Rep.of_own h.hu h.u (Nat.le_refl _)
theorem RunR.vrep (h : RunR base n u q Ax A B cx c d xs us cs W) : Rep W W.heap.size 1 intCell B q cs := Rep.of_own h.hq h.v (Nat.le_refl _)
theorem own_max {e : TypeId} {size : Nat} {A : Option Addr} {m c : Nat} {ys : List Value} (h : W.ownsRow base e size (.slice A m c) m ys) : m ≤ maxLen := by
  obtain ⟨_, _, _, h1, h2, _⟩ := own_form h
  omega
end
/-- saltcellartop.run, its results by name -/
theorem trunB (A : Option Addr) (n c k u q : Nat) (ls : List Acn) (ys : List Ans) (us : List Itm) (cs : List Int) (w : World) (h : Rep w w.heap.size 4 Acn.cell A n ls) (hn : n ≤ 300) (hwf : ∀ a ∈ ls, a.wf)
    (hy : (runEs (eng0 8) ls).1 = ys) (hv : (runEs (eng0 8) ls).2.v = (us, cs)) (hk : ys.length = k) (hu : us.length = u) (hq : cs.length = q) :
    Calls Tryd.prog 35 #[.slice A n c] w fun e w' => ∃ Ax cx A4 c4 B4 d4, e = .returned (.tuple #[.slice Ax k cx, .agg #[.slice A4 u c4, .slice B4 q d4], .int .i64 0]) ∧ RunR w.heap.size k u q Ax A4 B4 cx c4 d4 ys us cs w' ∧ Below w.heap.size w w' := by
  have := trun_any A n c ls w h hn hwf
  unfold TRunPost at this
  rw [hy, hv] at this
  refine this.mono ?_
  rintro e w' ⟨Ax, cx, A4, c4, B4, d4, rfl, p0, p1, p2, hb⟩
  dsimp only at p0 p1 p2
  rw [hk] at p0
  rw [hu] at p1
  rw [hq] at p2
  refine ⟨Ax, cx, A4, c4, B4, d4, ?_, ⟨hk.symm, hu.symm, hq.symm, p0, p1, p2⟩, hb⟩
  dsimp only
  rw [hk, hu, hq]
theorem quiet_more {P : Program} {f : FuncId} {args : Array Value} {w : World} {n : Nat} {v : Value} (h : Calls P f args (w.drewN n) fun e w' => e = .returned v ∧ ∃ j, w' = (w.drewN n).drewN j) :
    Calls P f args (w.drewN n) fun e w'' => e = .returned v ∧ ∃ m, w'' = w.drewN m :=
  h.mono fun _ _ ⟨he, j, hj⟩ => ⟨he, n + j, by rw [hj, World.drewN_drewN]⟩
theorem wf_kind (k : Int) (h : i64Ok k) : Acn.wf (kindA k) := ⟨h, rfl, str_small ⟨#[]⟩ (by decide), rfl⟩
end Go.Proofs.YtphbebcbbfbgpacDoor
