/- saltcellarkeep.Writes: writes out of raw numbers, in order of their blocks. saltcellarkeep.records: transactions out of raw numbers, and their bytes. -/
import Derived.Test.YtphbebcbbfbgpabDoorContainsW
import Derived.Test.YtphbebcbbfbgpabDoorSortW
import Derived.Test.YtphbebcbbfbgpabDoorData
import Derived.Test.YtphbebcbbfbgpabDoorBytes
import Derived.Test.YtphbebcbbfbgpabDoorSameDeals
import Derived.Test.YtphbebcbbfbgpabDoorLogFirstP
import Derived.Deep.RegionHeld3
import Derived.Test.YtphbebcbbfbgpabDoorEngCrashed
import Derived.Test.YtphbebcbbfbgpabDoorRepBlock
namespace Go.Proofs.YtphbebcbbfbgpabDoor
open Go Go.RowKit Go.Sort Go.Shelf
set_option linter.unusedSimpArgs false
set_option linter.unusedVariables false

/-- what the writes out of raw numbers are like -/
structure RawW (ws : List Wrt) (nb : Nat) : Prop where
  len : ws.length ≤ 12
  rng : ∀ x ∈ ws, 0 ≤ x.block ∧ x.block < nb
  data : ∀ x ∈ ws, ∃ r, x.data = dataR r
  asc : ws.Pairwise (fun x y => x.block < y.block)
theorem RawW.good {ws : List Wrt} {nb : Nat} (h : RawW ws nb) : GoodW ws nb :=
  ⟨h.len, fun x hx => (h.rng x hx).1, fun x hx => (h.rng x hx).2, fun x hx => by obtain ⟨r, e⟩ := h.data x hx; rw [e]; have := dataR_size r; omega, h.asc⟩
def WritesPost (w : World) (n nb : Nat) (e : Ending) (w' : World) : Prop :=
  ∃ A c ws, e = .returned (.slice A ws.length c) ∧ ws.length ≤ n ∧ (0 < n → 0 < ws.length) ∧ RawW ws nb ∧ w'.ownsRow w.heap.size 78 2 (.slice A ws.length c) ws.length (flat Wrt.cell 2 ws) ∧ Below w.heap.size w w'

theorem keepS {R : Nat → Prop} {w6 w7 : World} (hT : Touch R w6 w7) {q b o : Nat} (hq : q < w6.heap.size) (hb : b < w6.heap.size) (nq : ¬ R q) (nb : ¬ R b) {u0 u1 u2 u3 u4 : Value}
    (h : w6.cell? ⟨q, 0, none⟩ = some u0 ∧ w6.cell? ⟨b, o, none⟩ = some u1 ∧ w6.cell? ⟨b, o + 1, none⟩ = some u2 ∧ w6.cell? ⟨b, o + 2, none⟩ = some u3 ∧ w6.cell? ⟨b, o + 3, none⟩ = some u4) :
    w7.cell? ⟨q, 0, none⟩ = some u0 ∧ w7.cell? ⟨b, o, none⟩ = some u1 ∧ w7.cell? ⟨b, o + 1, none⟩ = some u2 ∧ w7.cell? ⟨b, o + 2, none⟩ = some u3 ∧ w7.cell? ⟨b, o + 3, none⟩ = some u4 :=
  ⟨(hT.cell (p := ⟨q, 0, none⟩) hq nq).trans h.1, (hT.cell (p := ⟨b, o, none⟩) hb nb).trans h.2.1, (hT.cell (p := ⟨b, o + 1, none⟩) hb nb).trans h.2.2.1, (hT.cell (p := ⟨b, o + 2, none⟩) hb nb).trans h.2.2.2.1, (hT.cell (p := ⟨b, o + 3, none⟩) hb nb).trans h.2.2.2.2⟩

set_option maxRecDepth 100000 in
set_option maxHeartbeats 4000000 in
theorem writesK_any (A : Option Addr) (n c nb : Nat) (ls : List Raw) (w : World) (h : Rep w w.heap.size 4 Raw.cell A n ls) (hn : n ≤ maxLen) (hwf : ∀ a ∈ ls, a.wf) (h0 : 0 < nb) (hnb : nb ≤ 100) :
    Calls Tryd.prog 22 #[.slice A n c, .int .i64 nb] w (WritesPost w n nb) := by
  have hmf : ∀ (fn : Fn) (first cap : Array Value) (w : World), (Instr.makeFunc fn first cap).run Tryd.prog w = .ok (.func fn first cap) w := fun _ _ _ _ => rfl
  have H := Lib.hid h
  have HL := Lib.hid h.1
  have HWF := Lib.hid hwf
  obtain ⟨i0, ii, iz0, iz1, iz2⟩ := info_parts infoWrite
  have II := Lib.hid ii
  have IZ0 := Lib.hid iz0
  have IZ1 := Lib.hid iz1
  have IZ2 := Lib.hid iz2
  unfold maxLen at hn
  clear h hwf ii iz0 iz1 iz2
  go_enter Tryd.func22, Tryd.ntmps22
  go_wp2
  go_loopw [5, 6] (fun v t wr => ∃ (i k : Nat) (ws : List Wrt), i ≤ n ∧ t = .int .i64 i ∧ ws.length = k ∧ k ≤ 12 ∧ k ≤ i ∧ (0 < i → 0 < k) ∧ Hid ((∀ x ∈ ws, (0 ≤ x.block ∧ x.block < nb) ∧ ∃ r, x.data = dataR r) ∧ (ws.map (·.block)).Nodup) ∧ wr.ownsRow w.heap.size 78 2 v k (flat Wrt.cell 2 ws) ∧ Below w.heap.size w wr) (fun _ t _ => n - (intOf t).toNat)
  case atStart => exact ⟨0, 0, [], Nat.zero_le _, rfl, rfl, Nat.zero_le _, Nat.zero_le _, fun h => absurd h (by omega), Lib.hid (by simp), World.ownsRow_nil _ _ _ _, Below.refl _ _⟩
  case round =>
    obtain ⟨i, k, ws, hi, rfl, hk, hk12, hki, hpos, hws, hown, hbel⟩ := hrel
    obtain ⟨Ao, co, rfl⟩ := own_slice2 hown
    have HO := Lib.hid hown
    have HB := Lib.hid hbel
    have HK := Lib.hid hk
    by_cases hlt : i < n ∧ k < 12
    · obtain ⟨hlt, hlt2⟩ := hlt
      obtain ⟨b, off, rfl, hb, a0, a1, a2, a3⟩ := raws_at (k := i) (H.out.below hbel (Nat.le_refl _)) hlt
      have hil : i < ls.length := by have := HL.out; omega
      have hwa := HWF.out _ (List.getElem_mem hil)
      obtain ⟨r, hr⟩ : ∃ r, ls[i]'hil = r := ⟨_, rfl⟩
      rw [hr] at a0 a1 a2 a3 hwa
      have hdat := fun W => data_any r W hwa
      have hds := dataR_size r
      obtain ⟨s, hs⟩ : ∃ s, dataR r = s := ⟨_, rfl⟩
      rw [hs] at hdat hds
      have hpk : ∀ W, Calls Tryd.prog 17 #[.int .i64 r.c, .int .i64 nb] W fun e w' => e = .returned (.int .i64 (pickN r.c nb)) ∧ W = w' := fun W => picked_any r.c nb W hwa.2.2.2 h0 (by omega)
      have hpl := pickN_lt r.c h0
      obtain ⟨p, hp⟩ : ∃ p, pickN r.c nb = p := ⟨_, rfl⟩
      rw [hp] at hpk hpl
      have HDS : Hid (∃ r, s = dataR r) := Lib.hid ⟨r, hs.symm⟩
      obtain ⟨rk, ra, rb, rc⟩ := r
      dsimp only at a0 a1 a2 a3 hdat hpk
      have HDAT := Lib.hid hdat
      have HPK := Lib.hid hpk
      obtain ⟨q, hq⟩ : ∃ q, wr.heap.size = q := ⟨_, rfl⟩
      obtain ⟨wb, hwb⟩ : ∃ wb, wb = wr.alloc (.cells #[.int .i64 p] 3) := ⟨_, rfl⟩
      have hbb : Below wr.heap.size wr wb := by rw [hwb]; exact (Below.refl _ _).alloc (Nat.le_refl _) _
      have hcb : wb.cell? ⟨q, 0, none⟩ = some (.int .i64 p) := by rw [hwb, ← hq]; simp [go_sem]
      have hqb : q < wb.heap.size := by rw [hwb, ← hq]; simp
      have hob := own_below hown hbb
      have hbw := hbel.trans (hbb.mono hbel.size)
      have hog : ∀ g, (Value.slice Ao k co).ownBlock = some g → g ≠ q := fun g hg e => by have := (hown.lt g hg).2; omega
      have hkeep : ∀ W, Below wb.heap.size wb W → W.cell? ⟨q, 0, none⟩ = some (.int .i64 p) ∧ W.cell? ⟨b, off + i * 4, none⟩ = some (.int .i64 rk) ∧ W.cell? ⟨b, off + i * 4 + 1, none⟩ = some (.int .i64 ra) ∧ W.cell? ⟨b, off + i * 4 + 2, none⟩ = some (.int .i64 rb) ∧ W.cell? ⟨b, off + i * 4 + 3, none⟩ = some (.int .i64 rc) := fun W hW => by
        have hW' : Below wr.heap.size wr W := hbb.trans (hW.mono hbb.size)
        have hbr : b < wr.heap.size := Nat.lt_of_lt_of_le hb hbel.size
        exact ⟨(hW.cell (p := ⟨q, 0, none⟩) hqb).trans hcb, (hW'.cell (p := ⟨b, off + i * 4, none⟩) hbr).trans a0, (hW'.cell (p := ⟨b, off + i * 4 + 1, none⟩) hbr).trans a1, (hW'.cell (p := ⟨b, off + i * 4 + 2, none⟩) hbr).trans a2, (hW'.cell (p := ⟨b, off + i * 4 + 3, none⟩) hbr).trans a3⟩
      have HCON := Lib.hid (containsW p q Ao k co ws wb (Rep.of_own hk.symm hob (Nat.le_refl _)) (by omega) hcb hqb)
      have HKEEP := Lib.hid hkeep
      have HOB := Lib.hid hob
      have HBW := Lib.hid hbw
      have HWB := Lib.hid hwb
      have HOG := Lib.hid hog
      have HQ := Lib.hid hq
      have HQB := Lib.hid hqb
      have HBB := Lib.hid hbb
      have HBR : Hid (b < w.heap.size) := Lib.hid hb
      clear hdat hpk hr hs hp hwa hwb hbb hcb hob hbw hog hkeep hbel hown hb hqb
      go_upto_region 6 with (go_at_call 17; (with_reducible refine (HPK.out _).mono ?_); rintro e w' ⟨rfl, rfl⟩)
      rw [← HWB.out]
      clear a0 a1 a2 a3 hq
      go_wp2_with fail
      with_reducible refine HCON.out.mono ?_
      rintro e w5 ⟨hb5, ⟨rfl, hall⟩ | ⟨rfl, hmem⟩⟩
      · have HB5 := Lib.hid hb5
        have hnew : (∀ x ∈ ws ++ [(⟨p, s⟩ : Wrt)], (0 ≤ x.block ∧ x.block < (nb : Int)) ∧ ∃ r, x.data = dataR r) ∧ ((ws ++ [(⟨p, s⟩ : Wrt)]).map (·.block)).Nodup := by
          refine ⟨fun x hx => ?_, ?_⟩
          · rcases List.mem_append.1 hx with hx | hx
            · exact hws.out.1 x hx
            · rw [List.mem_singleton.1 hx]
              exact ⟨⟨by simp, by simp; omega⟩, HDS.out⟩
          · rw [List.map_append, List.nodup_append]
            refine ⟨hws.out.2, by simp, fun x hx y hy e => ?_⟩
            obtain ⟨z, hz, rfl⟩ := List.mem_map.1 hx
            simp only [List.map_cons, List.map_nil, List.mem_singleton] at hy
            exact hall z hz (by rw [e, hy])
        have HNEW := Lib.hid hnew
        clear hb5 hall hnew
        go_upto_region 7 with (fail)
        go_region_held3 (fun W => W.cell? ⟨q, 0, none⟩ = some (.int .i64 p) ∧ W.cell? ⟨b, off + i * 4, none⟩ = some (.int .i64 rk) ∧ W.cell? ⟨b, off + i * 4 + 1, none⟩ = some (.int .i64 ra) ∧ W.cell? ⟨b, off + i * 4 + 2, none⟩ = some (.int .i64 rb) ∧ W.cell? ⟨b, off + i * 4 + 3, none⟩ = some (.int .i64 rc)) (first | exact HK7.out | (refine HKEEP.out _ ?_; (repeat (first | with_reducible exact HB6.out | with_reducible exact HB5.out | with_reducible exact Below.refl _ _ | with_reducible refine Below.drew ?_ | (with_reducible refine Below.alloc ?_ ?_ _) | with_reducible exact HB6.out.size | with_reducible exact HB5.out.size)))) (first | (go_at_call 19; (with_reducible refine (HDAT.out _).mono ?_); rintro e w6 ⟨rfl, hb6⟩; have HB6 : Hid (Below wb.heap.size wb w6) := Lib.hid (HB5.out.drew.trans (hb6.mono HB5.out.drew.size)); have HO6 := Lib.hid (own_below HOB.out HB6.out); clear hb6) | (refine step_append_own rfl (.tmp 30) (.tmp 38) 60 rfl w.heap.size 78 i0 _ 2 24 Tryd.underlying60 II.out IZ0.out IZ1.out IZ2.out rfl (by decide) _ _ _ (by simp [Act.eval]) (HO6.out.alloc _) ⟨w6.heap.size, 0, none⟩ 1 1 [.int .i64 p, .string s] (by simp [Act.eval]) rfl (World.news_of_block (cs := #[.int .i64 p, .string s]) (t := 78) (fr := (0, 0)) (heap_alloc_new w6 _)) (by simp [Value.oneCell']) (by unfold maxLen; omega) (by omega) ((HBW.out.trans (HB6.out.mono HBW.out.size)).alloc (HBW.out.trans (HB6.out.mono HBW.out.size)).size _).size ?_; intro v' w7 hown7 hgr7; have HT7 : Hid (Touch (fun j => (Value.slice Ao k co).ownBlock = some j) w6 w7) := Lib.hid ((Touch.below ((Below.refl _ _).alloc (Nat.le_refl _) _)).trans (Touch.grown hgr7 (fun j hj => hj))); have HK7 := Lib.hid (keepS HT7.out (Nat.lt_of_lt_of_le HQB.out HB6.out.size) (Nat.lt_of_lt_of_le HBR.out (HBW.out.trans (HB6.out.mono HBW.out.size)).size) (fun e => HOG.out _ e rfl) (fun e => by have := (HO6.out.lt b e).1; have := HBR.out; omega) (HKEEP.out w6 HB6.out)); have HO7 := Lib.hid hown7; clear hown7 hgr7))
        all_goals
          have ho7 : w7.ownsRow w.heap.size 78 2 v' (k + 1) (flat Wrt.cell 2 (ws ++ [(⟨p, s⟩ : Wrt)])) := by
            rw [flat_append, wrt_flat1]; exact HO7.out
          have hb67 := HBW.out.trans (HB6.out.mono HBW.out.size)
          have HB7 := Lib.hid (hb67.trans (HT7.out.toBelow hb67.size (fun j hj => (HO6.out.lt j hj).1)))
          have HO8 := Lib.hid ho7
          clear ho7 hb67
          go_wp2
          go_roundw
          case rel => exact ⟨i + 1, k + 1, _, by omega, by go_num, by rw [List.length_append, HK.out]; rfl, by omega, by omega, fun _ => by omega, HNEW, HO8.out, HB7.out⟩
          case measure => simp [intOf]; omega
      · have hmem2 := hmem
        have hp1 : 0 < k := by
          obtain ⟨x, hx, _⟩ := hmem2
          rw [← HK.out]; exact List.length_pos_of_mem hx
        have HO5 := Lib.hid (own_below HOB.out hb5)
        have HB5 := Lib.hid (HBW.out.trans (hb5.mono HBW.out.size))
        clear hmem hmem2 hb5
        go_wp2
        go_roundw
        case rel => exact ⟨i + 1, k, ws, by omega, by go_num, HK.out, hk12, by omega, fun _ => hp1, hws, HO5.out, HB5.out⟩
        case measure => simp [intOf]; omega
    · have hfull : 0 < n → 0 < k := fun h => by
        by_cases h1 : i < n
        · have : ¬ k < 12 := fun h2 => hlt ⟨h1, h2⟩
          omega
        · exact hpos (by omega)
      have hkn : k ≤ n := by omega
      have HB1 := Lib.hid hbel
      have HSO := Lib.hid (sortW_any Ao k co w.heap.size ws wr hown hk (by omega) (fun x hx => ⟨(hws.out.1 x hx).1.1, by have := (hws.out.1 x hx).1.2; omega⟩) hws.out.2 hbel.size)
      have HFU := Lib.hid hfull
      have hfin : ∀ (e : Ending) (w' : World), (∃ ws' : List Wrt, ws'.Perm ws ∧ ws'.Pairwise (fun x y => x.block < y.block) ∧ w'.ownsRow w.heap.size 78 2 (.slice Ao k co) k (flat Wrt.cell 2 ws') ∧ Below w.heap.size wr w') → e = .returned (.slice Ao k co) → WritesPost w n nb e w' := by
        rintro e w' ⟨ws', q1, q2, q3, q4⟩ rfl
        have hl : ws'.length = k := by rw [q1.length_eq, HK.out]
        refine ⟨Ao, co, ws', by rw [hl], by rw [hl]; exact hkn, fun h => by rw [hl]; exact HFU.out h, ⟨by rw [hl]; omega, fun x hx => (hws.out.1 x (q1.mem_iff.1 hx)).1, fun x hx => (hws.out.1 x (q1.mem_iff.1 hx)).2, q2⟩, by rw [hl]; exact q3, HB1.out.trans q4⟩
      have HFIN := Lib.hid hfin
      clear hown hbel hfull hfin hk
      by_cases h1 : i < n
      · have h2 : k = 12 := by omega
        obtain rfl : k = 12 := by omega
        go_wp2_with fail
        refine HSO.out.mono ?_
        rintro e w2 ⟨rfl, hex⟩
        have HE := Lib.hid hex
        clear hex
        go_wp2
        go_ret
        exact HFIN.out _ _ HE.out rfl
      · go_wp2_with fail
        with_reducible refine HSO.out.mono ?_
        rintro e w2 ⟨rfl, hex⟩
        have HE := Lib.hid hex
        clear hex
        go_wp2
        go_ret
        exact HFIN.out _ _ HE.out rfl
end Go.Proofs.YtphbebcbbfbgpabDoor

namespace Go.Proofs.YtphbebcbbfbgpabDoor
open Go Go.RowKit
set_option linter.unusedSimpArgs false
set_option linter.unusedVariables false

def lenR : Value → Nat
  | .slice _ n _ => n
  | _ => 0
theorem own_grown {w w' : World} {base b2 n s2 m size : Nat} {T e : TypeId} {v u : Value} {xs ys : List Value} (h : w.ownsRow base e size u m ys) (ho : w.ownsRow b2 T s2 v n xs) (hT : e ≠ T) (hg : w.grownBy w' v.ownBlock) : w'.ownsRow base e size u m ys := by
  refine h.kept hg ?_
  cases hb : u.ownBlock with
  | none => exact .inl rfl
  | some g1 =>
    cases hb2 : v.ownBlock with
    | none => exact .inr (by simp)
    | some g2 => exact .inr (fun e => own_apart h ho hT g1 g2 hb hb2 (by simpa using e))
/-- the bytes of transactions, each on its own -/
def recB (ds : List (List Wrt)) : List ByteArray := ds.map (fun d => bstr (recL d))
structure Short4 (ds : List (List Wrt)) : Prop where
  raw : ∀ d ∈ ds, RawW d 16
  few : ∀ d ∈ ds, d.length ≤ 4
theorem Short4.snoc {ds : List (List Wrt)} {d : List Wrt} (h : Short4 ds) (hr : RawW d 16) (hf : d.length ≤ 4) : Short4 (ds ++ [d]) := by
  refine ⟨fun x hx => ?_, fun x hx => ?_⟩
  · rcases List.mem_append.1 hx with hx | hx
    · exact h.raw x hx
    · rw [List.mem_singleton.1 hx]; exact hr
  · rcases List.mem_append.1 hx with hx | hx
    · exact h.few x hx
    · rw [List.mem_singleton.1 hx]; exact hf
/-- Transactions and their bytes that a call hands back. -/
structure RecsF (w : World) (m : Nat) (v u : Value) (vs : List Value) (ds : List (List Wrt)) (W : World) : Prop where
  n : m = ds.length
  sh : Short4 ds
  ov : W.ownsRow w.heap.size 60 1 v m vs
  dl : DealsIn W w.heap.size vs ds
  os : W.ownsRow w.heap.size 9 1 u m (flat (fun (x : ByteArray) (_ : Nat) => Value.string x) 1 (recB ds))
  be : Below w.heap.size w W
theorem RecsF.below {w W W' : World} {m : Nat} {v u : Value} {vs : List Value} {ds : List (List Wrt)} (h : RecsF w m v u vs ds W) (hb : Below W.heap.size W W') : RecsF w m v u vs ds W' :=
  ⟨h.n, h.sh, own_below h.ov hb, h.dl.below hb, own_below h.os hb, h.be.trans (hb.mono h.be.size)⟩
def RecsPost (w : World) (n : Nat) (e : Ending) (w' : World) : Prop :=
  ∃ A c B d m vs ds, e = .returned (.tuple #[.slice A m c, .slice B m d]) ∧ 4 * m ≤ n + 3 ∧ RecsF w m (.slice A m c) (.slice B m d) vs ds w'

set_option maxRecDepth 100000 in
set_option maxHeartbeats 4000000 in
theorem records_any (A : Option Addr) (n c : Nat) (ls : List Raw) (w : World) (h : Rep w w.heap.size 4 Raw.cell A n ls) (hn : n ≤ 4398046511104) (hc : n ≤ c) (hc64 : c ≤ maxLen) (hwf : ∀ a ∈ ls, a.wf) :
    Calls Tryd.prog 14 #[.slice A n c] w (RecsPost w n) := by
  have H := Lib.hid h
  have HWF := Lib.hid hwf
  unfold maxLen at hc64
  obtain ⟨i0, hi, hz0, hz1, hz2⟩ := info_parts infoWrites
  obtain ⟨s0, hsi, hsz0, hsz1, hsz2⟩ := info_parts infoStr
  have HI := Lib.hid hi
  have HZ0 := Lib.hid hz0
  have HZ1 := Lib.hid hz1
  have HZ2 := Lib.hid hz2
  have SI := Lib.hid hsi
  have SZ0 := Lib.hid hsz0
  have SZ1 := Lib.hid hsz1
  have SZ2 := Lib.hid hsz2
  clear h hwf hi hz0 hz1 hz2 hsi hsz0 hsz1 hsz2
  go_enter Tryd.func14, Tryd.ntmps14
  go_upto_region 3 with (fail)
  go_loopw [0, 4, 5] (fun v x y wr => ∃ (A' : Option Addr) (n' c' : Nat) (ls' : List Raw) (m : Nat) (vs : List Value) (ds : List (List Wrt)), v = .slice A' n' c' ∧ n' ≤ c' ∧ c' ≤ c ∧ (4 * m + n' ≤ n + 3 ∧ (0 < n' → 4 * m + n' = n)) ∧ Hid (Rep w w.heap.size 4 Raw.cell A' n' ls' ∧ (∀ a ∈ ls', a.wf)) ∧ Hid (RecsF w m x y vs ds wr)) (fun v _ _ _ => lenR v)
  case atStart => exact ⟨A, n, c, ls, 0, [], [], rfl, hc, Nat.le_refl _, ⟨by omega, fun _ => by omega⟩, Lib.hid ⟨H.out, HWF.out⟩, Lib.hid ⟨rfl, ⟨by simp, by simp⟩, World.ownsRow_nil _ _ _ _, DealsIn.nil _ _, World.ownsRow_nil _ _ _ _, Below.refl _ _⟩⟩
  case round =>
    obtain ⟨A', n', c', ls', m, vs, ds, rfl, hnc, hcc, ⟨hmn, hmp⟩, hrep, HF⟩ := hrel
    by_cases hpos : 0 < n'
    · obtain ⟨b, off, rfl, hb, _⟩ := hrep.out.1.2 hpos
      obtain ⟨q, hq⟩ : ∃ q, (if 4 ≤ n' then 4 else n') = q := ⟨_, rfl⟩
      have hqn : q ≤ n' := by rw [← hq]; split <;> omega
      have hq0 : 0 < q := by rw [← hq]; split <;> omega
      have hq4 : q ≤ 4 := by rw [← hq]; split <;> omega
      have hqs : 4 ≤ n' → q = 4 := fun h => by rw [← hq, if_pos h]
      have hm4 := hmp hpos
      clear hmp
      have hqm : min (4 : Int) (n' : Int) = (q : Int) := by rw [← hq]; split <;> omega
      have htk : (ls'.take q).length = q := by have := hrep.out.1.1; rw [List.length_take]; omega
      obtain ⟨A4, c4, rfl⟩ := own_slice2 HF.out.ov
      obtain ⟨A5, c5, rfl⟩ := own_slice2 HF.out.os
      have hwr : Calls Tryd.prog 22 #[.slice (some ⟨b, off, none⟩) q c', .int .i64 16] wr fun e w' => ∃ Aw k cw ws, e = .returned (.slice Aw k cw) ∧ k = ws.length ∧ k ≤ 4 ∧ RawW ws 16 ∧ w'.ownsRow wr.heap.size 78 2 (.slice Aw k cw) k (flat Wrt.cell 2 ws) ∧ Below wr.heap.size wr w' := by
        have hx : Calls Tryd.prog 22 #[.slice (some ⟨b, off, none⟩) q c', .int .i64 16] wr (WritesPost wr q 16) := writesK_any (some ⟨b, off, none⟩) q c' 16 (ls'.take q) wr (((hrep.out.1.taken hqn).below HF.out.be (Nat.le_refl _)).mono HF.out.be.size) (by unfold maxLen; omega) (fun a ha => hrep.out.2 a (List.mem_of_mem_take ha)) (by omega) (by omega)
        refine hx.mono ?_
        rintro e w' ⟨Aw, cw, ws, rfl, hle, _, hww, how, hb⟩
        exact ⟨Aw, _, cw, ws, rfl, rfl, by omega, hww, how, hb⟩
      have HWR := Lib.hid hwr
      have hdrop : Rep w w.heap.size 4 Raw.cell (if c' = q then some ⟨b, off, none⟩ else some ⟨b, off + q * 4, none⟩) (n' - q) (ls'.drop q) := by
        split
        · exact ⟨by rw [List.length_drop, hrep.out.1.1], fun hp => absurd hp (by omega)⟩
        · exact hrep.out.1.dropped hqn
      have HD := Lib.hid (And.intro hdrop (fun a (ha : a ∈ ls'.drop q) => hrep.out.2 a (List.mem_of_mem_drop ha)))
      have HQS := Lib.hid hqs
      clear hq htk hwr hb hdrop hqs
      have hqc : q ≤ c' := by omega
      go_wp2_with fail
      with_reducible refine HWR.out.mono ?_
      rintro e w2 ⟨Aw, k, cw, ws, rfl, hk, hk4, hww, how, hb2⟩
      have hrec : Calls Tryd.prog 23 #[.slice Aw k cw, .int .i64 16] w2 fun e w' => e = .returned (.tuple #[.string (bstr (recL ws)), .int .i64 0]) ∧ Below w2.heap.size w2 w' := by
        have hx : Calls Tryd.prog 23 #[.slice Aw k cw, .int .i64 16] w2 fun e w' => RecPost ws 16 e ∧ Below w2.heap.size w2 w' := record_any Aw k cw 16 ws w2 (Rep.of_own hk how (Nat.le_refl _)) (by unfold maxLen; omega) (by omega)
        have hz : writesK ws 16 = 0 := writesK_zero.2 hww.good
        refine hx.mono ?_
        rintro e w' ⟨he, hb⟩
        unfold RecPost recR at he
        rw [hz, if_pos rfl] at he
        exact ⟨he, hb⟩
      obtain ⟨z, hz⟩ : ∃ z, bstr (recL ws) = z := ⟨_, rfl⟩
      rw [hz] at hrec
      have HREC := Lib.hid hrec
      have HF2 := Lib.hid (HF.out.below hb2)
      have HWO2 := Lib.hid (own_mono how HF.out.be.size)
      have HK := Lib.hid (And.intro hk (And.intro hk4 (And.intro hww hz)))
      clear hrec hb2 how hk hww hz
      go_wp2_with fail
      with_reducible refine HREC.out.mono ?_
      rintro e w3 ⟨rfl, hb3⟩
      have hf3 := HF2.out.below hb3
      have hwo3 := own_below HWO2.out hb3
      have HF3 := Lib.hid hf3
      have hdl3 : DealsIn w3 w.heap.size (vs ++ [.slice Aw k cw]) (ds ++ [ws]) := by
        have e := HK.out.1
        subst e
        exact hf3.dl.snoc hwo3
      have HDL3 := Lib.hid hdl3
      clear hb3 hf3 hwo3 hdl3
      go_wp2_with (first | (at_builtin; refine wpList_append_own _ rfl (.tmp 27) (.tmp 29) 46 rfl w.heap.size 60 i0 _ 1 24 Tryd.underlying46 HI.out HZ0.out HZ1.out HZ2.out rfl (by decide) _ _ _ rfl (HF3.out.ov.alloc _) ⟨w3.heap.size, 0, none⟩ 1 1 [.slice Aw k cw] rfl rfl (World.news_of_block (cs := #[.slice Aw k cw]) (t := 60) (fr := (0, 0)) (heap_alloc_new w3 _)) (by simp [Value.oneCell']) (by unfold maxLen; omega) (by omega) (by have := HF3.out.be.size; simp; omega) ?_; intro v' w4 hown4 hgr4 _; have hal4 := (Below.refl w3.heap.size w3).alloc (Nat.le_refl _) (.cells #[.slice Aw k cw] 60); have HS4 := Lib.hid (own_grown (own_below HF3.out.os hal4) (HF3.out.ov.alloc _) (by decide) hgr4); have HD4 := Lib.hid ((HDL3.out.below hal4).grown (HF3.out.ov.alloc _) (by decide) hgr4); have HO4 := Lib.hid hown4; have HB4 := Lib.hid ((HF3.out.be.alloc HF3.out.be.size _).grown hgr4 (by have := HF3.out.be.size; simp; omega) (fun k hk => (HF3.out.ov.lt k hk).1)); clear hgr4 hown4 hal4) | (at_builtin; refine wpList_append_own _ rfl (.tmp 31) (.tmp 33) 27 rfl w.heap.size 9 s0 _ 1 16 Tryd.underlying27 SI.out SZ0.out SZ1.out SZ2.out rfl (by decide) _ _ _ rfl (HS4.out.alloc _) ⟨w4.heap.size, 0, none⟩ 1 1 [.string z] rfl rfl (World.news_of_block (cs := #[.string z]) (t := 9) (fr := (0, 0)) (heap_alloc_new w4 _)) (by simp [Value.oneCell']) (by unfold maxLen; omega) (by omega) (by have := HB4.out.size; simp; omega) ?_; intro v'' w5 hown5 hgr5 _; have hal5 := (Below.refl w4.heap.size w4).alloc (Nat.le_refl _) (.cells #[.string z] 9); have HO5 := Lib.hid (own_grown (own_below HO4.out hal5) (HS4.out.alloc _) (by decide) hgr5); have HD5 := Lib.hid ((HD4.out.below hal5).grown (HS4.out.alloc _) (by decide) hgr5); have HS5 := Lib.hid hown5; have HB5 := Lib.hid ((HB4.out.alloc HB4.out.size _).grown hgr5 (by have := HB4.out.size; simp; omega) (fun k hk => (HS4.out.lt k hk).1)); clear hgr5 hown5 hal5))
      have hs5 : w5.ownsRow w.heap.size 9 1 v'' (m + 1) (flat (fun (x : ByteArray) (_ : Nat) => Value.string x) 1 (recB (ds ++ [ws]))) := by
        rw [recB, List.map_append, flat_append, List.map_singleton, HK.out.2.2.2]
        exact HS5.out
      have HFIN : Hid (RecsF w (m + 1) v' v'' (vs ++ [.slice Aw k cw]) (ds ++ [ws]) w5) := Lib.hid ⟨by rw [List.length_append, HF.out.n]; rfl, HF.out.sh.snoc HK.out.2.2.1 (by rw [← HK.out.1]; exact hk4), HO5.out, HD5.out, hs5, HB5.out⟩
      clear hs5
      go_roundw
      case rel => exact ⟨_, _, _, ls'.drop q, m + 1, _, _, rfl, by omega, by omega, ⟨by omega, fun h => by have := HQS.out; omega⟩, HD, HFIN⟩
      case measure =>
        simp only [lenR, go_sem]
        omega
    · have hn0 : n' = 0 := by omega
      subst hn0
      obtain ⟨A4, c4, rfl⟩ := own_slice2 HF.out.ov
      obtain ⟨A5, c5, rfl⟩ := own_slice2 HF.out.os
      go_wp2
      go_ret2
      exact ⟨A4, c4, A5, c5, m, vs, ds, rfl, by omega, HF.out⟩
end Go.Proofs.YtphbebcbbfbgpabDoor
