/- A string turned to bytes and back. The law LogsSpoilt returns true for all raw numbers. -/
import Derived.Test.YtphbebcbbfbgpabDoorPlainEight
import Derived.Lib.ConvBytes
import Derived.Test.YtphbebcbbfbgpabDoorPlainSpoilt
namespace Go.Proofs.YtphbebcbbfbgpabDoor
open Go Go.RowKit

theorem conv_to (s : ByteArray) (w : World) : (convert 9 53 (.string s)).run Tryd.prog w = .ok (.slice (some ⟨w.heap.size, 0, none⟩) s.size (grownCap w s.size 0 5)) (Lib.bytesWorld w 5 s) :=
  Lib.run_convert_string_bytes w _ _ _ s Tryd.underlying9 Tryd.underlying53 Tryd.underlying5
theorem bw_below (w : World) (e : TypeId) (s : ByteArray) : Below w.heap.size w (Lib.bytesWorld w e s) := by
  refine ⟨?_, ?_, ?_, ?_, fun k hk => Lib.bytesWorld_at_old w e s k hk⟩
  · simp [Lib.bytesWorld, World.freeze, World.alloc, World.drew, -World.alloc_eq, -World.drew_eq]
  · simp [Lib.bytesWorld, World.freeze, World.alloc, World.drew, -World.alloc_eq, -World.drew_eq]
  · simp [Lib.bytesWorld, World.freeze, World.alloc, World.drew, -World.alloc_eq, -World.drew_eq]
  · rw [Lib.bytesWorld_size]; omega
theorem bw_frozen (w : World) (e : TypeId) (s : ByteArray) (j : Nat) (hj : j < s.size) : (Lib.bytesWorld w e s).frozen? ⟨w.heap.size, j, none⟩ = false := by
  have hs : s.size ≤ (Lib.bytesCells w e s).size := by simp [Lib.bytesCells]
  simp [World.frozen?, Lib.bytesWorld_at_new]
  omega
theorem conv_back (w : World) (b n c : Nat) (l : Bs) (hn : l.length = n) (h : ∀ i (hi : i < l.length), w.cell? ⟨b, i, none⟩ = some (.int .u8 (l[i].toNat : Nat))) :
    (convert 53 9 (.slice (some ⟨b, 0, none⟩) n c)).run Tryd.prog w = .ok (.string (bstr l)) w := by
  have e : strOfNums (l.map fun b => (b.toNat : Int)) = bstr l := by
    apply str_ext
    rw [bstr_list, strOfNums_data, List.map_map]
    conv => rhs; rw [← List.map_id l]
    exact List.map_congr_left (fun x _ => by simp)
  have := run_convert_bytes_arg (P := Tryd.prog) (w := w) _ _ Tryd.underlying53 Tryd.underlying5 b 0 n c (l.map fun b => (b.toNat : Int)) (by rw [List.length_map, hn]) (fun i hi => by
    rw [Nat.zero_add, h i (by omega)]
    simp [List.getD, List.getElem?_eq_getElem (show i < l.length by omega)]) _ Tryd.underlying9
  rw [e] at this
  exact this
theorem conv_new8 (W : World) : (convert 53 9 (.slice (some ⟨W.heap.size, 0, none⟩) 8 8)).run Tryd.prog (W.alloc (.cells #[.int .u8 114, .int .u8 0, .int .u8 1, .int .u8 0, .int .u8 1, .int .u8 206, .int .u8 0, .int .u8 116] 5)) =
    .ok (.string (bstr [114, 0, 1, 0, 1, 206, 0, 116])) (W.alloc (.cells #[.int .u8 114, .int .u8 0, .int .u8 1, .int .u8 0, .int .u8 1, .int .u8 206, .int .u8 0, .int .u8 116] 5)) := by
  refine conv_back _ _ 8 8 [114, 0, 1, 0, 1, 206, 0, 116] rfl (fun i hi => ?_)
  have : i = 0 ∨ i = 1 ∨ i = 2 ∨ i = 3 ∨ i = 4 ∨ i = 5 ∨ i = 6 ∨ i = 7 := by simp at hi; omega
  rcases this with rfl | rfl | rfl | rfl | rfl | rfl | rfl | rfl <;> simp
end Go.Proofs.YtphbebcbbfbgpabDoor

namespace Go.Proofs.YtphbebcbbfbgpabDoor
open Go Go.RowKit
set_option linter.unusedSimpArgs false
set_option linter.unusedVariables false

theorem u8_bounds' {n : Int} (h : (Lit.int .u8 n).wf = true) : 0 ≤ n ∧ n < 256 := by
  have h2 : IntKind.u8.min ≤ n ∧ n ≤ IntKind.u8.max := by simpa [Lit.wf] using h
  exact ⟨h2.1, Int.lt_of_le_of_lt h2.2 (by decide)⟩

set_option maxRecDepth 100000 in
set_option maxHeartbeats 4000000 in
theorem lawLogsSpoilt (A : Option Addr) (n c : Nat) (ls : List Raw) (at_ by_ : Int) (w : World) (h : Rep w w.heap.size 4 Raw.cell A n ls) (hn : n ≤ 4398046511104) (hc : n ≤ c) (hc64 : c ≤ maxLen) (hwf : ∀ a ∈ ls, a.wf) (hk64 : i64Ok at_) (hby : 0 ≤ by_ ∧ by_ < 256) :
    Calls Tryd.prog 6 #[.slice A n c, .int .i64 at_, .int .u8 by_] w fun e w' => e = .returned (.bool true) ∧ Below w.heap.size w w' := by
  obtain ⟨hby0, hby1⟩ := hby
  have hrec : ∀ W, Below w.heap.size w W → Calls Tryd.prog 14 #[.slice A n c] W (RecsPost W n) := fun W hb => records_any A n c ls W ((h.below hb (Nat.le_refl _)).mono hb.size) hn hc hc64 hwf
  have hsc8 : ∀ W, Calls Tryd.prog 16 #[.string (bstr [114, 0, 1, 0, 1, 206, 0, 116]), .int .i64 1] W fun e w' => ∃ A c, e = .returned (.tuple #[.slice A 1 c, .int .i64 8]) ∧ Below W.heap.size W w' := fun W => by
    obtain ⟨d8, hd8⟩ := scan_eight
    have := scan_big (bstr [114, 0, 1, 0, 1, 206, 0, 116]) 1 W (by rw [bstr_size]; simp) (by rw [bstr_list, hd8]; simp)
    rw [bstr_list, hd8] at this
    refine this.mono ?_
    rintro e w' ⟨A, c, vs, rfl, _, _, hb⟩
    exact ⟨A, c, rfl, hb⟩
  have hcv := conv_new8 w
  have HREC := Lib.hid hrec
  have HSC8 := Lib.hid hsc8
  have HK := Lib.hid hk64
  clear h hc hc64 hwf hk64 hrec hsc8
  go_enter Tryd.func6, Tryd.ntmps6
  go_wp2_with fail
  with_reducible refine (HSC8.out _).mono ?_
  rintro e w1 ⟨A7, c7, rfl, hb1⟩
  have HB1 : Hid (Below w.heap.size w w1) := Lib.hid (((Below.refl _ _).alloc (Nat.le_refl _) _).trans (hb1.mono (by simp)))
  clear hb1 hcv
  go_wp2_with fail
  with_reducible refine (HREC.out _ HB1.out).mono ?_
  rintro e w2 ⟨A4, c4, A5, c5, m, vs, ds, rfl, hm, hf⟩
  have hcap4 : m ≤ c4 ∧ c4 ≤ maxLen := by
    obtain ⟨_, _, hv, h1, h2, _⟩ := own_form hf.ov
    simp only [Value.slice.injEq] at hv
    obtain ⟨_, _, rfl⟩ := hv
    exact ⟨h1, h2⟩
  unfold maxLen at hcap4
  obtain ⟨hc4, hc4m⟩ := hcap4
  have hshort := recs_short hf.sh.short
  have hml := hf.n
  obtain ⟨L, hL⟩ : ∃ L, (recs ds).length = L := ⟨_, rfl⟩
  have hL2 : L ≤ 100000000000000 := by rw [← hL]; omega
  obtain ⟨S, hS⟩ : ∃ S, bstr (recs ds) = S := ⟨_, rfl⟩
  have hSs : S.size = L := by rw [← hS, bstr_size, hL]
  have hSl : S.data.toList = recs ds := by rw [← hS, bstr_list]
  have hj := joinB ds hml hf.os (by omega) (by omega)
  rw [hS] at hj
  have HJ := Lib.hid hj
  have HF := Lib.hid hf
  have HLL := Lib.hid hL
  have HSL := Lib.hid hSl
  have HSS := Lib.hid hSs
  have HSH := Lib.hid hshort
  clear hj hf hL hS hSl hshort hml
  go_wp2_with fail
  with_reducible refine HJ.out.mono ?_
  rintro e w3 ⟨rfl, hb3⟩
  obtain ⟨cp, hcp⟩ : ∃ cp, grownCap w3 L 0 5 = cp := ⟨_, rfl⟩
  obtain ⟨w4, hw4⟩ : ∃ w4, Lib.bytesWorld w3 5 S = w4 := ⟨_, rfl⟩
  obtain ⟨B, hB⟩ : ∃ B, w3.heap.size = B := ⟨_, rfl⟩
  have hct : (convert 9 53 (.string S)).run Tryd.prog w3 = .ok (.slice (some ⟨B, 0, none⟩) L cp) w4 := by rw [conv_to, hSs, hcp, hw4, hB]
  have hb34 : Below w3.heap.size w3 w4 := by rw [← hw4]; exact bw_below _ _ _
  have hcell : ∀ j (hj : j < (recs ds).length), w4.cell? ⟨B, j, none⟩ = some (.int .u8 ((recs ds)[j].toNat : Nat)) := fun j hj => by
    rw [← hw4, ← hB, Lib.bytesWorld_cell w3 5 S j (by rw [hSs, ← HLL.out]; exact hj), HSL.out, List.getD_eq_getElem?_getD, List.getElem?_eq_getElem hj]; rfl
  have hfro : ∀ j (hj : j < L), w4.frozen? ⟨B, j, none⟩ = false := fun j hj => by
    rw [← hw4, ← hB]; exact bw_frozen w3 5 S j (by rw [hSs]; exact hj)
  have HB34 := Lib.hid (And.intro (hb3.trans (hb34.mono hb3.size)) hB)
  have HF4 := Lib.hid (HF.out.below (hb3.trans (hb34.mono hb3.size)))
  have hBw : w2.heap.size ≤ B := by rw [← hB]; exact hb3.size
  have HCELL := Lib.hid hcell
  have HFRO := Lib.hid hfro
  clear hcell hfro hb34 hb3 hw4 hcp hB hSs
  by_cases hL0 : L = 0
  · subst hL0
    go_wp2
    go_ret
    exact ⟨rfl, HB1.out.trans (HF4.out.be.mono HB1.out.size)⟩
  · have hL0d : ((L : Int) == 0) = false := by rw [beq_eq_false_iff_ne]; omega
    by_cases hyz : by_ = 0
    · subst hyz
      go_wp2
      go_ret
      exact ⟨rfl, HB1.out.trans (HF4.out.be.mono HB1.out.size)⟩
    · have hyd : (by_ == 0) = false := by rw [beq_eq_false_iff_ne]; exact hyz
      have hpk : ∀ W, Calls Tryd.prog 17 #[.int .i64 at_, .int .i64 L] W fun e w' => e = .returned (.int .i64 (pickN at_ L)) ∧ W = w' := fun W => picked_big at_ L W HK.out (by omega) (by omega)
      have hkl := pickN_lt at_ (m := L) (by omega)
      obtain ⟨k, hk⟩ : ∃ k, pickN at_ L = k := ⟨_, rfl⟩
      rw [hk] at hpk hkl
      have HPK := Lib.hid hpk
      have hkr : k < (recs ds).length := by rw [HLL.out]; exact hkl
      obtain ⟨x, hx⟩ : ∃ x, (recs ds)[k].toNat = x := ⟨_, rfl⟩
      have hx256 : x < 256 := by rw [← hx]; exact UInt8.toNat_lt _
      have x0 := HCELL.out k hkr
      rw [hx] at x0
      have z0 := HFRO.out k hkl
      have HX := Lib.hid hx
      clear hpk hk hx
      go_upto_region 10 with (go_at_call 17; (with_reducible refine (HPK.out _).mono ?_); rintro e w' ⟨rfl, rfl⟩)
      have hv0 : 0 ≤ (x + by_) % 256 ∧ (x + by_) % 256 < 256 := by omega
      obtain ⟨v, hv⟩ : ∃ v : Nat, ((x : Int) + by_) % 256 = (v : Nat) := ⟨(((x : Int) + by_) % 256).toNat, by omega⟩
      have hv256 : v < 256 := by omega
      have hvx : v ≠ x := by omega
      have hy : (UInt8.ofNat v).toNat = v := by rw [UInt8.toNat_ofNat']; omega
      obtain ⟨y, hye⟩ : ∃ y, UInt8.ofNat v = y := ⟨_, rfl⟩
      rw [hye] at hy
      have hne : (recs ds)[k] ≠ y := fun e => hvx (by rw [← hy, ← e]; exact HX.out)
      obtain ⟨hle, r, hscan, hr⟩ := scanL_spoilt (b := 16) (by omega) HF.out.sh.good hkr hne
      obtain ⟨f, hfit⟩ : ∃ f, fitN ds k = f := ⟨_, rfl⟩
      rw [hfit] at hle hscan hr
      obtain ⟨sf, hsf⟩ : ∃ sf, (recs (ds.take f)).length = sf := ⟨_, rfl⟩
      rw [hsf] at hle hscan hr
      have hfm : f ≤ m := by rw [← hfit, HF.out.n]; exact fitN_le ds k
      obtain ⟨T, hT⟩ : ∃ T, bstr ((recs ds).set k y) = T := ⟨_, rfl⟩
      have hTl : T.data.toList = (recs ds).set k y := by rw [← hT, bstr_list]
      have hTs : T.size = L := by rw [size_list, hTl, List.length_set, HLL.out]
      have hcnt : ((ds.take f) ++ r.1).length ≤ 5800000000000 := by
        have h1 := scanL_count ((recs ds).set k y) 16
        rw [hscan] at h1
        have h2 := count_set_le (recs ds) k y
        have h3 := HSH.out.2
        have h4 := HF.out.n
        dsimp only at h1
        omega
      obtain ⟨U, hU⟩ : ∃ U, sf + r.2 = U := ⟨_, rfl⟩
      obtain ⟨p, hp⟩ : ∃ p, ((ds.take f) ++ r.1).length = p := ⟨_, rfl⟩
      have hs2 := fun W => scanB T ((ds.take f) ++ r.1) U p W (by rw [hTs]; omega) (by rw [hTl, hscan, hU]) hp (by rw [← hp]; exact hcnt)
      have hcb : (convert 53 9 (.slice (some ⟨B, 0, none⟩) L cp)).run Tryd.prog (w4.setCell ⟨B, k, none⟩ (.int .u8 ((x + by_) % 256))) = .ok (.string T) (w4.setCell ⟨B, k, none⟩ (.int .u8 ((x + by_) % 256))) := by
        rw [← hT]
        refine conv_back _ B L cp _ (by rw [List.length_set, HLL.out]) (fun i hi => ?_)
        rw [List.length_set] at hi
        by_cases hik : i = k
        · subst hik
          rw [List.getElem_set_self, hy, hv]
          simp [go_sem, x0]
        · rw [List.getElem_set_ne (fun e => hik e.symm), World.cell?_setCell_other _ _ _ _ (by intro e; exact hik (congrArg Addr.off e).symm)]
          exact HCELL.out i hi
      have HS2 := Lib.hid hs2
      have HFIT := Lib.hid hfit
      have HSF := Lib.hid hsf
      have HRR := Lib.hid hr
      have HU := Lib.hid hU
      have HPP := Lib.hid hp
      have hb25 : Below w2.heap.size w2 (w4.setCell ⟨B, k, none⟩ (.int .u8 ((x + by_) % 256))) := (HB34.out.1).setCell (p := ⟨B, k, none⟩) hBw _
      have HF5' := Lib.hid (HF.out.below hb25)
      clear hv0 hv hv256 hvx hy hye hne hscan hr hfit hsf hT hTl hTs hcnt hU hp hs2 hb25 HX hkr
      go_wp2_with fail
      with_reducible refine (HS2.out _).mono ?_
      rintro e w5 ⟨A11, c11, vs11, rfl, ho11, hd11, hb5⟩
      have HF5 := Lib.hid (HF5'.out.below hb5)
      have HO11 := Lib.hid (And.intro ho11 hd11)
      clear hb5 ho11 hd11 hcb x0 z0
      go_upto_region 13 with (fail)
      go_loopw [15, 16] (fun x y wr => ∃ j : Nat, j ≤ f ∧ x = .int .i64 j ∧ y = .int .i64 (recs (ds.take j)).length ∧ wr = w5) (fun x _ _ => m - (intOf x).toNat)
      case atStart => exact ⟨0, by omega, rfl, rfl, rfl⟩
      case round =>
        obtain ⟨j, hjf, rfl, rfl, rfl⟩ := hrel
        obtain ⟨sj, hsj⟩ : ∃ sj, (recs (ds.take j)).length = sj := ⟨_, rfl⟩
        rw [hsj]
        by_cases hjm : j < m
        · have hjd : j < ds.length := by rw [← HF.out.n]; exact hjm
          have hrl : (recB ds).length = m := by rw [recB, List.length_map, HF.out.n]
          have hrep : Rep wr wr.heap.size 1 (fun (x : ByteArray) (_ : Nat) => Value.string x) A5 m (recB ds) := Rep.of_own hrl.symm HF5.out.os (Nat.le_refl _)
          obtain ⟨b, off, rfl, hb, hcell⟩ := hrep.at_ hjm
          have x0 := hcell 0 (by omega)
          rw [Nat.mul_one, Nat.add_zero] at x0
          have hsucc := recs_succ hjd
          rw [hsj] at hsucc
          obtain ⟨z, hz⟩ : ∃ z, (recB ds)[j]'(by rw [hrl]; exact hjm) = z := ⟨_, rfl⟩
          have hzs : z.size = (recL ds[j]).length := by rw [← hz]; simp only [recB, List.getElem_map]; exact bstr_size _
          rw [hz] at x0
          rw [← hzs] at hsucc
          obtain ⟨zl, hzl⟩ : ∃ zl, z.size = zl := ⟨_, rfl⟩
          rw [hzl] at hsucc
          have hzlb : sj + zl ≤ L := by
            have h1 := recs_mono ds (a := j + 1) (b := ds.length) (by omega)
            rw [List.take_length, HLL.out, hsucc] at h1
            exact h1
          have hneg : decide ((j : Int) < (m : Nat)) = true := decide_eq_true (by omega)
          by_cases hlt : j < f
          · have hle : sj + zl ≤ k := by
              have := (fit_yes (ds := ds) (j := j) (k := k) (by rw [HFIT.out]; exact hlt)).2
              rw [hsucc] at this; exact this
            have HSU := Lib.hid hsucc
            have hdle : decide ((sj : Int) + (zl : Nat) ≤ (k : Nat)) = true := decide_eq_true (by omega)
            clear hcell hsucc hz hzs hrep hb hsj hrl
            go_wp2_with fail
            go_roundw
            case rel => exact ⟨j + 1, by omega, by go_num, by rw [HSU.out]; go_num, trivial⟩
            case measure => simp [intOf]; omega
          · have hjf2 : j = f := by omega
            subst hjf2
            have hnle : ¬ sj + zl ≤ k := by
              have := fit_no (ds := ds) (k := k) (by rw [HFIT.out]; exact hjd)
              rw [HFIT.out, hsucc] at this; omega
            have hdle : decide ((sj : Int) + (zl : Nat) ≤ (k : Nat)) = false := decide_eq_false (by omega)
            have hss : sj = sf := hsj.symm.trans HSF.out
            subst hss
            clear hcell hsucc hz hzs hrep hb hsj hrl
            have HBE := Lib.hid (HB1.out.trans (HF5.out.be.mono HB1.out.size))
            have hUj : sj ≤ U := by have := HU.out; omega
            by_cases e1 : k = sj + 1
            · have q1 : (((k : Int) - (sj : Nat)) == 1) = true := by rw [beq_iff_eq]; omega
              have q3 : decide ((U : Int) ≥ (sj : Nat)) = true := decide_eq_true (by omega)
              clear e1
              go_wp2
              go_ret
              exact ⟨rfl, HBE.out⟩
            · have q1 : (((k : Int) - (sj : Nat)) == 1) = false := by rw [beq_eq_false_iff_ne]; omega
              by_cases e2 : k = sj + 2
              · have q2 : (((k : Int) - (sj : Nat)) == 2) = true := by rw [beq_iff_eq]; omega
                have q3 : decide ((U : Int) ≥ (sj : Nat)) = true := decide_eq_true (by omega)
                clear e1 e2
                go_wp2
                go_ret
                exact ⟨rfl, HBE.out⟩
              · have q2 : (((k : Int) - (sj : Nat)) == 2) = false := by rw [beq_eq_false_iff_ne]; omega
                have hr0 := HRR.out (by omega) (by omega)
                subst hr0
                have hU0 : U = sj := HU.out.symm
                have hp0 : p = j := by
                  have := HPP.out
                  rw [List.append_nil, List.length_take] at this
                  have := HF.out.n
                  omega
                subst hU0 hp0
                have hd := HO11.out.2
                rw [List.append_nil] at hd
                have HQ2 := Lib.hid (sameDeals_any A11 A4 p c11 c4 _ _ vs11 (vs.take p) (ds.take p) wr (dealsRep (by rw [hd.1, List.length_take, ← HF.out.n]; omega) HO11.out.1) ((dealsRep (by rw [HF5.out.dl.1]; exact HF5.out.n) HF5.out.ov).taken hfm) hd (HF5.out.dl.take p) (by unfold maxLen; omega))
                clear e1 e2 hd
                go_wp2_with fail
                with_reducible refine HQ2.out.mono ?_
                rintro e w7 ⟨rfl, j2, rfl⟩
                go_wp2_with fail
                go_ret
                exact ⟨rfl, below_drewN HBE.out _⟩
        · have hjf2 : j = f := by omega
          have hfm2 : f = m := by omega
          subst hjf2
          have hss : sj = sf := hsj.symm.trans HSF.out
          subst hss
          clear hsj
          have hneg : decide ((j : Int) < (m : Nat)) = false := decide_eq_false (by omega)
          clear hfm2
          have HBE := Lib.hid (HB1.out.trans (HF5.out.be.mono HB1.out.size))
          have hUj : sj ≤ U := by have := HU.out; omega
          by_cases e1 : k = sj + 1
          · have q1 : (((k : Int) - (sj : Nat)) == 1) = true := by rw [beq_iff_eq]; omega
            have q3 : decide ((U : Int) ≥ (sj : Nat)) = true := decide_eq_true (by omega)
            clear e1
            go_wp2
            go_ret
            exact ⟨rfl, HBE.out⟩
          · have q1 : (((k : Int) - (sj : Nat)) == 1) = false := by rw [beq_eq_false_iff_ne]; omega
            by_cases e2 : k = sj + 2
            · have q2 : (((k : Int) - (sj : Nat)) == 2) = true := by rw [beq_iff_eq]; omega
              have q3 : decide ((U : Int) ≥ (sj : Nat)) = true := decide_eq_true (by omega)
              clear e1 e2
              go_wp2
              go_ret
              exact ⟨rfl, HBE.out⟩
            · have q2 : (((k : Int) - (sj : Nat)) == 2) = false := by rw [beq_eq_false_iff_ne]; omega
              have hr0 := HRR.out (by omega) (by omega)
              subst hr0
              have hU0 : U = sj := HU.out.symm
              have hp0 : p = j := by
                have := HPP.out
                rw [List.append_nil, List.length_take] at this
                have := HF.out.n
                omega
              subst hU0 hp0
              have hd := HO11.out.2
              rw [List.append_nil] at hd
              have HQ2 := Lib.hid (sameDeals_any A11 A4 p c11 c4 _ _ vs11 (vs.take p) (ds.take p) wr (dealsRep (by rw [hd.1, List.length_take, ← HF.out.n]; omega) HO11.out.1) ((dealsRep (by rw [HF5.out.dl.1]; exact HF5.out.n) HF5.out.ov).taken hfm) hd (HF5.out.dl.take p) (by unfold maxLen; omega))
              clear e1 e2 hd
              go_wp2_with fail
              with_reducible refine HQ2.out.mono ?_
              rintro e w7 ⟨rfl, j2, rfl⟩
              go_wp2_with fail
              go_ret
              exact ⟨rfl, below_drewN HBE.out _⟩
end Go.Proofs.YtphbebcbbfbgpabDoor
