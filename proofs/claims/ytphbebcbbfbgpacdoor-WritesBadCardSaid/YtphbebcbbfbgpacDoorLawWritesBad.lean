/- The law WritesBad returns true for all raw numbers. -/
import Derived.Test.YtphbebcbbfbgpacDoorVolKit
import Derived.Test.YtphbebcbbfbgpacDoorBadReg
import Derived.Test.YtphbebcbbfbgpacDoorShelf
import Derived.Deep.CutRange
namespace Go.Proofs.YtphbebcbbfbgpacDoor
open Go Go.RowKit

set_option maxRecDepth 100000 in
set_option maxHeartbeats 4000000 in
theorem lawWritesBad (A : Option Addr) (n c : Nat) (ls : List Raw) (which nn : Int) (w : World) (h : Rep w w.heap.size 4 Raw.cell A n ls) (hn : n ≤ maxLen) (hc : n ≤ c) (hc64 : c ≤ maxLen) (hwf : ∀ a ∈ ls, a.wf) (hw64 : i64Ok which) (hk64 : i64Ok nn) :
    Calls Tryd.prog 5 #[.slice A n c, .int .i64 which, .int .i64 nn] w fun e w' => e = .returned (.bool true) ∧ Below w.heap.size w w' := by
  have HV := Lib.hid (volumeK_any A n c ls w h hn hc hc64 hwf)
  have hpk : ∀ W, Calls Tryd.prog 15 #[.int .i64 nn, .int .i64 16] W fun e w' => e = .returned (.int .i64 (pickN nn 16)) ∧ W = w' := fun W => picked_any nn 16 W hk64 (by omega) (by omega)
  have hpi : ∀ W, Calls Tryd.prog 15 #[.int .i64 which, .int .i64 5] W fun e w' => e = .returned (.int .i64 (pickN which 5)) ∧ W = w' := fun W => picked_any which 5 W hw64 (by omega) (by omega)
  have hkl := pickN_lt nn (m := 16) (by omega)
  have hil := pickN_lt which (m := 5) (by omega)
  obtain ⟨k, hk⟩ : ∃ k, pickN nn 16 = k := ⟨_, rfl⟩
  obtain ⟨i, hi⟩ : ∃ i, pickN which 5 = i := ⟨_, rfl⟩
  rw [hk] at hpk hkl
  rw [hi] at hpi hil
  have HPK := Lib.hid hpk
  have HPI := Lib.hid hpi
  clear h hn hc hc64 hwf hw64 hk64 hpk hpi hk hi
  go_enter Tryd.func5, Tryd.ntmps5
  go_wp2_with fail
  refine HV.out.mono ?_
  rintro e w1 ⟨A1, c1, B1, d1, us, cs, rfl, hg, hou, hov, hb1⟩
  obtain ⟨u, hu⟩ : ∃ u, us.length = u := ⟨_, rfl⟩
  rw [hu] at hou ⊢
  obtain ⟨w2, hw2⟩ : ∃ w2, w2 = w1.alloc (.cells #[.slice A1 u c1, .slice B1 16 d1] 30) := ⟨_, rfl⟩
  have hal : Below w1.heap.size w1 w2 := by rw [hw2]; exact (Below.refl _ _).alloc (Nat.le_refl _) _
  have hv2 : VolB w1.heap.size (.slice A1 u c1) (.slice B1 16 d1) w2 := by rw [hw2]; exact VolB.new w1 _ _ _
  have hbe2 := hb1.trans (hal.mono hb1.size)
  have HB2 := Lib.hid hbe2
  have HW2 := Lib.hid hw2
  have HO2 := Lib.hid (And.intro (own_below hou hal) (own_below hov hal))
  have HV2 := Lib.hid hv2
  have HG := Lib.hid hg
  have HU := Lib.hid hu
  obtain ⟨R, hR⟩ : ∃ R, w1.heap.size = R := ⟨_, rfl⟩
  clear hw2 hou hov hb1 hal hv2 hg hu hbe2
  go_upto_region 2 with (fail)
  rw [← HW2.out]
  rw [hR] at HV2
  clear HW2 hR
  go_upto_region 3 with (go_at_call 15; (with_reducible refine (HPK.out _).mono ?_); rintro e w' ⟨rfl, rfl⟩)
  obtain ⟨d, HRP, HD⟩ : ∃ d : ByteArray, Hid (∀ W, Calls Tryd.prog 25 #[.string ⟨#[120]⟩, .int .i64 49] W fun e w' => e = .returned (.string d) ∧ Below W.heap.size W w') ∧ Hid (d.size = 49) := ⟨_, Lib.hid (fun W => strings_repeat ⟨#[120]⟩ 49 W (by omega) (by decide)), Lib.hid (by decide)⟩
  have hx1 : IntKind.i64.wrap (16 + (k : Int)) = 16 + k := by rw [IntKind.wrap_i64]; omega
  have hx2 : IntKind.i64.wrap (-1 - (k : Int)) = -1 - k := by rw [IntKind.wrap_i64]; omega
  go_cut [9] from 22 to 40 (fun s9 W => Odd k d W s9 ∧ Below w2.heap.size w2 W)
  case first =>
    refine wp_region_any (by kernel_rfl) ?_
    change wpAny _ _ _ _ _ _ _ (World.drew _)
    refine wpAny_take (i := 1) (v := .int .i64 k) rfl (by kernel_rfl) (by kernel_rfl) (by kernel_rfl) (fun _ _ _ h => h) (Or.inl ⟨by rfl, by (intro w; go_simp)⟩) ?_
    refine wpAny_take (i := 2) (v := .int .i64 (16 + k)) rfl (by kernel_rfl) (by kernel_rfl) (by kernel_rfl) (fun _ _ _ h => h) (Or.inl ⟨by rfl, by (intro w; go_simp)⟩) ?_
    refine wpAny_take (i := 3) (v := .agg #[.int .i64 (16 + k), .string ⟨#[]⟩]) rfl (by kernel_rfl) (by kernel_rfl) (by kernel_rfl) (fun _ _ _ h => h) (Or.inl ⟨by rfl, by (intro w; go_simp)⟩) ?_
    refine wpAny_take (i := 5) (v := .int .i64 k) rfl (by kernel_rfl) (by kernel_rfl) (by kernel_rfl) (fun _ _ _ h => h) (Or.inl ⟨by rfl, by (intro w; go_simp)⟩) ?_
    refine wpAny_take (i := 6) (v := .int .i64 (-1 - k)) rfl (by kernel_rfl) (by kernel_rfl) (by kernel_rfl) (fun _ _ _ h => h) (Or.inl ⟨by rfl, by (intro w; go_simp)⟩) ?_
    refine wpAny_take (i := 7) (v := .agg #[.int .i64 (-1 - k), .string ⟨#[]⟩]) rfl (by kernel_rfl) (by kernel_rfl) (by kernel_rfl) (fun _ _ _ h => h) (Or.inl ⟨by rfl, by (intro w; go_simp)⟩) ?_
    refine wpAny_take (i := 9) (v := .int .i64 k) rfl (by kernel_rfl) (by kernel_rfl) (by kernel_rfl) (fun _ _ _ h => h) (Or.inl ⟨by rfl, by (intro w; go_simp)⟩) ?_
    refine wpAny_take (i := 10) (v := .agg #[.int .i64 (k), .string ⟨#[]⟩]) rfl (by kernel_rfl) (by kernel_rfl) (by kernel_rfl) (fun _ _ _ h => h) (Or.inl ⟨by rfl, by (intro w; go_simp)⟩) ?_
    refine wpAny_take (i := 11) (v := .int .i64 k) rfl (by kernel_rfl) (by kernel_rfl) (by kernel_rfl) (fun _ _ _ h => h) (Or.inl ⟨by rfl, by (intro w; go_simp)⟩) ?_
    refine wpAny_take (i := 12) (v := .agg #[.int .i64 (k), .string ⟨#[]⟩]) rfl (by kernel_rfl) (by kernel_rfl) (by kernel_rfl) (fun _ _ _ h => h) (Or.inl ⟨by rfl, by (intro w; go_simp)⟩) ?_
    refine wpAny_take (i := 14) (v := .int .i64 k) rfl (by kernel_rfl) (by kernel_rfl) (by kernel_rfl) (fun _ _ _ h => h) (Or.inl ⟨by rfl, by (intro w; go_simp)⟩) ?_
    refine wpAny_by_inv (fun listed a w => ∃ s22 s26 s30 s35 s37 s38 s39 s40 s9, a = {
      tmps := #[.slice A n c, .int .i64 which, .int .i64 nn, undef, undef, undef, .bool false, .pointer (some ⟨R, 0, none⟩), .int .i64 k, s9, undef, undef, undef, undef, undef, undef, undef, undef, .slice A n c, .agg #[.slice A1 u c1, .slice B1 16 d1], .int .i64 nn, .int .i64 k, s22, .int .i64 k, .int .i64 (16 + k), .agg #[.int .i64 (16 + k), .string ⟨#[]⟩], s26, .int .i64 k, .int .i64 (-1 - k), .agg #[.int .i64 (-1 - k), .string ⟨#[]⟩], s30, .int .i64 k, .agg #[.int .i64 (k), .string ⟨#[]⟩], .int .i64 k, .agg #[.int .i64 (k), .string ⟨#[]⟩], s35, .int .i64 k, s37, s38, s39, s40, undef, undef, undef, undef, undef, undef, undef, undef, undef, undef, undef, undef, undef, undef, undef, undef, undef, undef, undef, undef, undef, undef, undef, undef, undef, undef, undef, undef, undef, undef, undef, undef, undef, undef, undef, undef, undef, undef, undef, undef, undef, undef, undef, undef, undef, undef], defers := [] } ∧ Reg3 k d w2 listed w s22 s26 s30 s35 s37 s38 s39 s40 s9) (by kernel_rfl) (of_decide_eq_true (by kernel_rfl)) (by kernel_rfl) ?_ ?_ ?_
    · exact ⟨undef, undef, undef, undef, undef, undef, undef, undef, undef, by kernel_rfl, Reg3.start (by kernel_rfl) (Below.refl _ _).drew⟩
    · rintro listed a w i ⟨s22, s26, s30, s35, s37, s38, s39, s40, s9, rfl, hR⟩ hr
      have hw := hR.which (ready_lt hr).1 (ready_lt hr).2
      rcases hw with rfl | rfl | rfl | rfl | rfl | rfl | rfl | rfl | rfl
      · obtain ⟨w', hmk, hws, hb⟩ := WS.made w
        have HR := Lib.hid hR
        have HB := Lib.hid hb
        have HW := Lib.hid hws
        clear hR hr hws hb
        refine wpOp_step (i := 0) rfl (fun K hK => ?_)
        go_simp
        refine hK _ _ ?_
        clear hK K
        exact ⟨_, _, _, _, _, _, _, _, _, rfl, (HR.out.below HB.out).set0 HW.out⟩
      · have HR := Lib.hid hR
        clear hR hr
        refine wpOp_step (i := 4) rfl (fun K hK => ?_)
        go_simp
        refine hK _ _ ?_
        clear hK K
        exact ⟨_, _, _, _, _, _, _, _, _, rfl, (HR.out.below ((Below.refl _ _).alloc (Nat.le_refl _) _)).set4 (WS.new1 w _ _ _)⟩
      · have HR := Lib.hid hR
        clear hR hr
        refine wpOp_step (i := 8) rfl (fun K hK => ?_)
        go_simp
        refine hK _ _ ?_
        clear hK K
        exact ⟨_, _, _, _, _, _, _, _, _, rfl, (HR.out.below ((Below.refl _ _).alloc (Nat.le_refl _) _)).set8 (WS.new1 w _ _ _)⟩
      · have HR := Lib.hid hR
        clear hR hr
        refine wpOp_step (i := 13) rfl (fun K hK => ?_)
        go_simp
        refine hK _ _ ?_
        clear hK K
        exact ⟨_, _, _, _, _, _, _, _, _, rfl, (HR.out.below ((Below.refl _ _).alloc (Nat.le_refl _) _)).set13 (WS.new2 w _ _ _ _ _)⟩
      · have HR := Lib.hid hR
        clear hR hr
        refine wpOp_step (i := 15) rfl (fun K hK => ?_)
        go_simp
        refine (HRP.out _).mono ?_
        rintro e w' ⟨rfl, hb⟩
        refine hK _ _ ?_
        clear hK K
        exact ⟨_, _, _, _, _, _, _, _, _, rfl, (HR.out.below hb).set15 rfl⟩
      · obtain rfl := hR.p15 (ready_dep hr 15 (by kernel_rfl))
        have HR := Lib.hid hR
        clear hR hr
        refine wpOp_step (i := 16) rfl (fun K hK => ?_)
        go_simp
        refine hK _ _ ?_
        clear hK K
        exact ⟨_, _, _, _, _, _, _, _, _, rfl, HR.out.set16 rfl⟩
      · obtain rfl := hR.p16 (ready_dep hr 16 (by kernel_rfl))
        have HR := Lib.hid hR
        clear hR hr
        refine wpOp_step (i := 17) rfl (fun K hK => ?_)
        go_simp
        refine hK _ _ ?_
        clear hK K
        exact ⟨_, _, _, _, _, _, _, _, _, rfl, (HR.out.below ((Below.refl _ _).alloc (Nat.le_refl _) _)).set17 (WS.new1 w _ _ _)⟩
      · have h0 := hR.p0 (ready_dep hr 0 (by kernel_rfl))
        obtain ⟨A0', c0', rfl, hr0⟩ := id h0
        clear hr0
        have h1 := hR.p4 (ready_dep hr 4 (by kernel_rfl))
        obtain ⟨A1', c1', rfl, hr1⟩ := id h1
        clear hr1
        have h2 := hR.p8 (ready_dep hr 8 (by kernel_rfl))
        obtain ⟨A2', c2', rfl, hr2⟩ := id h2
        clear hr2
        have h3 := hR.p13 (ready_dep hr 13 (by kernel_rfl))
        obtain ⟨A3', c3', rfl, hr3⟩ := id h3
        clear hr3
        have h4 := hR.p17 (ready_dep hr 17 (by kernel_rfl))
        obtain ⟨A4', c4', rfl, hr4⟩ := id h4
        clear hr4
        have HH := Lib.hid (And.intro h0 (And.intro h1 (And.intro h2 (And.intro h3 h4))))
        have HR := Lib.hid hR
        clear hR hr h0 h1 h2 h3 h4
        refine wpOp_step (i := 18) rfl (fun K hK => ?_)
        go_simp
        refine hK _ _ ?_
        clear hK K
        exact ⟨_, _, _, _, _, _, _, _, _, rfl, (HR.out.below ((Below.refl _ _).alloc (Nat.le_refl _) _)).set18 (Odd.new _ HH.out.1 HH.out.2.1 HH.out.2.2.1 HH.out.2.2.2.1 HH.out.2.2.2.2)⟩
      · have HO := Lib.hid (hR.p18 (ready_dep hr 18 (by kernel_rfl)))
        have HR := Lib.hid hR
        clear hR hr
        refine wpOp_step (i := 19) rfl (fun K hK => ?_)
        go_simp
        refine hK _ _ ?_
        clear hK K
        exact ⟨_, _, _, _, _, _, _, _, _, rfl, HR.out.set19 HO.out⟩
    · rintro listed a w ⟨s22, s26, s30, s35, s37, s38, s39, s40, s9, rfl, hR⟩ hall
      have HO := Lib.hid (hR.p19 (hall 19 (by decide)))
      have HB := Lib.hid hR.bel
      clear hR hall
      go_wp2_with fail
      go_meet
      case rel => exact ⟨HO.out, HB.out⟩
  case rest =>
    obtain ⟨hO, hb3⟩ := hcut
    obtain ⟨w4, hw4⟩ : ∃ w4, w4 = wc.alloc (.cells #[.int .i64 1, .int .i64 6, .int .i64 6, .int .i64 4, .int .i64 1] 31) := ⟨_, rfl⟩
    have hal4 : Below wc.heap.size wc w4 := by rw [hw4]; exact (Below.refl _ _).alloc (Nat.le_refl _) _
    have hE := bad_codes hil wc 31
    rw [← hw4] at hE
    obtain ⟨er, her⟩ : ∃ er, badE i = er := ⟨_, rfl⟩
    rw [her] at hE
    obtain ⟨b, rfl, hcl⟩ := hO.below hal4
    obtain ⟨v, hv, hws⟩ := hcl i hil
    obtain ⟨q, Av, cv, hve⟩ : ∃ q Av cv, v = .slice Av q cv := by obtain ⟨Av, cv, hve, _⟩ := id hws; exact ⟨_, Av, cv, hve⟩
    subst hve
    have hb24 := hb3.trans (hal4.mono hb3.size)
    have hv4 := HV2.out.step hb24
    have hou4 := own_below HO2.out.1 hb24
    have hov4 := own_below HO2.out.2 hb24
    have hkeep : ∀ W, Below w4.heap.size w4 W → W.cell? ⟨R, 0, none⟩ = some (.slice A1 u c1) ∧ W.cell? ⟨R, 1, none⟩ = some (.slice B1 16 d1) ∧ W.cell? ⟨b, i, none⟩ = some (.slice Av q cv) := fun W hW => ⟨(hv4.step hW).a0, (hv4.step hW).a1, (hW.cell (p := ⟨b, i, none⟩) (World.block_lt_of_cell? w4 _ hv)).trans hv⟩
    have hap : ∀ W, Below w4.heap.size w4 W → Calls Tryd.prog 26 #[.agg #[.slice A1 u c1, .slice B1 16 d1], .slice Av q cv] W fun e w' => ∃ An cn Bn dn, e = .returned (.tuple #[.agg #[.slice An 0 cn, .slice Bn 0 dn], .int .i64 er]) ∧ Below w4.heap.size w4 w' ∧ Below W.heap.size W w' := fun W hW => by
      have hx := applyBad (Rep.of_own HU.out.symm (own_below hou4 hW) (Nat.le_refl _)) (Rep.of_own HG.out.len.symm (own_below hov4 hW) (Nat.le_refl _)) (hws.below hW) (own_nilV hou4) (own_nilV hov4) (own_max' hou4) HG.out.good HG.out.len hkl HD.out
      rw [her] at hx
      refine hx.mono ?_
      rintro e w' ⟨An, cn, Bn, dn, rfl, hb⟩
      exact ⟨An, cn, Bn, dn, rfl, hW.trans (hb.mono hW.size), hb⟩
    have hrn : ∀ W, Below w4.heap.size w4 W → Calls Tryd.prog 27 #[.agg #[.slice A1 u c1, .slice B1 16 d1], .int .i64 (16 + k)] W fun e w' => e = .returned (.tuple #[.string ⟨#[]⟩, .int .i64 6]) ∧ Below W.heap.size W w' := fun W hW =>
      readNone (Rep.of_own HU.out.symm (own_below hou4 hW) (Nat.le_refl _)) (Rep.of_own HG.out.len.symm (own_below hov4 hW) (Nat.le_refl _)) (own_max' hou4) HG.out.good HG.out.len
    have HKEEP := Lib.hid hkeep
    have HAP := Lib.hid hap
    have HRN := Lib.hid hrn
    have HV4 := Lib.hid hv4
    have HB4 := Lib.hid (HB2.out.trans (hb24.mono HB2.out.size))
    have HW4 := Lib.hid hw4
    obtain ⟨E, hEE⟩ : ∃ E, wc.heap.size = E := ⟨_, rfl⟩
    rw [hEE] at hE
    have HEC := Lib.hid (And.intro (World.block_lt_of_cell? w4 _ hE) hE)
    have hi0 : (0 : Int) ≤ (i : Int) := by omega
    have hi5 : (i : Int) < 5 := by omega
    clear hO hb3 hal4 her hcl hws hv hb24 hv4 hou4 hov4 hkeep hap hrn hw4 hE
    go_upto_region 5 with (fail)
    rw [← HW4.out]
    clear HW4 hEE
    go_upto_region 6 with (go_at_call 15; (with_reducible refine (HPI.out _).mono ?_); rintro e w' ⟨rfl, rfl⟩)
    go_cut [12, 13] from 46 to 54 (fun s12 s13 W => ∃ (P : Nat) (An Bn : Option Addr) (cn dn : Nat), s12 = .pointer (some ⟨P, 0, none⟩) ∧ s13 = .int .i64 er ∧ VolB P (.slice An 0 cn) (.slice Bn 0 dn) W ∧ Below w4.heap.size w4 W)
    case first =>
      go_region_held3 (fun W => W.cell? ⟨R, 0, none⟩ = some (.slice A1 u c1) ∧ W.cell? ⟨R, 1, none⟩ = some (.slice B1 16 d1) ∧ W.cell? ⟨b, i, none⟩ = some (.slice Av q cv)) ((refine HKEEP.out _ ?_; (repeat (first | with_reducible exact HB6.out | with_reducible exact Below.refl _ _ | with_reducible refine Below.drew ?_ | (with_reducible refine Below.alloc ?_ ?_ _) | (with_reducible refine Below.setCell ?_ ?_ _) | with_reducible exact HB6.out.size | with_reducible exact Nat.le_refl _ | (simp; done) | (refine Nat.le_trans HB6.out.size ?_; simp; done))))) ((first | (go_at_call 26; (with_reducible refine (HAP.out _ ?hA).mono ?_); (case hA => first | exact (Below.refl _ _).drew | exact ((Below.refl _ _).alloc (Nat.le_refl _) _).drew | exact ((Below.refl _ _).drew.alloc (Nat.le_refl _) _)); rintro e w6 ⟨An, cn, Bn, dn, rfl, hbr6, hb6⟩; have HB6 := Lib.hid hbr6; have t5 := hb6.size; have z0 := hb6.cell (p := ⟨w4.heap.size, 0, none⟩); have z1 := hb6.cell (p := ⟨w4.heap.size, 1, none⟩); have zf := fun j => hb6.frozen (p := ⟨w4.heap.size, j, none⟩); simp [go_sem] at t5 z0 z1 zf; clear hbr6 hb6)))
      all_goals
        go_wp2_with fail
        go_meet
        case rel => first
          | exact ⟨_, An, Bn, cn, dn, rfl, rfl, VolB.new w6 _ _ _, HB6.out.alloc HB6.out.size _⟩
          | exact ⟨_, An, Bn, cn, dn, rfl, rfl, VolB.store z0 z1 _ _, (HB6.out.setCell (p := ⟨w4.heap.size, 0, none⟩) (Nat.le_refl _) _).setCell (p := ⟨w4.heap.size, 1, none⟩) (Nat.le_refl _) _⟩
    case rest =>
      obtain ⟨P, An, Bn, cn, dn, rfl, rfl, hvp, hb7⟩ := hcut
      have v0 := (HV4.out.step hb7).a0
      have v1 := (HV4.out.step hb7).a1
      have HVP := Lib.hid hvp
      have hsz := Nat.lt_of_lt_of_le HEC.out.1 hb7.size
      have HEC7 := Lib.hid (And.intro hsz ((hb7.cell (p := ⟨E, i, none⟩) HEC.out.1).trans HEC.out.2))
      have HRN7 := Lib.hid (HRN.out _ hb7)
      have HB7 := Lib.hid (HB4.out.trans (hb7.mono HB4.out.size))
      clear hvp hb7 hsz
      go_wp2_with fail
      with_reducible refine HRN7.out.mono ?_
      rintro e w8 ⟨rfl, hb8⟩
      have HB8 := Lib.hid hb8
      clear v0 v1 hb8
      go_wp2_with fail
      with_reducible refine (readState _).mono ?_
      rintro e w9 ⟨rfl, hb9⟩
      have hb79 := HB8.out.trans (hb9.mono HB8.out.size)
      have e0 := (hb79.cell (p := ⟨E, i, none⟩) HEC7.out.1).trans HEC7.out.2
      have p1 := (HVP.out.step hb79).a1
      have HB9 := Lib.hid (HB7.out.trans (hb79.mono HB7.out.size))
      clear hb9 hb79
      go_wp2_with fail
      go_ret
      exact ⟨rfl, HB9.out⟩
end Go.Proofs.YtphbebcbbfbgpacDoor
