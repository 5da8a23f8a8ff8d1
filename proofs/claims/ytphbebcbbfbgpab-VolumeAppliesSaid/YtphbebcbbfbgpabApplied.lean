/- saltcellarref.AppliedOf. -/
import Derived.Test.YtphbebcbbfbgpabApply
import Derived.Test.YtphbebcbbfbgpabRefCopy
import Derived.Test.YtphbebcbbfbgpabVolMay
namespace Go.Proofs.Ytphbebcbbfbgpab
open Go Go.RowKit

set_option maxRecDepth 100000 in
set_option maxHeartbeats 8000000 in
theorem applied_any (A B C : Option Addr) (n c m d k c' : Nat) (ls : List Itm) (bs : List Int) (ws : List Wrt) (w : World) (h : Rep w w.heap.size 3 Itm.cell A n ls) (h' : Rep w w.heap.size 1 intCell B m bs) (hw : Rep w w.heap.size 2 Wrt.cell C k ws)
    (hA : A = none → n = 0 ∧ c = 0) (hB : B = none → m = 0 ∧ d = 0) (hn : n ≤ maxLen) (hm : m ≤ maxLen) (hk : k ≤ maxLen) :
    Calls Try.prog 27 #[.agg #[.slice A n c, .slice B m d], .slice C k c'] w (VolErrPost w (appliedR ls bs ws)) := by
  have hc : ∀ W, Below w.heap.size w W → Calls Try.prog 38 #[.agg #[.slice A n c, .slice B m d]] W fun e w' => VMayPost ls bs e ∧ Below W.heap.size W w' :=
    fun W hb => volMay_any A B n c m d ls bs W ((h.below hb (Nat.le_refl _)).mono hb.size) ((h'.below hb (Nat.le_refl _)).mono hb.size) hn hm
  have hcw : ∀ W, Below w.heap.size w W → Calls Try.prog 58 #[.slice C k c', .int .i64 m] W fun e w' => FaultPost ws m e ∧ Below W.heap.size W w' :=
    fun W hb => fault_any C k c' m ws W ((hw.below hb (Nat.le_refl _)).mono hb.size) hk (by omega) (by unfold maxLen at hm; omega)
  have hcf : CopyF w (.slice A n c) (.slice B m d) ((w.alloc (.cells #[.slice A n c, .slice B m d] 30)).alloc (.cells #[.slice none 0 0, .slice none 0 0] 30)) := by
    refine ⟨?_, ?_, ?_, ?_, ?_, ?_, by simp, ((Below.refl _ _).alloc (Nat.le_refl _) _).alloc (by simp) _⟩
    all_goals simp [go_sem]
  have HCF := Lib.hid hcf
  have HC := Lib.hid hc
  have HCW := Lib.hid hcw
  have HREPW := Lib.hid hw
  have hml := h'.1
  have HM := Lib.hid hml
  have HK := Lib.hid hw.1
  clear hcf hc hcw
  cases hg : goodVB ls bs with
  | false =>
    have E1 := Lib.hid hg
    have E2 := Lib.hid (applied_bad ws hg)
    clear hg h h' hw hml
    go_enter Try.func27, Try.ntmps27
    go_wp2_with fail
    refine (HC.out _ HCF.out.be).mono ?_
    rintro e w1 ⟨he, hb1⟩
    rw [VMayPost, E1.out] at he
    subst he
    have HF1 := Lib.hid (HCF.out.step hb1)
    obtain ⟨a0, a1, r0, r1, z0, z1, hsz, hbe⟩ := HF1.out
    clear hb1 hbe
    go_wp2
    refine bodyPost_ret (v := .tuple #[.agg #[.slice none 0 0, .slice none 0 0], .int .i64 7]) (by simp [results, Try.results27, go_sem, r0, r1]) rfl ?_
    exact VolErrPost.nil E2.out ((HF1.out.be.setCell (p := ⟨w.heap.size + 1, 0, none⟩) (Nat.le_succ _) _).setCell (p := ⟨w.heap.size + 1, 1, none⟩) (Nat.le_succ _) _)
  | true =>
    have hgv := goodVB_of hg
    have E1 := Lib.hid hg
    have hm32 : m ≤ 32 := by have := hgv.hi; omega
    have h24 : n ≤ 24 := by have := hgv.good.1; have := h.1; omega
    by_cases hf : writesK ws m = 0
    · have hon : appliedR ls bs ws = keepAll (ws.foldl dropStep (ls, bs)).1 (ws.foldl dropStep (ls, bs)).2 ws := applied_on hg (by rw [← hml]; exact hf)
      have gw := writesK_zero.1 hf
      have hk12 : k ≤ 12 := by have := gw.len; have := hw.1; omega
      have hcp : ∀ W, Below w.heap.size w W → Calls Try.prog 25 #[.agg #[.slice A n c, .slice B m d]] W (VolPost W n m ls bs) :=
        fun W hb => refCopy_any A B n c m d ls bs W ((h.below hb (Nat.le_refl _)).mono hb.size) ((h'.below hb (Nat.le_refl _)).mono hb.size) hA hB (by omega) (by omega)
      have HCP := Lib.hid hcp
      have E2 := Lib.hid hf
      have GW := Lib.hid gw
      have GV := Lib.hid hgv
      have ON := Lib.hid hon
      have HNL := Lib.hid h.1
      clear hg hf hcp h h' hw hml gw hgv hon
      go_enter Try.func27, Try.ntmps27
      go_wp2_with fail
      refine (HC.out _ HCF.out.be).mono ?_
      rintro e w1 ⟨he, hb1⟩
      rw [VMayPost, E1.out] at he
      subst he
      have HF1 := Lib.hid (HCF.out.step hb1)
      obtain ⟨a0, a1, _, _, _, _, _, hbe⟩ := HF1.out
      clear hb1 hbe
      go_wp2_with fail
      refine (HCW.out _ HF1.out.be).mono ?_
      rintro e w2 ⟨he, hb2⟩
      rw [FaultPost, E2.out] at he
      subst he
      have HF2 := Lib.hid (HF1.out.step hb2)
      clear hb2 a0 a1
      obtain ⟨a0, a1, _, _, _, _, _, hbe⟩ := HF2.out
      clear hbe
      go_wp2_with fail
      refine (HCP.out _ HF2.out.be).mono ?_
      rintro e w3 ⟨A1, c1, B1, d1, rfl, ho1, ho2, hb3, _, _, _, _, _, _⟩
      have HF3 := Lib.hid (HF2.out.step hb3)
      have hs2 := HF2.out.sz
      have hap : ApF w (.slice A n c) (.slice B m d) w3.heap.size A1 n c1 B1 m d1 ls bs (w3.alloc (.cells #[.slice A1 n c1, .slice B1 m d1] 30)) := by
        refine ⟨HF3.out.step ((Below.refl _ _).alloc (Nat.le_refl _) _), ?_, ?_, ?_, ?_, by have := hb3.size; omega, by simp, own_mono (ho1.alloc _) (by omega), own_mono (ho2.alloc _) (by omega), ?_, ?_, HNL.out, HM.out⟩
        · simp [go_sem]
        · simp [go_sem]
        · simp [go_sem]
        · simp [go_sem]
        · intro g hg; have := (ho1.lt g hg).2; omega
        · intro g hg; have := (ho2.lt g hg).2; omega
      have HAP := Lib.hid hap
      clear hap hb3 ho1 ho2 a0 a1 hs2
      obtain ⟨P, hP⟩ : ∃ P, w3.heap.size = P := ⟨_, rfl⟩
      rw [hP] at HAP
      go_wp2
      clear hP
      go_loopw [8] (fun t wr => ∃ (i : Nat) (A1 : Option Addr) (n1 c1 : Nat) (B1 : Option Addr) (d1 : Nat) (its : List Itm) (cs : List Int), i ≤ k ∧ t = .int .i64 i ∧ ApF w (.slice A n c) (.slice B m d) P A1 n1 c1 B1 m d1 its cs wr ∧ Hid ((its, cs) = (ws.take i).foldl dropStep (ls, bs))) (fun t _ => k - (intOf t).toNat)
      case atStart => exact ⟨0, A1, n, c1, B1, d1, ls, bs, Nat.zero_le _, rfl, HAP.out, Lib.hid (by rw [List.take_zero]; rfl)⟩
      case round =>
        obtain ⟨i, A2, n2, c2, B2, d2, its, cs, hi, rfl, hap, hst⟩ := hrel
        have HA := Lib.hid hap
        have hbel := hap.cf.be
        have hrng : ∀ x ∈ ws.take i, 0 ≤ x.block ∧ x.block < ((ls, bs).2.length : Int) := fun x hx => by
          have h1 := GW.out.lo x (List.mem_of_mem_take hx)
          have h2 := GW.out.hi x (List.mem_of_mem_take hx)
          have := HM.out
          exact ⟨h1, by simp only; omega⟩
        have hgd := dropAll_good (ws := ws.take i) (s := (ls, bs)) GV.out hrng
        rw [← hst.out] at hgd
        have hcm : cs.length = m := by rw [hgd.2]; exact HM.out.symm
        have hgv2 := hgd.1
        simp only at hgv2
        by_cases hlt : i < k
        · obtain ⟨gw, offw, rfl, hgb, e0, e1⟩ := writes_at (k := i) (HREPW.out.below hbel (Nat.le_refl _)) hlt
          have hil : i < ws.length := by have := HK.out; omega
          have hx0 := GW.out.lo _ (List.getElem_mem hil)
          have hx1 := GW.out.hi _ (List.getElem_mem hil)
          have hnext := foldl_take_succ dropStep (ls, bs) ws hil
          rw [← hst.out] at hnext
          obtain ⟨x, hx⟩ : ∃ x, ws[i]'hil = x := ⟨_, rfl⟩
          rw [hx] at e0 e1 hx0 hx1 hnext
          obtain ⟨xb, xd⟩ := x
          dsimp only at e0 e1 hx0 hx1
          obtain ⟨q, rfl⟩ : ∃ q : Nat, xb = q := ⟨xb.toNat, by omega⟩
          have hq : q < cs.length := by omega
          have hqm : q < m := by omega
          obtain ⟨g, cap, hB2, hg0, hg1⟩ := hap.ob.form (by omega)
          simp only [Value.slice.injEq] at hB2
          obtain ⟨rfl, _, rfl⟩ := hB2
          have HAA := Lib.hid hap
          have HAD := Lib.hid (hap.step (Below.refl _ _).drew)
          have hgw : ¬ gw = P ∧ ¬ P = gw := by have := hap.pw; omega
          obtain ⟨hgw1, hgw2⟩ := hgw
          have hgP := hap.sb g rfl
          have hPg : P ≠ g := fun e => hgP e.symm
          obtain ⟨_, c0⟩ := ints_of (k := q) HAA.out.repB hqm
          rw [Nat.zero_add] at c0
          have hds : dropStep (its, cs) ⟨q, xd⟩ = if 0 ≤ cs[q] then (dropL its cs[q], cs.set q (-1)) else (its, cs) := by
            unfold dropStep
            simp only [Int.toNat_natCast, getD_lt hq]
          have hgot : 0 ≤ cs[q] → gotK its cs[q] = 0 := fun h0 => by
            obtain ⟨z, hz, he⟩ := hgv2.ids _ (List.getElem_mem hq) h0
            rw [← he]; exact gotK_of_mem hgv2.good hz
          obtain ⟨y, hy⟩ : ∃ y, cs[q] = y := ⟨_, rfl⟩
          rw [hy] at c0 hds hgot
          have p0 := HAA.out.p0
          have p1 := HAA.out.p1
          have hn2 : n2 ≤ maxLen ∧ (A2 = none → n2 = 0 ∧ c2 = 0) := by
            obtain ⟨_, _, he, h1, h2, h3⟩ := own_form hap.oi
            simp only [Value.slice.injEq] at he
            obtain ⟨rfl, _, rfl⟩ := he
            exact ⟨by omega, h3⟩
          have HN2 := Lib.hid hn2
          have HGV2 := Lib.hid hgv2
          have HNX := Lib.hid hnext
          have HDS := Lib.hid hds
          clear hx hap hst hbel hrng hgd hgv2 hnext hds hy hgb hn2 hcm hq
          by_cases hy0 : 0 ≤ y
          · have d1 : decide (y ≥ 0) = true := decide_eq_true hy0
            have hgot0 := Lib.hid (hgot hy0)
            have hdr : droppedR its y = dropL its y := by rw [droppedR, if_pos hgot0.out]
            have HDR := Lib.hid hdr
            have HD2 : Hid (dropStep (its, cs) ⟨q, xd⟩ = (dropL its y, cs.set q (-1))) := Lib.hid (by rw [HDS.out, if_pos hy0])
            clear hgot hdr
            go_wp2
            go_region_with (go_at_call 12; (with_reducible refine (dropped_any A2 n2 c2 y its _ HAD.out.rep HN2.out.1).mono ?_); rw [HDR.out, hgot0.out]; rintro e w5 ⟨A3, c3, rfl, hown, hb5, _, _, _⟩; obtain ⟨u, hu⟩ : ∃ u, (dropL its y).length = u := ⟨_, rfl⟩; rw [hu] at hown ⊢; have HU := Lib.hid hu; have HF5 := Lib.hid (HAD.out.step hb5); have hsz5 : P < wr.heap.size := HAD.out.ps; have hit := HF5.out.items (own_mono hown (by have := HAA.out.cf.sz; exact this)) HU.out.symm (fun g' hg' => by have h1 : wr.heap.size ≤ g' := (hown.lt g' hg').1; omega); have HIT := Lib.hid (hit.block q (-1)); have p0' := HF5.out.p0; have p1' := HF5.out.p1; have f0' := HF5.out.f0; obtain ⟨_, c0'⟩ := ints_of (k := q) HF5.out.repB hqm; rw [Nat.zero_add] at c0'; have z0' := HF5.out.ob.frozenAt q; clear p0 p1 c0 hu hown hb5 hsz5 hit)
            all_goals
              go_wp2
              go_roundw
              case rel => exact ⟨i + 1, A3, u, c3, _, _, dropL its y, cs.set q (-1), by omega, by go_num, HIT.out, Lib.hid (by rw [HNX.out, HD2.out])⟩
              case measure => simp [intOf]; omega
          · have d1 : decide (y ≥ 0) = false := decide_eq_false hy0
            have HD2 : Hid (dropStep (its, cs) ⟨q, xd⟩ = (its, cs)) := Lib.hid (by rw [HDS.out, if_neg hy0])
            clear hgot
            go_wp2
            go_roundw
            case rel => exact ⟨i + 1, A2, n2, c2, _, _, its, cs, by omega, by go_num, HAA.out, Lib.hid (by rw [HNX.out, HD2.out])⟩
            case measure => simp [intOf]; omega
        · have hfin : keepAll its cs (ws.drop 0) = appliedR ls bs ws := by
            have e := hst.out
            rw [List.take_of_length_le (by have := HK.out; omega)] at e
            rw [ON.out, ← e, List.drop_zero]
          have HFIN := Lib.hid hfin
          have HCM := Lib.hid hcm
          clear hfin hap hst hbel hrng hgd hgv2 hcm
          obtain ⟨wo, rfl⟩ : ∃ wo, wo = wr := ⟨_, rfl⟩
          go_wp2
          go_loopw [10] (fun t wr => ∃ (i : Nat) (A1 : Option Addr) (n1 c1 : Nat) (B1 : Option Addr) (d1 : Nat) (its : List Itm) (cs : List Int), i ≤ k ∧ t = .int .i64 i ∧ ApF w (.slice A n c) (.slice B m d) P A1 n1 c1 B1 m d1 its cs wr ∧ Hid (keepAll its cs (ws.drop i) = appliedR ls bs ws)) (fun t _ => k - (intOf t).toNat)
          case atStart => exact ⟨0, A2, n2, c2, B2, d2, its, cs, Nat.zero_le _, rfl, HA.out, HFIN⟩
          case round =>
            obtain ⟨i, A2, n2, c2, B2, d2, its, cs, hi, rfl, hap, hst⟩ := hrel
            have HA := Lib.hid hap
            have hbel := hap.cf.be
            by_cases hlt : i < k
            · obtain ⟨gw, offw, rfl, hgb, e0, e1⟩ := writes_at (k := i) (HREPW.out.below hbel (Nat.le_refl _)) hlt
              have hil : i < ws.length := by have := HK.out; omega
              have hx0 := GW.out.lo _ (List.getElem_mem hil)
              have hx1 := GW.out.hi _ (List.getElem_mem hil)
              have hx48 := GW.out.size _ (List.getElem_mem hil)
              have hnext := hst.out
              rw [List.drop_eq_getElem_cons hil, keepAll] at hnext
              obtain ⟨x, hx⟩ : ∃ x, ws[i]'hil = x := ⟨_, rfl⟩
              rw [hx] at e0 e1 hx0 hx1 hnext hx48
              obtain ⟨xb, xd⟩ := x
              dsimp only at e0 e1 hx0 hx1 hnext hx48
              obtain ⟨q, rfl⟩ : ∃ q : Nat, xb = q := ⟨xb.toNat, by omega⟩
              rw [Int.toNat_natCast] at hnext
              have hcm : m = cs.length := hap.nb
              have hq : q < cs.length := by omega
              have hqm : q < m := by omega
              obtain ⟨g, cap, hB2, hg0, hg1⟩ := hap.ob.form (by omega)
              simp only [Value.slice.injEq] at hB2
              obtain ⟨rfl, _, rfl⟩ := hB2
              have HAA := Lib.hid hap
              have HAD := Lib.hid (hap.step (Below.refl _ _).drew)
              have hgw : ¬ gw = P ∧ ¬ P = gw := by have := hap.pw; omega
              obtain ⟨hgw1, hgw2⟩ := hgw
              have hgwl : gw < wr.heap.size := by have := hap.cf.be.size; omega
              have hgP := hap.sb g rfl
              have hPg : P ≠ g := fun e => hgP e.symm
              have p0 := HAA.out.p0
              have p1 := HAA.out.p1
              have hn2 : n2 ≤ maxLen ∧ (A2 = none → n2 = 0 ∧ c2 = 0) := by
                obtain ⟨_, _, he, h1, h2, h3⟩ := own_form hap.oi
                simp only [Value.slice.injEq] at he
                obtain ⟨rfl, _, rfl⟩ := he
                exact ⟨by omega, h3⟩
              have HN2 := Lib.hid hn2
              have HNX := Lib.hid hnext
              have HCM := Lib.hid hcm
              clear hx hap hst hbel hnext hgb hn2 hcm hq
              by_cases hd0 : xd.size = 0
              · have hemp : decide ((xd.size : Int) > 0) = false := decide_eq_false (by omega)
                have hemp2 : decide (0 < xd.size) = false := decide_eq_false (by omega)
                have HNX2 : Hid (keepAll its cs (ws.drop (i + 1)) = appliedR ls bs ws) := Lib.hid (by rw [← HNX.out, if_pos hd0])
                clear hd0
                go_wp2
                go_roundw
                case rel => exact ⟨i + 1, A2, n2, c2, _, _, its, cs, by omega, by go_num, HAA.out, HNX2⟩
                case measure => simp [intOf]; omega
              · have hemp : decide ((xd.size : Int) > 0) = true := decide_eq_true (by omega)
                have hemp2 : decide (0 < xd.size) = true := decide_eq_true (by omega)
                have hnx2 := HNX.out
                rw [if_neg hd0] at hnx2
                obtain ⟨r, hr⟩ : ∃ r, keptR its xd = r := ⟨_, rfl⟩
                rw [hr] at hnx2
                obtain ⟨us, id, e⟩ := r
                dsimp only at hnx2
                have HR := Lib.hid hr
                have HNX2 := Lib.hid hnx2
                have hd0' := Lib.hid hd0
                clear hr hnx2 hd0
                go_wp2
                go_region_with (go_at_call 20; (with_reducible refine (kept_any A2 n2 c2 xd its _ HAD.out.rep HN2.out.1 HN2.out.2 (by unfold maxLen; omega)).mono ?_); rw [HR.out]; rintro _ w5 ⟨A3, c3, rfl, hown, hb5⟩; dsimp only at hown ⊢; obtain ⟨u, hu⟩ : ∃ u, us.length = u := ⟨_, rfl⟩; rw [hu] at hown ⊢; have HU := Lib.hid hu; have HF5 := Lib.hid (HAD.out.step hb5); have hsz5 : P < wr.heap.size := HAD.out.ps; have hit := HF5.out.items (own_mono hown (by have := HAA.out.cf.sz; exact this)) HU.out.symm (fun g' hg' => by have h1 : wr.heap.size ≤ g' := (hown.lt g' hg').1; omega); have HIT := Lib.hid (hit.block q id); have p0' := HF5.out.p0; have p1' := HF5.out.p1; have f0' := HF5.out.f0; have z0' := HF5.out.ob.frozenAt q; have e0' : w5.cell? ⟨gw, offw + i * 2, none⟩ = some (.int .i64 q) := (hb5.cell (by exact hgwl)).trans e0; clear p0 p1 hu hown hb5 hsz5 hit)
                all_goals
                  by_cases he0 : e = 0
                  · have c0' : ∃ y, w5.cell? ⟨g, q, none⟩ = some (.int .i64 y) := by
                      obtain ⟨_, c0'⟩ := ints_of (k := q) HF5.out.repB hqm
                      rw [Nat.zero_add] at c0'
                      exact ⟨_, c0'⟩
                    obtain ⟨y, c0'⟩ := c0'
                    have HNX3 : Hid (keepAll us (cs.set q id) (ws.drop (i + 1)) = appliedR ls bs ws) := Lib.hid (by have := HNX2.out; rwa [if_pos he0] at this)
                    subst he0
                    go_wp2
                    go_region
                    go_wp2
                    go_roundw
                    case rel => exact ⟨i + 1, A3, u, c3, _, _, us, cs.set q id, by omega, by go_num, HIT.out.step (below_drewN (Below.refl _ _) 1), HNX3⟩
                    case measure => simp [intOf]; omega
                  · have HNX3 : Hid (appliedR ls bs ws = ([], [], e)) := Lib.hid (by have := HNX2.out; rw [if_neg he0] at this; exact this.symm)
                    have de : (e != 0) = true := by simp [he0]
                    have r0 := HF5.out.cf.r0
                    have r1 := HF5.out.cf.r1
                    have z0 := HF5.out.cf.z0
                    have z1 := HF5.out.cf.z1
                    clear he0
                    go_wp2
                    refine bodyPost_ret (v := .tuple #[.agg #[.slice none 0 0, .slice none 0 0], .int .i64 e]) (by simp [results, Try.results27, go_sem, r0, r1]) rfl ?_
                    exact VolErrPost.nil HNX3.out ((HF5.out.cf.be.setCell (p := ⟨w.heap.size + 1, 0, none⟩) (Nat.le_succ _) _).setCell (p := ⟨w.heap.size + 1, 1, none⟩) (Nat.le_succ _) _)
            · have hfin : appliedR ls bs ws = (its, cs, 0) := by
                rw [← hst.out, List.drop_of_length_le (by have := HK.out; omega)]; rfl
              have HFIN := Lib.hid hfin
              have p0 := HA.out.p0
              have p1 := HA.out.p1
              have r0 := HA.out.cf.r0
              have r1 := HA.out.cf.r1
              have z0 := HA.out.cf.z0
              have z1 := HA.out.cf.z1
              clear hfin hap hst hbel
              go_wp2
              refine bodyPost_ret (v := .tuple #[.agg #[.slice A2 n2 c2, .slice B2 m d2], .int .i64 0]) (by simp [results, Try.results27, go_sem, r0, r1]) rfl ?_
              have o1 := ownsRow_setCell_below (ownsRow_setCell_below HA.out.oi (a := ⟨w.heap.size + 1, 0, none⟩) (by simp) (.slice A2 n2 c2)) (a := ⟨w.heap.size + 1, 1, none⟩) (by simp) (.slice B2 m d2)
              have o2 := ownsRow_setCell_below (ownsRow_setCell_below HA.out.ob (a := ⟨w.heap.size + 1, 0, none⟩) (by simp) (.slice A2 n2 c2)) (a := ⟨w.heap.size + 1, 1, none⟩) (by simp) (.slice B2 m d2)
              exact VolErrPost.mk' HFIN.out HA.out.ni HA.out.nb (own_mono o1 (by omega)) (own_mono o2 (by omega)) ((HA.out.cf.be.setCell (p := ⟨w.heap.size + 1, 0, none⟩) (Nat.le_succ _) _).setCell (p := ⟨w.heap.size + 1, 1, none⟩) (Nat.le_succ _) _)
    · have E2 := Lib.hid (applied_fault hg (by rw [← hml]; exact hf))
      rw [← hml] at E2
      obtain ⟨e, he⟩ : ∃ e, writesK ws m = e := ⟨_, rfl⟩
      rw [he] at E2 hf
      have HE := Lib.hid he
      have de : (e != 0) = true := by simp [hf]
      clear hg h h' hw hml hgv hf he
      go_enter Try.func27, Try.ntmps27
      go_wp2_with fail
      refine (HC.out _ HCF.out.be).mono ?_
      rintro e' w1 ⟨he, hb1⟩
      rw [VMayPost, E1.out] at he
      subst he
      have HF1 := Lib.hid (HCF.out.step hb1)
      obtain ⟨a0, a1, _, _, _, _, _, hbe⟩ := HF1.out
      clear hb1 hbe
      go_wp2_with fail
      refine (HCW.out _ HF1.out.be).mono ?_
      rintro e' w2 ⟨he, hb2⟩
      rw [FaultPost, HE.out] at he
      subst he
      have HF2 := Lib.hid (HF1.out.step hb2)
      clear hb2 a0 a1
      obtain ⟨a0, a1, r0, r1, z0, z1, hsz, hbe⟩ := HF2.out
      clear hbe
      go_wp2
      refine bodyPost_ret (v := .tuple #[.agg #[.slice none 0 0, .slice none 0 0], .int .i64 e]) (by simp [results, Try.results27, go_sem, r0, r1]) rfl ?_
      exact VolErrPost.nil E2.out ((HF2.out.be.setCell (p := ⟨w.heap.size + 1, 0, none⟩) (Nat.le_succ _) _).setCell (p := ⟨w.heap.size + 1, 1, none⟩) (Nat.le_succ _) _)
end Go.Proofs.Ytphbebcbbfbgpab
