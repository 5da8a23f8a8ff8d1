/- saltcellarref.VolumeCopy. saltcellarref.AppliedOf. The law VolumeApplies returns true for every volume and all writes. -/
import Derived.Test.YtphbebcbbfbgpabReadOf
import Derived.Test.YtphbebcbbfbgpabLawRepoKeeps
import Derived.Test.YtphbebcbbfbgpabBytes
import Derived.Test.YtphbebcbbfbgpabVolMay
import Derived.Test.YtphbebcbbfbgpabSame
namespace Go.Proofs.Ytphbebcbbfbgpab
open Go Go.RowKit

theorem step_append_rows {P : Program} {w : World} {ops : Array Oper} {o : Oper} {a : Act} {K : Act → World → Prop} {Q : Exit → Act → World → Prop} {E : Prop} {α : Type} {f : α → Nat → Value} (hgd : o.guard = none) (s x : Operand) (t : TypeId)
    (ho : o.op = .call { callee := .builtin .append, args := #[s, x], argTypes := #[t, t] })
    (e : TypeId) (i : TypeInfo) (z : Value) (size bytes : Nat) (ht : P.underlying t = some (.slice e)) (hi : P.info? e = some i) (hz : i.zero = some z) (hsize : i.size = size) (hby : i.bytes = bytes) (hzs : z.cells.size = size) (hsz : 0 < size)
    (A : Option Addr) (n c : Nat) (ls : List α) (hs : a.eval s = .slice none 0 0) (hx : a.eval x = .slice A n c) (B : Nat) (hr : Rep w B size f A n ls) (hnil : A = none → n = 0 ∧ c = 0) (h1 : ∀ u ∈ flat f size ls, u.oneCell' = true)
    (h63 : n ≤ maxLen) (hbytes : n * bytes ≤ 140737488355328)
    (h : ∀ A' c' w', w'.ownsRow w.heap.size e size (.slice A' n c') n (flat f size ls) → Below w.heap.size w w' → (A' = none → n = 0 ∧ c' = 0) → n ≤ c' → c' ≤ maxLen → K (a.put o.dst (.slice A' n c')) w') :
    if Region.wanted o (yielded ops a.tmps) = true then Oper.wp P o a w K Q else E := by
  have hn := hr.1
  cases A with
  | none =>
    obtain ⟨rfl, rfl⟩ := hnil rfl
    obtain rfl : ls = [] := List.eq_nil_of_length_eq_zero hn.symm
    have hrun := run_append_owned_none (P := P) (w := w) w.heap.size t o.type e i size ht hi (.slice none 0 0) 0 [] (World.ownsRow_nil _ _ _ _)
    exact step_append_run hgd s x t ho (.slice none 0 0) (.slice none 0 0) (.slice none 0 0) w hs hx hrun (h none 0 w (World.ownsRow_nil _ _ _ _) (Below.refl _ _) (fun _ => ⟨rfl, rfl⟩) (Nat.le_refl _) (by unfold maxLen; omega))
  | some ad =>
    refine step_append_own hgd s x t ho w.heap.size e i z size bytes ht hi hz hsize hby hzs hsz (.slice none 0 0) 0 [] hs (World.ownsRow_nil _ _ _ _) ad n c (flat f size ls) hx (by rw [flat_length, hn]) hr.flat_any h1 (by omega) (by rw [Nat.zero_add]; exact hbytes) (Nat.le_refl _) ?_
    intro v' w' hown hgr
    rw [Nat.zero_add, List.nil_append] at hown
    obtain ⟨A', c', rfl, hc1, hc2, hn'⟩ := own_form hown
    exact h A' c' w' hown ((Below.refl _ _).grown hgr (Nat.le_refl _) (by intro k hk; cases hk)) hn' hc1 hc2

set_option maxRecDepth 20000 in
set_option maxHeartbeats 2000000 in
theorem refCopy_any (A B : Option Addr) (n c m d : Nat) (ls : List Itm) (bs : List Int) (w : World) (h : Rep w w.heap.size 3 Itm.cell A n ls) (h' : Rep w w.heap.size 1 intCell B m bs)
    (hA : A = none → n = 0 ∧ c = 0) (hB : B = none → m = 0 ∧ d = 0) (hn : n * 32 ≤ 140737488355328) (hm : m * 8 ≤ 140737488355328) :
    Calls Try.prog 25 #[.agg #[.slice A n c, .slice B m d]] w (VolPost w n m ls bs) := by
  obtain ⟨i0, hi, hz0, hz1, hz2⟩ := info_parts infoItem
  have HI := Lib.hid hi
  have HZ0 := Lib.hid hz0
  have HZ1 := Lib.hid hz1
  have HZ2 := Lib.hid hz2
  obtain ⟨j0, gi, gz0, gz1, gz2⟩ := info_parts infoInt
  have GI := Lib.hid gi
  have GZ0 := Lib.hid gz0
  have GZ1 := Lib.hid gz1
  have GZ2 := Lib.hid gz2
  have H := Lib.hid h
  have H' := Lib.hid h'
  have HA := Lib.hid hA
  have HB := Lib.hid hB
  have hnx : n ≤ maxLen := by unfold maxLen; omega
  have hmx : m ≤ maxLen := by unfold maxLen; omega
  clear h h' hA hB hi hz0 hz1 hz2 gi gz0 gz1 gz2
  go_enter Try.func25, Try.ntmps25
  go_wp2
  have hf0 : CopyF w (.slice A n c) (.slice B m d) ((w.alloc (.cells #[.slice A n c, .slice B m d] 30)).alloc (.cells #[.slice none 0 0, .slice none 0 0] 30)).drew := by
    refine ⟨?_, ?_, ?_, ?_, ?_, ?_, by simp, (((Below.refl _ _).alloc (Nat.le_refl _) _).alloc (by simp) _).drew⟩
    all_goals simp [go_sem]
  have HF := Lib.hid hf0
  clear hf0
  go_region_law (first
    | (have HFc : Hid (CopyF w (.slice A n c) (.slice B m d) _) := (by assumption); refine step_append_rows rfl (.const (.slice none 0 0)) (.tmp 4) 22 rfl 61 i0 _ 3 32 Try.underlying22 HI.out HZ0.out HZ1.out HZ2.out rfl (by decide) A n c ls rfl (by simp [Act.eval]) _ (H.out.below HFc.out.be (Nat.le_refl _)) HA.out (itm_one ls) hnx hn ?_; intro A1 k1 w1 hown1 hb1 hn1 hk1 hl1; have HF1 := Lib.hid (HFc.out.step hb1); have HO1 := Lib.hid hown1; have HB1 := Lib.hid hb1; have c1 := HF1.out.a0; have c2 := HF1.out.a1; have c3 := HF1.out.r0; have c4 := HF1.out.r1; have c5 := HF1.out.z0; have c6 := HF1.out.z1; clear hown1 hb1)
    | (have HFc : Hid (CopyF w (.slice A n c) (.slice B m d) _) := (by assumption); refine step_append_rows rfl (.const (.slice none 0 0)) (.tmp 7) 28 rfl 3 j0 _ 1 8 Try.underlying28 GI.out GZ0.out GZ1.out GZ2.out rfl (by decide) B m d bs rfl (by simp [Act.eval]) _ (H'.out.below HFc.out.be (Nat.le_refl _)) HB.out (int_one bs) hmx hm ?_; intro A2 k2 w2 hown2 hb2 hn2 hk2 hl2; have HF2 := Lib.hid (HFc.out.step hb2); have HO2 := Lib.hid hown2; have HB2 := Lib.hid hb2; have c1 := HF2.out.a0; have c2 := HF2.out.a1; have c3 := HF2.out.r0; have c4 := HF2.out.r1; have c5 := HF2.out.z0; have c6 := HF2.out.z1; clear hown2 hb2))
  all_goals first
    | (have hsz1 : w.heap.size + 1 < w1.heap.size := HF1.out.sz; have o1 := ownsRow_setCell_below (ownsRow_setCell_below (own_below HO1.out HB2.out) (a := ⟨w.heap.size + 1, 0, none⟩) (by first | omega | (simp; done) | (simp; omega)) (.slice A1 n k1)) (a := ⟨w.heap.size + 1, 1, none⟩) (by first | omega | (simp; done) | (simp; omega)) (.slice A2 m k2); have o2 := ownsRow_setCell_below (ownsRow_setCell_below HO2.out (a := ⟨w.heap.size + 1, 0, none⟩) (by first | omega | (simp; done) | (simp; omega)) (.slice A1 n k1)) (a := ⟨w.heap.size + 1, 1, none⟩) (by first | omega | (simp; done) | (simp; omega)) (.slice A2 m k2); have b2 := (HF2.out.be.setCell (p := ⟨w.heap.size + 1, 0, none⟩) (Nat.le_succ _) (.slice A1 n k1)).setCell (p := ⟨w.heap.size + 1, 1, none⟩) (Nat.le_succ _) (.slice A2 m k2); have O1 := Lib.hid (own_mono o1 (base' := w.heap.size) (by first | omega | (simp; done) | (simp; omega))); have O2 := Lib.hid (own_mono o2 (base' := w.heap.size) (by first | omega | (simp; done) | (simp; omega))); have B2 := Lib.hid b2; clear o1 o2 b2; go_wp2; refine bodyPost_ret (v := .agg #[.slice A1 n k1, .slice A2 m k2]) (by simp [results, Try.results25, go_sem, c3, c4]) rfl ?_; exact ⟨A1, k1, A2, k2, rfl, O1.out, O2.out, B2.out, hk1, hl1, hk2, hl2, hn1, hn2⟩)
    | (have hsz1 : w.heap.size + 1 < w2.heap.size := HF2.out.sz; have o1 := ownsRow_setCell_below (ownsRow_setCell_below HO1.out (a := ⟨w.heap.size + 1, 0, none⟩) (by first | omega | (simp; done) | (simp; omega)) (.slice A1 n k1)) (a := ⟨w.heap.size + 1, 1, none⟩) (by first | omega | (simp; done) | (simp; omega)) (.slice A2 m k2); have o2 := ownsRow_setCell_below (ownsRow_setCell_below (own_below HO2.out HB1.out) (a := ⟨w.heap.size + 1, 0, none⟩) (by first | omega | (simp; done) | (simp; omega)) (.slice A1 n k1)) (a := ⟨w.heap.size + 1, 1, none⟩) (by first | omega | (simp; done) | (simp; omega)) (.slice A2 m k2); have b2 := (HF1.out.be.setCell (p := ⟨w.heap.size + 1, 0, none⟩) (Nat.le_succ _) (.slice A1 n k1)).setCell (p := ⟨w.heap.size + 1, 1, none⟩) (Nat.le_succ _) (.slice A2 m k2); have O1 := Lib.hid (own_mono o1 (base' := w.heap.size) (by first | omega | (simp; done) | (simp; omega))); have O2 := Lib.hid (own_mono o2 (base' := w.heap.size) (by first | omega | (simp; done) | (simp; omega))); have B2 := Lib.hid b2; clear o1 o2 b2; go_wp2; refine bodyPost_ret (v := .agg #[.slice A1 n k1, .slice A2 m k2]) (by simp [results, Try.results25, go_sem, c3, c4]) rfl ?_; exact ⟨A1, k1, A2, k2, rfl, O1.out, O2.out, B2.out, hk1, hl1, hk2, hl2, hn1, hn2⟩)
end Go.Proofs.Ytphbebcbbfbgpab

namespace Go.Proofs.Ytphbebcbbfbgpab
open Go Go.RowKit

set_option maxRecDepth 100000 in
set_option maxHeartbeats 8000000 in
theorem applied_any (A B C : Option Addr) (n c m d k c' : Nat) (ls : List Itm) (bs : List Int) (ws : List Wrt) (w : World) (h : Rep w w.heap.size 3 Itm.cell A n ls) (h' : Rep w w.heap.size 1 intCell B m bs) (hw : Rep w w.heap.size 2 Wrt.cell C k ws)
    (hA : A = none → n = 0 ∧ c = 0) (hB : B = none → m = 0 ∧ d = 0) (hn : n ≤ maxLen) (hm : m ≤ maxLen) (hk : k ≤ maxLen) :
    Calls Try.prog 27 #[.agg #[.slice A n c, .slice B m d], .slice C k c'] w (VolErrPost w (appliedR ls bs ws)) := by
  have hc : ∀ W, Below w.heap.size w W → Calls Try.prog 38 #[.agg #[.slice A n c, .slice B m d]] W fun e w' => VMayPost ls bs e ∧ Below W.heap.size W w' :=
    fun W hb => volMay_any A B n c m d ls bs W ((h.below hb (Nat.le_refl _)).mono hb.size) ((h'.below hb (Nat.le_refl _)).mono hb.size) hn hm
  have hcw : ∀ W, Below w.heap.size w W → Calls Try.prog 58 #[.slice C k c', .int .i64 m] W fun e w' => FaultPost ws m e ∧ Below W.heap.size W w' :=
    fun W hb => fault_any C k c' m ws W ((hw.below hb (Nat.le_refl _)).mono hb.size) hk (by omega) (by unfold maxLen at hm; omega)
  have hcf : CopyF w (.slice A n c) (.slice B m d) ((w.alloc (.cells #[.slice A n c, .slice B m d] 30)).alloc (.cells #[.slice none 0 0, .slice none 0 0] 30)) := by
    refine ⟨?_, ?_, ?_, ?_, ?_, ?_, by simp, ((Below.refl _ _).alloc (Nat.le_refl _) _).alloc (by simp) _⟩
    all_goals simp [go_sem]
  have HCF := Lib.hid hcf
  have HC := Lib.hid hc
  have HCW := Lib.hid hcw
  have HREPW := Lib.hid hw
  have hml := h'.1
  have HM := Lib.hid hml
  have HK := Lib.hid hw.1
  clear hcf hc hcw
  cases hg : goodVB ls bs with
  | false =>
    have E1 := Lib.hid hg
    have E2 := Lib.hid (applied_bad ws hg)
    clear hg h h' hw hml
    go_enter Try.func27, Try.ntmps27
    go_wp2_with fail
    refine (HC.out _ HCF.out.be).mono ?_
    rintro e w1 ⟨he, hb1⟩
    rw [VMayPost, E1.out] at he
    subst he
    have HF1 := Lib.hid (HCF.out.step hb1)
    obtain ⟨a0, a1, r0, r1, z0, z1, hsz, hbe⟩ := HF1.out
    clear hb1 hbe
    go_wp2
    refine bodyPost_ret (v := .tuple #[.agg #[.slice none 0 0, .slice none 0 0], .int .i64 7]) (by simp [results, Try.results27, go_sem, r0, r1]) rfl ?_
    exact VolErrPost.nil E2.out ((HF1.out.be.setCell (p := ⟨w.heap.size + 1, 0, none⟩) (Nat.le_succ _) _).setCell (p := ⟨w.heap.size + 1, 1, none⟩) (Nat.le_succ _) _)
  | true =>
    have hgv := goodVB_of hg
    have E1 := Lib.hid hg
    have hm32 : m ≤ 32 := by have := hgv.hi; omega
    have h24 : n ≤ 24 := by have := hgv.good.1; have := h.1; omega
    by_cases hf : writesK ws m = 0
    · have hon : appliedR ls bs ws = keepAll (ws.foldl dropStep (ls, bs)).1 (ws.foldl dropStep (ls, bs)).2 ws := applied_on hg (by rw [← hml]; exact hf)
      have gw := writesK_zero.1 hf
      have hk12 : k ≤ 12 := by have := gw.len; have := hw.1; omega
      have hcp : ∀ W, Below w.heap.size w W → Calls Try.prog 25 #[.agg #[.slice A n c, .slice B m d]] W (VolPost W n m ls bs) :=
        fun W hb => refCopy_any A B n c m d ls bs W ((h.below hb (Nat.le_refl _)).mono hb.size) ((h'.below hb (Nat.le_refl _)).mono hb.size) hA hB (by omega) (by omega)
      have HCP := Lib.hid hcp
      have E2 := Lib.hid hf
      have GW := Lib.hid gw
      have GV := Lib.hid hgv
      have ON := Lib.hid hon
      have HNL := Lib.hid h.1
      clear hg hf hcp h h' hw hml gw hgv hon
      go_enter Try.func27, Try.ntmps27
      go_wp2_with fail
      refine (HC.out _ HCF.out.be).mono ?_
      rintro e w1 ⟨he, hb1⟩
      rw [VMayPost, E1.out] at he
      subst he
      have HF1 := Lib.hid (HCF.out.step hb1)
      obtain ⟨a0, a1, _, _, _, _, _, hbe⟩ := HF1.out
      clear hb1 hbe
      go_wp2_with fail
      refine (HCW.out _ HF1.out.be).mono ?_
      rintro e w2 ⟨he, hb2⟩
      rw [FaultPost, E2.out] at he
      subst he
      have HF2 := Lib.hid (HF1.out.step hb2)
      clear hb2 a0 a1
      obtain ⟨a0, a1, _, _, _, _, _, hbe⟩ := HF2.out
      clear hbe
      go_wp2_with fail
      refine (HCP.out _ HF2.out.be).mono ?_
      rintro e w3 ⟨A1, c1, B1, d1, rfl, ho1, ho2, hb3, _, _, _, _, _, _⟩
      have HF3 := Lib.hid (HF2.out.step hb3)
      have hs2 := HF2.out.sz
      have hap : ApF w (.slice A n c) (.slice B m d) w3.heap.size A1 n c1 B1 m d1 ls bs (w3.alloc (.cells #[.slice A1 n c1, .slice B1 m d1] 30)) := by
        refine ⟨HF3.out.step ((Below.refl _ _).alloc (Nat.le_refl _) _), ?_, ?_, ?_, ?_, by have := hb3.size; omega, by simp, own_mono (ho1.alloc _) (by omega), own_mono (ho2.alloc _) (by omega), ?_, ?_, HNL.out, HM.out⟩
        · simp [go_sem]
        · simp [go_sem]
        · simp [go_sem]
        · simp [go_sem]
        · intro g hg; have := (ho1.lt g hg).2; omega
        · intro g hg; have := (ho2.lt g hg).2; omega
      have HAP := Lib.hid hap
      clear hap hb3 ho1 ho2 a0 a1 hs2
      obtain ⟨P, hP⟩ : ∃ P, w3.heap.size = P := ⟨_, rfl⟩
      rw [hP] at HAP
      go_wp2
      clear hP
      go_loopw [8] (fun t wr => ∃ (i : Nat) (A1 : Option Addr) (n1 c1 : Nat) (B1 : Option Addr) (d1 : Nat) (its : List Itm) (cs : List Int), i ≤ k ∧ t = .int .i64 i ∧ ApF w (.slice A n c) (.slice B m d) P A1 n1 c1 B1 m d1 its cs wr ∧ Hid ((its, cs) = (ws.take i).foldl dropStep (ls, bs))) (fun t _ => k - (intOf t).toNat)
      case atStart => exact ⟨0, A1, n, c1, B1, d1, ls, bs, Nat.zero_le _, rfl, HAP.out, Lib.hid (by rw [List.take_zero]; rfl)⟩
      case round =>
        obtain ⟨i, A2, n2, c2, B2, d2, its, cs, hi, rfl, hap, hst⟩ := hrel
        have HA := Lib.hid hap
        have hbel := hap.cf.be
        have hrng : ∀ x ∈ ws.take i, 0 ≤ x.block ∧ x.block < ((ls, bs).2.length : Int) := fun x hx => by
          have h1 := GW.out.lo x (List.mem_of_mem_take hx)
          have h2 := GW.out.hi x (List.mem_of_mem_take hx)
          have := HM.out
          exact ⟨h1, by simp only; omega⟩
        have hgd := dropAll_good (ws := ws.take i) (s := (ls, bs)) GV.out hrng
        rw [← hst.out] at hgd
        have hcm : cs.length = m := by rw [hgd.2]; exact HM.out.symm
        have hgv2 := hgd.1
        simp only at hgv2
        by_cases hlt : i < k
        · obtain ⟨gw, offw, rfl, hgb, e0, e1⟩ := writes_at (k := i) (HREPW.out.below hbel (Nat.le_refl _)) hlt
          have hil : i < ws.length := by have := HK.out; omega
          have hx0 := GW.out.lo _ (List.getElem_mem hil)
          have hx1 := GW.out.hi _ (List.getElem_mem hil)
          have hnext := foldl_take_succ dropStep (ls, bs) ws hil
          rw [← hst.out] at hnext
          obtain ⟨x, hx⟩ : ∃ x, ws[i]'hil = x := ⟨_, rfl⟩
          rw [hx] at e0 e1 hx0 hx1 hnext
          obtain ⟨xb, xd⟩ := x
          dsimp only at e0 e1 hx0 hx1
          obtain ⟨q, rfl⟩ : ∃ q : Nat, xb = q := ⟨xb.toNat, by omega⟩
          have hq : q < cs.length := by omega
          have hqm : q < m := by omega
          obtain ⟨g, cap, hB2, hg0, hg1⟩ := hap.ob.form (by omega)
          simp only [Value.slice.injEq] at hB2
          obtain ⟨rfl, _, rfl⟩ := hB2
          have HAA := Lib.hid hap
          have HAD := Lib.hid (hap.step (Below.refl _ _).drew)
          have hgw : ¬ gw = P ∧ ¬ P = gw := by have := hap.pw; omega
          obtain ⟨hgw1, hgw2⟩ := hgw
          have hgP := hap.sb g rfl
          have hPg : P ≠ g := fun e => hgP e.symm
          obtain ⟨_, c0⟩ := ints_of (k := q) HAA.out.repB hqm
          rw [Nat.zero_add] at c0
          have hds : dropStep (its, cs) ⟨q, xd⟩ = if 0 ≤ cs[q] then (dropL its cs[q], cs.set q (-1)) else (its, cs) := by
            unfold dropStep
            simp only [Int.toNat_natCast, getD_lt hq]
          have hgot : 0 ≤ cs[q] → gotK its cs[q] = 0 := fun h0 => by
            obtain ⟨z, hz, he⟩ := hgv2.ids _ (List.getElem_mem hq) h0
            rw [← he]; exact gotK_of_mem hgv2.good hz
          obtain ⟨y, hy⟩ : ∃ y, cs[q] = y := ⟨_, rfl⟩
          rw [hy] at c0 hds hgot
          have p0 := HAA.out.p0
          have p1 := HAA.out.p1
          have hn2 : n2 ≤ maxLen ∧ (A2 = none → n2 = 0 ∧ c2 = 0) := by
            obtain ⟨_, _, he, h1, h2, h3⟩ := own_form hap.oi
            simp only [Value.slice.injEq] at he
            obtain ⟨rfl, _, rfl⟩ := he
            exact ⟨by omega, h3⟩
          have HN2 := Lib.hid hn2
          have HGV2 := Lib.hid hgv2
          have HNX := Lib.hid hnext
          have HDS := Lib.hid hds
          clear hx hap hst hbel hrng hgd hgv2 hnext hds hy hgb hn2 hcm hq
          by_cases hy0 : 0 ≤ y
          · have d1 : decide (y ≥ 0) = true := decide_eq_true hy0
            have hgot0 := Lib.hid (hgot hy0)
            have hdr : droppedR its y = dropL its y := by rw [droppedR, if_pos hgot0.out]
            have HDR := Lib.hid hdr
            have HD2 : Hid (dropStep (its, cs) ⟨q, xd⟩ = (dropL its y, cs.set q (-1))) := Lib.hid (by rw [HDS.out, if_pos hy0])
            clear hgot hdr
            go_wp2
            go_region_with (go_at_call 12; (with_reducible refine (dropped_any A2 n2 c2 y its _ HAD.out.rep HN2.out.1).mono ?_); rw [HDR.out, hgot0.out]; rintro e w5 ⟨A3, c3, rfl, hown, hb5, _, _, _⟩; obtain ⟨u, hu⟩ : ∃ u, (dropL its y).length = u := ⟨_, rfl⟩; rw [hu] at hown ⊢; have HU := Lib.hid hu; have HF5 := Lib.hid (HAD.out.step hb5); have hsz5 : P < wr.heap.size := HAD.out.ps; have hit := HF5.out.items (own_mono hown (by have := HAA.out.cf.sz; exact this)) HU.out.symm (fun g' hg' => by have h1 : wr.heap.size ≤ g' := (hown.lt g' hg').1; omega); have HIT := Lib.hid (hit.block q (-1)); have p0' := HF5.out.p0; have p1' := HF5.out.p1; have f0' := HF5.out.f0; obtain ⟨_, c0'⟩ := ints_of (k := q) HF5.out.repB hqm; rw [Nat.zero_add] at c0'; have z0' := HF5.out.ob.frozenAt q; clear p0 p1 c0 hu hown hb5 hsz5 hit)
            all_goals
              go_wp2
              go_roundw
              case rel => exact ⟨i + 1, A3, u, c3, _, _, dropL its y, cs.set q (-1), by omega, by go_num, HIT.out, Lib.hid (by rw [HNX.out, HD2.out])⟩
              case measure => simp [intOf]; omega
          · have d1 : decide (y ≥ 0) = false := decide_eq_false hy0
            have HD2 : Hid (dropStep (its, cs) ⟨q, xd⟩ = (its, cs)) := Lib.hid (by rw [HDS.out, if_neg hy0])
            clear hgot
            go_wp2
            go_roundw
            case rel => exact ⟨i + 1, A2, n2, c2, _, _, its, cs, by omega, by go_num, HAA.out, Lib.hid (by rw [HNX.out, HD2.out])⟩
            case measure => simp [intOf]; omega
        · have hfin : keepAll its cs (ws.drop 0) = appliedR ls bs ws := by
            have e := hst.out
            rw [List.take_of_length_le (by have := HK.out; omega)] at e
            rw [ON.out, ← e, List.drop_zero]
          have HFIN := Lib.hid hfin
          have HCM := Lib.hid hcm
          clear hfin hap hst hbel hrng hgd hgv2 hcm
          obtain ⟨wo, rfl⟩ : ∃ wo, wo = wr := ⟨_, rfl⟩
          go_wp2
          go_loopw [10] (fun t wr => ∃ (i : Nat) (A1 : Option Addr) (n1 c1 : Nat) (B1 : Option Addr) (d1 : Nat) (its : List Itm) (cs : List Int), i ≤ k ∧ t = .int .i64 i ∧ ApF w (.slice A n c) (.slice B m d) P A1 n1 c1 B1 m d1 its cs wr ∧ Hid (keepAll its cs (ws.drop i) = appliedR ls bs ws)) (fun t _ => k - (intOf t).toNat)
          case atStart => exact ⟨0, A2, n2, c2, B2, d2, its, cs, Nat.zero_le _, rfl, HA.out, HFIN⟩
          case round =>
            obtain ⟨i, A2, n2, c2, B2, d2, its, cs, hi, rfl, hap, hst⟩ := hrel
            have HA := Lib.hid hap
            have hbel := hap.cf.be
            by_cases hlt : i < k
            · obtain ⟨gw, offw, rfl, hgb, e0, e1⟩ := writes_at (k := i) (HREPW.out.below hbel (Nat.le_refl _)) hlt
              have hil : i < ws.length := by have := HK.out; omega
              have hx0 := GW.out.lo _ (List.getElem_mem hil)
              have hx1 := GW.out.hi _ (List.getElem_mem hil)
              have hx48 := GW.out.size _ (List.getElem_mem hil)
              have hnext := hst.out
              rw [List.drop_eq_getElem_cons hil, keepAll] at hnext
              obtain ⟨x, hx⟩ : ∃ x, ws[i]'hil = x := ⟨_, rfl⟩
              rw [hx] at e0 e1 hx0 hx1 hnext hx48
              obtain ⟨xb, xd⟩ := x
              dsimp only at e0 e1 hx0 hx1 hnext hx48
              obtain ⟨q, rfl⟩ : ∃ q : Nat, xb = q := ⟨xb.toNat, by omega⟩
              rw [Int.toNat_natCast] at hnext
              have hcm : m = cs.length := hap.nb
              have hq : q < cs.length := by omega
              have hqm : q < m := by omega
              obtain ⟨g, cap, hB2, hg0, hg1⟩ := hap.ob.form (by omega)
              simp only [Value.slice.injEq] at hB2
              obtain ⟨rfl, _, rfl⟩ := hB2
              have HAA := Lib.hid hap
              have HAD := Lib.hid (hap.step (Below.refl _ _).drew)
              have hgw : ¬ gw = P ∧ ¬ P = gw := by have := hap.pw; omega
              obtain ⟨hgw1, hgw2⟩ := hgw
              have hgwl : gw < wr.heap.size := by have := hap.cf.be.size; omega
              have hgP := hap.sb g rfl
              have hPg : P ≠ g := fun e => hgP e.symm
              have p0 := HAA.out.p0
              have p1 := HAA.out.p1
              have hn2 : n2 ≤ maxLen ∧ (A2 = none → n2 = 0 ∧ c2 = 0) := by
                obtain ⟨_, _, he, h1, h2, h3⟩ := own_form hap.oi
                simp only [Value.slice.injEq] at he
                obtain ⟨rfl, _, rfl⟩ := he
                exact ⟨by omega, h3⟩
              have HN2 := Lib.hid hn2
              have HNX := Lib.hid hnext
              have HCM := Lib.hid hcm
              clear hx hap hst hbel hnext hgb hn2 hcm hq
              by_cases hd0 : xd.size = 0
              · have hemp : decide ((xd.size : Int) > 0) = false := decide_eq_false (by omega)
                have hemp2 : decide (0 < xd.size) = false := decide_eq_false (by omega)
                have HNX2 : Hid (keepAll its cs (ws.drop (i + 1)) = appliedR ls bs ws) := Lib.hid (by rw [← HNX.out, if_pos hd0])
                clear hd0
                go_wp2
                go_roundw
                case rel => exact ⟨i + 1, A2, n2, c2, _, _, its, cs, by omega, by go_num, HAA.out, HNX2⟩
                case measure => simp [intOf]; omega
              · have hemp : decide ((xd.size : Int) > 0) = true := decide_eq_true (by omega)
                have hemp2 : decide (0 < xd.size) = true := decide_eq_true (by omega)
                have hnx2 := HNX.out
                rw [if_neg hd0] at hnx2
                obtain ⟨r, hr⟩ : ∃ r, keptR its xd = r := ⟨_, rfl⟩
                rw [hr] at hnx2
                obtain ⟨us, id, e⟩ := r
                dsimp only at hnx2
                have HR := Lib.hid hr
                have HNX2 := Lib.hid hnx2
                have hd0' := Lib.hid hd0
                clear hr hnx2 hd0
                go_wp2
                go_region_with (go_at_call 20; (with_reducible refine (kept_any A2 n2 c2 xd its _ HAD.out.rep HN2.out.1 HN2.out.2 (by unfold maxLen; omega)).mono ?_); rw [HR.out]; rintro _ w5 ⟨A3, c3, rfl, hown, hb5⟩; dsimp only at hown ⊢; obtain ⟨u, hu⟩ : ∃ u, us.length = u := ⟨_, rfl⟩; rw [hu] at hown ⊢; have HU := Lib.hid hu; have HF5 := Lib.hid (HAD.out.step hb5); have hsz5 : P < wr.heap.size := HAD.out.ps; have hit := HF5.out.items (own_mono hown (by have := HAA.out.cf.sz; exact this)) HU.out.symm (fun g' hg' => by have h1 : wr.heap.size ≤ g' := (hown.lt g' hg').1; omega); have HIT := Lib.hid (hit.block q id); have p0' := HF5.out.p0; have p1' := HF5.out.p1; have f0' := HF5.out.f0; have z0' := HF5.out.ob.frozenAt q; have e0' : w5.cell? ⟨gw, offw + i * 2, none⟩ = some (.int .i64 q) := (hb5.cell (by exact hgwl)).trans e0; clear p0 p1 hu hown hb5 hsz5 hit)
                all_goals
                  by_cases he0 : e = 0
                  · have c0' : ∃ y, w5.cell? ⟨g, q, none⟩ = some (.int .i64 y) := by
                      obtain ⟨_, c0'⟩ := ints_of (k := q) HF5.out.repB hqm
                      rw [Nat.zero_add] at c0'
                      exact ⟨_, c0'⟩
                    obtain ⟨y, c0'⟩ := c0'
                    have HNX3 : Hid (keepAll us (cs.set q id) (ws.drop (i + 1)) = appliedR ls bs ws) := Lib.hid (by have := HNX2.out; rwa [if_pos he0] at this)
                    subst he0
                    go_wp2
                    go_region
                    go_wp2
                    go_roundw
                    case rel => exact ⟨i + 1, A3, u, c3, _, _, us, cs.set q id, by omega, by go_num, HIT.out.step (below_drewN (Below.refl _ _) 1), HNX3⟩
                    case measure => simp [intOf]; omega
                  · have HNX3 : Hid (appliedR ls bs ws = ([], [], e)) := Lib.hid (by have := HNX2.out; rw [if_neg he0] at this; exact this.symm)
                    have de : (e != 0) = true := by simp [he0]
                    have r0 := HF5.out.cf.r0
                    have r1 := HF5.out.cf.r1
                    have z0 := HF5.out.cf.z0
                    have z1 := HF5.out.cf.z1
                    clear he0
                    go_wp2
                    refine bodyPost_ret (v := .tuple #[.agg #[.slice none 0 0, .slice none 0 0], .int .i64 e]) (by simp [results, Try.results27, go_sem, r0, r1]) rfl ?_
                    exact VolErrPost.nil HNX3.out ((HF5.out.cf.be.setCell (p := ⟨w.heap.size + 1, 0, none⟩) (Nat.le_succ _) _).setCell (p := ⟨w.heap.size + 1, 1, none⟩) (Nat.le_succ _) _)
            · have hfin : appliedR ls bs ws = (its, cs, 0) := by
                rw [← hst.out, List.drop_of_length_le (by have := HK.out; omega)]; rfl
              have HFIN := Lib.hid hfin
              have p0 := HA.out.p0
              have p1 := HA.out.p1
              have r0 := HA.out.cf.r0
              have r1 := HA.out.cf.r1
              have z0 := HA.out.cf.z0
              have z1 := HA.out.cf.z1
              clear hfin hap hst hbel
              go_wp2
              refine bodyPost_ret (v := .tuple #[.agg #[.slice A2 n2 c2, .slice B2 m d2], .int .i64 0]) (by simp [results, Try.results27, go_sem, r0, r1]) rfl ?_
              have o1 := ownsRow_setCell_below (ownsRow_setCell_below HA.out.oi (a := ⟨w.heap.size + 1, 0, none⟩) (by simp) (.slice A2 n2 c2)) (a := ⟨w.heap.size + 1, 1, none⟩) (by simp) (.slice B2 m d2)
              have o2 := ownsRow_setCell_below (ownsRow_setCell_below HA.out.ob (a := ⟨w.heap.size + 1, 0, none⟩) (by simp) (.slice A2 n2 c2)) (a := ⟨w.heap.size + 1, 1, none⟩) (by simp) (.slice B2 m d2)
              exact VolErrPost.mk' HFIN.out HA.out.ni HA.out.nb (own_mono o1 (by omega)) (own_mono o2 (by omega)) ((HA.out.cf.be.setCell (p := ⟨w.heap.size + 1, 0, none⟩) (Nat.le_succ _) _).setCell (p := ⟨w.heap.size + 1, 1, none⟩) (Nat.le_succ _) _)
    · have E2 := Lib.hid (applied_fault hg (by rw [← hml]; exact hf))
      rw [← hml] at E2
      obtain ⟨e, he⟩ : ∃ e, writesK ws m = e := ⟨_, rfl⟩
      rw [he] at E2 hf
      have HE := Lib.hid he
      have de : (e != 0) = true := by simp [hf]
      clear hg h h' hw hml hgv hf he
      go_enter Try.func27, Try.ntmps27
      go_wp2_with fail
      refine (HC.out _ HCF.out.be).mono ?_
      rintro e' w1 ⟨he, hb1⟩
      rw [VMayPost, E1.out] at he
      subst he
      have HF1 := Lib.hid (HCF.out.step hb1)
      obtain ⟨a0, a1, _, _, _, _, _, hbe⟩ := HF1.out
      clear hb1 hbe
      go_wp2_with fail
      refine (HCW.out _ HF1.out.be).mono ?_
      rintro e' w2 ⟨he, hb2⟩
      rw [FaultPost, HE.out] at he
      subst he
      have HF2 := Lib.hid (HF1.out.step hb2)
      clear hb2 a0 a1
      obtain ⟨a0, a1, r0, r1, z0, z1, hsz, hbe⟩ := HF2.out
      clear hbe
      go_wp2
      refine bodyPost_ret (v := .tuple #[.agg #[.slice none 0 0, .slice none 0 0], .int .i64 e]) (by simp [results, Try.results27, go_sem, r0, r1]) rfl ?_
      exact VolErrPost.nil E2.out ((HF2.out.be.setCell (p := ⟨w.heap.size + 1, 0, none⟩) (Nat.le_succ _) _).setCell (p := ⟨w.heap.size + 1, 1, none⟩) (Nat.le_succ _) _)
end Go.Proofs.Ytphbebcbbfbgpab

namespace Go.Proofs.Ytphbebcbbfbgpab
open Go Go.RowKit

/-- What stands in a block that holds a volume, in any world of a call. -/
structure VB3 (B : Nat) (s1 s2 : Value) (W : World) : Prop where
  a0 : W.cell? ⟨B, 0, none⟩ = some s1
  a1 : W.cell? ⟨B, 1, none⟩ = some s2
  sz : B < W.heap.size
theorem VB3.step {W W' : World} {B : Nat} {s1 s2 : Value} (h : VB3 B s1 s2 W) (hb : Below W.heap.size W W') : VB3 B s1 s2 W' where
  a0 := (hb.cell h.sz).trans h.a0
  a1 := (hb.cell h.sz).trans h.a1
  sz := Nat.lt_of_lt_of_le h.sz hb.size
theorem VB3.new (W : World) (s1 s2 : Value) (T : TypeId) : VB3 W.heap.size s1 s2 (W.alloc (.cells #[s1, s2] T)) := by
  refine ⟨?_, ?_, by simp⟩
  all_goals simp [go_sem]

theorem keepAll_len : ∀ (ws : List Wrt) (ls : List Itm) (bs : List Int), ls.length ≤ 25 → bs.length ≤ 32 → (keepAll ls bs ws).1.length ≤ 25 ∧ (keepAll ls bs ws).2.1.length ≤ 32
  | [], ls, bs, h1, h2 => ⟨h1, h2⟩
  | w :: r, ls, bs, h1, h2 => by
    rw [keepAll]
    split
    · exact keepAll_len r ls bs h1 h2
    · split
      · refine keepAll_len r _ _ ?_ (by rw [List.length_set]; exact h2)
        refine keptR_len ls w.data ?_
        cases hg : goodB ls with
        | false => exact .inr rfl
        | true => exact .inl (good_of_B hg).1
      · exact ⟨by simp, by simp⟩
theorem dropAll_len {ws : List Wrt} : ∀ {s : List Itm × List Int}, s.1.length ≤ 25 → s.2.length ≤ 32 → (ws.foldl dropStep s).1.length ≤ 25 ∧ (ws.foldl dropStep s).2.length ≤ 32 := by
  induction ws with
  | nil => intro s h1 h2; exact ⟨h1, h2⟩
  | cons w r ih =>
    intro s h1 h2
    rw [List.foldl_cons]
    refine ih ?_ (by rw [dropStep_len]; exact h2)
    unfold dropStep
    split
    · have h3 : ∀ id, (dropL s.1 id).length ≤ (upRefs s.1 id (-1)).length := fun id => List.length_filter_le _ _
      have h4 : ∀ id, (upRefs s.1 id (-1)).length = s.1.length := fun id => by simp [upRefs]
      have := h3 (s.2.getD w.block.toNat 0)
      have := h4 (s.2.getD w.block.toNat 0)
      simp only
      omega
    · exact h1
theorem applied_len (ls : List Itm) (bs : List Int) (ws : List Wrt) : (appliedR ls bs ws).1.length ≤ 25 ∧ (appliedR ls bs ws).2.1.length ≤ 32 := by
  unfold appliedR
  split
  · rename_i hg
    have g := goodVB_of hg
    split
    · have h1 := g.good.1
      have := dropAll_len (ws := ws) (s := (ls, bs)) (by simp only; omega) g.hi
      exact keepAll_len ws _ _ this.1 this.2
    · exact ⟨by simp, by simp⟩
  · exact ⟨by simp, by simp⟩

set_option maxRecDepth 20000 in
set_option maxHeartbeats 4000000 in
theorem lawVolumeApplies (A B C : Option Addr) (n c m d k c' : Nat) (ls : List Itm) (bs : List Int) (ws : List Wrt) (w : World) (h : Rep w w.heap.size 3 Itm.cell A n ls) (h' : Rep w w.heap.size 1 intCell B m bs) (hw : Rep w w.heap.size 2 Wrt.cell C k ws)
    (hA : A = none → n = 0 ∧ c = 0) (hB : B = none → m = 0 ∧ d = 0) (hn : n * 32 ≤ 140737488355328) (hm : m * 8 ≤ 140737488355328) (hk : k ≤ maxLen) (hok : ∀ b ∈ bs, i64Ok b) :
    Calls Try.prog 9 #[.agg #[.slice A n c, .slice B m d], .slice C k c'] w fun e w' => e = .returned (.bool true) ∧ Below w.heap.size w w' := by
  have hnx : n ≤ maxLen := by unfold maxLen; omega
  have hmx : m ≤ maxLen := by unfold maxLen; omega
  obtain ⟨r, hr⟩ : ∃ r, appliedR ls bs ws = r := ⟨_, rfl⟩
  have hrl := applied_len ls bs ws
  rw [hr] at hrl
  have hcp : ∀ W, Below w.heap.size w W → Calls Try.prog 25 #[.agg #[.slice A n c, .slice B m d]] W (VolPost W n m ls bs) :=
    fun W hb => refCopy_any A B n c m d ls bs W ((h.below hb (Nat.le_refl _)).mono hb.size) ((h'.below hb (Nat.le_refl _)).mono hb.size) hA hB hn hm
  have hap : ∀ (A1 B1 : Option Addr) (c1 d1 : Nat) (W : World), Below w.heap.size w W → Rep W W.heap.size 3 Itm.cell A1 n ls → Rep W W.heap.size 1 intCell B1 m bs → (A1 = none → n = 0 ∧ c1 = 0) → (B1 = none → m = 0 ∧ d1 = 0) →
      Calls Try.prog 26 #[.agg #[.slice A1 n c1, .slice B1 m d1], .slice C k c'] W (VolErrPost W r) :=
    fun A1 B1 c1 d1 W hb h1 h2 h3 h4 => by rw [← hr]; exact apply_any A1 B1 C n c1 m d1 k c' ls bs ws W h1 h2 ((hw.below hb (Nat.le_refl _)).mono hb.size) h3 h4 hnx hmx hk hok
  have har : ∀ W, Below w.heap.size w W → Calls Try.prog 27 #[.agg #[.slice A n c, .slice B m d], .slice C k c'] W (VolErrPost W r) :=
    fun W hb => by rw [← hr]; exact applied_any A B C n c m d k c' ls bs ws W ((h.below hb (Nat.le_refl _)).mono hb.size) ((h'.below hb (Nat.le_refl _)).mono hb.size) ((hw.below hb (Nat.le_refl _)).mono hb.size) hA hB hnx hmx hk
  have H := Lib.hid h
  have H' := Lib.hid h'
  have HCP := Lib.hid hcp
  have HAP := Lib.hid hap
  have HAR := Lib.hid har
  have HL := Lib.hid h.1
  have HL' := Lib.hid h'.1
  clear h h' hw hcp hap har hok hA hB hr
  obtain ⟨us, cs, e⟩ := r
  dsimp only at hrl
  obtain ⟨u, hu⟩ : ∃ u, us.length = u := ⟨_, rfl⟩
  obtain ⟨v, hv⟩ : ∃ v, cs.length = v := ⟨_, rfl⟩
  rw [hu, hv] at hrl
  obtain ⟨hul, hvl⟩ := hrl
  have HU := Lib.hid hu
  have HV := Lib.hid hv
  clear hu hv
  have HX := Lib.hid (VB3.new w (.slice A n c) (.slice B m d) 30)
  have HB0 := Lib.hid ((Below.refl w.heap.size w).alloc (Nat.le_refl _) (.cells #[.slice A n c, .slice B m d] 30))
  go_enter Try.func9, Try.ntmps9
  go_wp2_with fail
  refine (HCP.out _ HB0.out).mono ?_
  rintro _ w1 ⟨A1, c1, B1, d1, rfl, ho1, ho2, hb1, _, _, _, _, hn1, hm1⟩
  have hx1 := HX.out.step hb1
  have hB1 := HB0.out.trans (hb1.mono HB0.out.size)
  have HX1 := Lib.hid (hx1.step ((Below.refl _ _).alloc (Nat.le_refl _) (.cells #[.slice A1 n c1, .slice B1 m d1] 30)))
  have HK1 := Lib.hid (VB3.new w1 (.slice A1 n c1) (.slice B1 m d1) 30)
  have HB1 := Lib.hid (hB1.alloc hB1.size (.cells #[.slice A1 n c1, .slice B1 m d1] 30))
  have HR1 := Lib.hid (Rep.of_own HL.out (ho1.alloc (.cells #[.slice A1 n c1, .slice B1 m d1] 30)) (Nat.le_refl _))
  have HR1' := Lib.hid (Rep.of_own HL'.out (ho2.alloc (.cells #[.slice A1 n c1, .slice B1 m d1] 30)) (Nat.le_refl _))
  have k0 := HK1.out.a0
  have k1 := HK1.out.a1
  clear ho1 ho2 hb1 hx1 hB1
  go_wp2_with fail
  refine (HAP.out A1 B1 c1 d1 _ HB1.out HR1.out HR1'.out hn1 hm1).mono ?_
  rintro _ w2 ⟨A2, c2, B2, d2, rfl, hp1, hp2, hb2⟩
  dsimp only at hp1 hp2 ⊢
  rw [HU.out] at hp1 ⊢
  rw [HV.out] at hp2 ⊢
  have al := (Below.refl w2.heap.size w2).alloc (Nat.le_refl _) (.cells #[.slice A2 u c2, .slice B2 v d2] 30)
  have HX2 := Lib.hid ((HX1.out.step hb2).step al)
  have HK2 := Lib.hid ((HK1.out.step hb2).step al)
  have HM2 := Lib.hid (VB3.new w2 (.slice A2 u c2) (.slice B2 v d2) 30)
  have hB2 := HB1.out.trans (hb2.mono HB1.out.size)
  have HB2 := Lib.hid (hB2.alloc hB2.size (.cells #[.slice A2 u c2, .slice B2 v d2] 30))
  have HR2 := Lib.hid (Rep.of_own HU.out.symm (hp1.alloc (.cells #[.slice A2 u c2, .slice B2 v d2] 30)) (Nat.le_refl _))
  have HR2' := Lib.hid (Rep.of_own HV.out.symm (hp2.alloc (.cells #[.slice A2 u c2, .slice B2 v d2] 30)) (Nat.le_refl _))
  have HQ1 := Lib.hid (((HR1.out.below hb2 (Nat.le_refl _)).mono hb2.size).below al (Nat.le_refl _))
  have HQ1' := Lib.hid (((HR1'.out.below hb2 (Nat.le_refl _)).mono hb2.size).below al (Nat.le_refl _))
  have x0 := HX2.out.a0
  have x1 := HX2.out.a1
  clear hp1 hp2 hb2 al hB2 k0 k1
  go_wp2_with fail
  refine (HAR.out _ HB2.out).mono ?_
  rintro _ w3 ⟨A3, c3, B3, d3, rfl, hp1, hp2, hb3⟩
  dsimp only at hp1 hp2 ⊢
  rw [HU.out] at hp1 ⊢
  rw [HV.out] at hp2 ⊢
  have al := (Below.refl w3.heap.size w3).alloc (Nat.le_refl _) (.cells #[.slice A3 u c3, .slice B3 v d3] 30)
  have HX3 := Lib.hid ((HX2.out.step hb3).step al)
  have HK3 := Lib.hid ((HK2.out.step hb3).step al)
  have HM3 := Lib.hid ((HM2.out.step hb3).step al)
  have HZ3 := Lib.hid (VB3.new w3 (.slice A3 u c3) (.slice B3 v d3) 30)
  have hB3 := HB2.out.trans (hb3.mono HB2.out.size)
  have HB3 := Lib.hid (hB3.alloc hB3.size (.cells #[.slice A3 u c3, .slice B3 v d3] 30))
  have r3 := (Rep.of_own HU.out.symm (hp1.alloc (.cells #[.slice A3 u c3, .slice B3 v d3] 30)) (Nat.le_refl _))
  have r3' := (Rep.of_own HV.out.symm (hp2.alloc (.cells #[.slice A3 u c3, .slice B3 v d3] 30)) (Nat.le_refl _))
  have r2 := (((HR2.out.below hb3 (Nat.le_refl _)).mono hb3.size).below al (Nat.le_refl _)).mono al.size
  have r2' := (((HR2'.out.below hb3 (Nat.le_refl _)).mono hb3.size).below al (Nat.le_refl _)).mono al.size
  have HS := Lib.hid (sameVolume_yes A2 A3 B2 B3 u c2 c3 v d2 d3 us cs _ r2 r3 r2' r3' (by unfold maxLen; omega) (by unfold maxLen; omega))
  have HQ2 := Lib.hid ((((HQ1.out.mono (by simp)).below hb3 (Nat.le_refl _)).mono hb3.size).below al (Nat.le_refl _))
  have HQ2' := Lib.hid ((((HQ1'.out.mono (by simp)).below hb3 (Nat.le_refl _)).mono hb3.size).below al (Nat.le_refl _))
  have m0 := HM3.out.a0
  have m1 := HM3.out.a1
  have z0 := HZ3.out.a0
  have z1 := HZ3.out.a1
  have dee : (e == e) = true := by simp
  clear hp1 hp2 hb3 al hB3 x0 x1 r3 r3' r2 r2'
  go_wp2_with fail
  refine HS.out.mono ?_
  rintro _ w4 ⟨rfl, hb4⟩
  have HB4 := Lib.hid (HB3.out.trans (hb4.mono HB3.out.size))
  have y0 := (HX3.out.step hb4).a0
  have y1 := (HX3.out.step hb4).a1
  have q0 := (HK3.out.step hb4).a0
  have q1 := (HK3.out.step hb4).a1
  have s1 := ((HQ2.out.mono (by simp)).below hb4 (Nat.le_refl _)).mono hb4.size
  have s1' := ((HQ2'.out.mono (by simp)).below hb4 (Nat.le_refl _)).mono hb4.size
  have s0 := (H.out.below HB4.out (Nat.le_refl _)).mono HB4.out.size
  have s0' := (H'.out.below HB4.out (Nat.le_refl _)).mono HB4.out.size
  have HS2 := Lib.hid (sameVolume_yes A1 A B1 B n c1 c m d1 d ls bs _ s1 s0 s1' s0' hnx hmx)
  clear hb4 s1 s1' s0 s0' m0 m1 z0 z1
  go_wp2_with fail
  refine HS2.out.mono ?_
  rintro _ w5 ⟨rfl, hb5⟩
  have HB5 := Lib.hid (HB4.out.trans (hb5.mono HB4.out.size))
  clear hb5
  go_wp2
  go_ret
  exact ⟨rfl, HB5.out⟩
end Go.Proofs.Ytphbebcbbfbgpab
