/- saltcellarref.itemAt and VolumeMay. -/
import Derived.Test.YtphbebcbbfbgpabVolCheck
import Derived.Test.YtphbebcbbfbgpabMay
namespace Go.Proofs.Ytphbebcbbfbgpab
open Go Go.RowKit

theorem itemAt_some (A : Option Addr) (n c k : Nat) (id : Int) (ls : List Itm) (w : World) (h : Rep w w.heap.size 3 Itm.cell A n ls) (hn : n ≤ maxLen) (hk : k < ls.length) (hid : ls[k].id = id)
    (hbefore : ∀ j (hj : j < k), (ls[j]'(by omega)).id ≠ id) :
    Calls Try.prog 40 #[.slice A n c, .int .i64 id] w fun e w' => e = .returned (.int .i64 k) ∧ w = w' := by
  have H := Lib.hid h
  have HI := Lib.hid hid
  have HB := Lib.hid hbefore
  have hkn : k < n := by have := h.1; omega
  clear h hid hbefore
  unfold maxLen at hn
  go_enter Try.func40, Try.ntmps40
  go_wp2
  go_loop [5] (fun i => ∃ j : Nat, j ≤ k ∧ i = .int .i64 j) (fun i => n - (intOf i).toNat)
  case atStart => exact ⟨0, Nat.zero_le _, rfl⟩
  case round =>
    obtain ⟨j, hj, rfl⟩ := hrel
    obtain ⟨b, off, rfl, _, c0, _, _⟩ := items_at (k := j) H.out (by omega)
    have hjl : j < ls.length := by omega
    obtain ⟨y, hy⟩ : ∃ y, (ls[j]'hjl).id = y := ⟨_, rfl⟩
    rw [hy] at c0
    by_cases hjk : j = k
    · have hyid : y = id := by rw [← hy, ← HI.out]; simp only [hjk]
      subst hjk
      have d1 : (y == id) = true := by simp [hyid]
      clear hy hyid
      go_wp2
      go_ret
      exact ⟨rfl, rfl⟩
    · have hyid : y ≠ id := by rw [← hy]; exact HB.out j (by omega)
      have d1 : (y == id) = false := by simp [hyid]
      clear hy hyid
      go_wp2
      go_round
      case rel => exact ⟨j + 1, by omega, by go_num⟩
      case measure => simp [intOf]; omega

theorem itemAt_none (A : Option Addr) (n c : Nat) (id : Int) (ls : List Itm) (w : World) (h : Rep w w.heap.size 3 Itm.cell A n ls) (hn : n ≤ maxLen) (hno : ∀ x ∈ ls, x.id ≠ id) :
    Calls Try.prog 40 #[.slice A n c, .int .i64 id] w fun e w' => e = .returned (.int .i64 (-1)) ∧ w = w' := by
  have H := Lib.hid h
  have HB := Lib.hid hno
  clear h hno
  unfold maxLen at hn
  go_enter Try.func40, Try.ntmps40
  go_wp2
  go_loop [5] (fun i => ∃ j : Nat, j ≤ n ∧ i = .int .i64 j) (fun i => n - (intOf i).toNat)
  case atStart => exact ⟨0, Nat.zero_le _, rfl⟩
  case round =>
    obtain ⟨j, hj, rfl⟩ := hrel
    by_cases hlt : j < n
    · obtain ⟨b, off, rfl, _, c0, _, _⟩ := items_at (k := j) H.out hlt
      have hjl : j < ls.length := by have := H.out.1; omega
      obtain ⟨y, hy⟩ : ∃ y, (ls[j]'hjl).id = y := ⟨_, rfl⟩
      rw [hy] at c0
      have hyid : y ≠ id := by rw [← hy]; exact HB.out _ (List.getElem_mem hjl)
      have d1 : (y == id) = false := by simp [hyid]
      clear hy hyid
      go_wp2
      go_round
      case rel => exact ⟨j + 1, by omega, by go_num⟩
      case measure => simp [intOf]; omega
    · go_wp2
      go_ret
      exact ⟨rfl, rfl⟩

def VMayPost (ls : List Itm) (bs : List Int) (e : Ending) : Prop := e = .returned (.bool (goodVB ls bs))

theorem firstAt {ls : List Itm} {id : Int} (h : ∃ x ∈ ls, x.id = id) : ∃ k, ∃ hk : k < ls.length, ls[k].id = id ∧ ∀ j (hj : j < k), (ls[j]'(by omega)).id ≠ id := by
  induction ls with
  | nil => simp at h
  | cons a ls ih =>
    by_cases ha : a.id = id
    · exact ⟨0, by simp, ha, fun j hj => absurd hj (by omega)⟩
    · obtain ⟨x, hx, e⟩ := h
      have hx' : x ∈ ls := by
        rcases List.mem_cons.1 hx with rfl | hx
        · exact absurd e ha
        · exact hx
      obtain ⟨k, hk, h1, h2⟩ := ih ⟨x, hx', e⟩
      refine ⟨k + 1, by simp; omega, by simpa using h1, fun j hj => ?_⟩
      cases j with
      | zero => simpa using ha
      | succ j => simpa using h2 j (by omega)


set_option maxHeartbeats 4000000 in
theorem volMay_any (A B : Option Addr) (n c m d : Nat) (ls : List Itm) (bs : List Int) (w : World) (h : Rep w w.heap.size 3 Itm.cell A n ls) (h' : Rep w w.heap.size 1 intCell B m bs)
    (hn : n ≤ maxLen) (hm : m ≤ maxLen) :
    Calls Try.prog 38 #[.agg #[.slice A n c, .slice B m d]] w fun e w' => VMayPost ls bs e ∧ Below w.heap.size w w' := by
  have hc : ∀ W, Below w.heap.size w W → Calls Try.prog 47 #[.slice A n c] W fun e w' => MayPost ls e ∧ Below W.heap.size W w' :=
    fun W hb => itemsMay_any A n c ls W ((h.below hb (Nat.le_refl _)).mono hb.size) hn
  have HC := Lib.hid hc
  have H := Lib.hid h
  have H' := Lib.hid h'
  have HN := Lib.hid hn
  clear hc h h'
  unfold maxLen at hn hm
  have hba := (Below.refl w.heap.size w).alloc (Nat.le_refl _) (.cells #[.slice A n c, .slice B m d] 30)
  have HBA := Lib.hid hba
  clear hba
  by_cases g : Good ls
  · have E2 := Lib.hid (goodB_true g)
    have G := Lib.hid g
    clear g
    by_cases h1 : 1 ≤ m ∧ m ≤ 32
    · go_enter Try.func38, Try.ntmps38
      go_wp2_with fail
      refine (HC.out _ HBA.out).mono ?_
      rintro e w1 ⟨he, hb1⟩
      rw [MayPost, E2.out] at he
      subst he
      have a0 : w1.cell? ⟨w.heap.size, 0, none⟩ = some (.slice A n c) := (hb1.cell (by simp)).trans (by simp [go_sem])
      have a1 : w1.cell? ⟨w.heap.size, 1, none⟩ = some (.slice B m d) := (hb1.cell (by simp)).trans (by simp [go_sem])
      have hsz : w.heap.size < w1.heap.size := by have := hb1.size; simp at this; omega
      have hbw : Below w.heap.size w w1 := HBA.out.trans (hb1.mono HBA.out.size)
      have HB1 := Lib.hid hbw
      clear hb1 hbw
      go_wp2_with (go_at_call 39; (with_reducible refine (in_yes m 1 32 _ (by omega) (by omega)).mono ?_); rintro e w' ⟨rfl, rfl⟩)
      have A0 := Lib.hid a0
      have A1 := Lib.hid a1
      clear a0 a1
      go_loopw [3] (fun i wr => ∃ k : Nat, k ≤ m ∧ i = .int .i64 k ∧ Below w1.heap.size w1 wr ∧ Hid (∀ b ∈ bs.take k, -1 ≤ b ∧ (0 ≤ b → ∃ x ∈ ls, x.id = b))) (fun i _ => m - (intOf i).toNat)
      case atStart => exact ⟨0, Nat.zero_le _, rfl, Below.refl _ _, Lib.hid (by simp)⟩
      case round =>
        obtain ⟨k, hk, rfl, hbel, hge⟩ := hrel
        have a0 := (hbel.cell (p := ⟨w.heap.size, 0, none⟩) hsz).trans A0.out
        have a1 := (hbel.cell (p := ⟨w.heap.size, 1, none⟩) hsz).trans A1.out
        have HW : Hid (Below w.heap.size w wr) := Lib.hid (HB1.out.trans (hbel.mono HB1.out.size))
        have HBW := Lib.hid hbel
        clear hbel
        by_cases hlt : k < m
        · obtain ⟨b, off, rfl, hb, c0⟩ := ints_at (H'.out.below HW.out (Nat.le_refl _)) hlt
          have hkl : k < bs.length := by have := H'.out.1; omega
          obtain ⟨x, hx⟩ : ∃ x, bs[k]'hkl = x := ⟨_, rfl⟩
          rw [hx] at c0
          have HX := Lib.hid hx
          have hbad : ¬ (-1 ≤ x ∧ (0 ≤ x → ∃ y ∈ ls, y.id = x)) → goodVB ls bs = false := fun hno => goodVB_no (fun gv => hno ⟨gv.ge x (by rw [← hx]; exact List.getElem_mem hkl), gv.ids x (by rw [← hx]; exact List.getElem_mem hkl)⟩)
          have HBAD := Lib.hid hbad
          have hstep : (-1 ≤ x ∧ (0 ≤ x → ∃ y ∈ ls, y.id = x)) → ∀ b ∈ bs.take (k + 1), -1 ≤ b ∧ (0 ≤ b → ∃ x ∈ ls, x.id = b) := by
            intro hyes b hb
            rw [take_snoc bs k hkl, hx] at hb
            rcases List.mem_append.1 hb with hb | hb
            · exact hge.out b hb
            · rw [List.mem_singleton.1 hb]; exact hyes
          have HSTEP := Lib.hid hstep
          clear hx hb hbad hstep
          by_cases h3 : x < -1
          · have d3 := decide_eq_true h3
            go_wp2
            go_quiet (fail)
            go_wp2
            go_ret
            exact ⟨by rw [VMayPost, HBAD.out (fun h => by omega)]; rfl, below_drewN HW.out _⟩
          have d3 := decide_eq_false h3
          by_cases h4 : 0 ≤ x
          · have d4 := decide_eq_true h4
            by_cases h5 : ∃ y ∈ ls, y.id = x
            · obtain ⟨q, hq, hqid, hqb⟩ := firstAt h5
              have hit : ∀ nq, Calls Try.prog 40 #[.slice A n c, .int .i64 x] (wr.drewN nq) fun e w' => e = .returned (.int .i64 q) ∧ (wr.drewN nq) = w' :=
                fun nq => itemAt_some A n c q x ls _ (((H.out.below HW.out (Nat.le_refl _)).mono HW.out.size).keep fun _ _ => rfl) HN.out hq hqid hqb
              have HIT := Lib.hid hit
              have hs := HSTEP.out ⟨by omega, fun _ => h5⟩
              have HS := Lib.hid hs
              have d5 : decide ((q : Int) < 0) = false := by simp
              clear h5 hqid hqb hit hs hq
              go_wp2
              go_quiet ((go_at_call 40; exact quiet_left (HIT.out _)))
              go_wp2
              go_roundw
              case rel => exact ⟨k + 1, by omega, by go_num, below_drewN HBW.out _, HS⟩
              case measure => simp [intOf]; omega
            · have hit : ∀ nq, Calls Try.prog 40 #[.slice A n c, .int .i64 x] (wr.drewN nq) fun e w' => e = .returned (.int .i64 (-1)) ∧ (wr.drewN nq) = w' :=
                fun nq => itemAt_none A n c x ls _ (((H.out.below HW.out (Nat.le_refl _)).mono HW.out.size).keep fun _ _ => rfl) HN.out (fun y hy e => h5 ⟨y, hy, e⟩)
              have HIT := Lib.hid hit
              have HB5 := Lib.hid (HBAD.out (fun h => h5 (h.2 h4)))
              clear h5 hit
              go_wp2
              go_quiet ((go_at_call 40; exact quiet_left (HIT.out _)))
              go_wp2
              go_ret
              exact ⟨by rw [VMayPost, HB5.out]; rfl, below_drewN HW.out _⟩
          · have d4 := decide_eq_false h4
            have HS := Lib.hid (HSTEP.out ⟨by omega, fun h => absurd h h4⟩)
            go_wp2
            go_quiet (fail)
            go_wp2
            go_roundw
            case rel => exact ⟨k + 1, by omega, by go_num, below_drewN HBW.out _, HS⟩
            case measure => simp [intOf]; omega
        · obtain rfl : k = m := by omega
          have hbs : bs.take k = bs := List.take_of_length_le (by have := H'.out.1; omega)
          have hgb := hge.out
          rw [hbs] at hgb
          have HGB := Lib.hid hgb
          clear hbs hgb hge
          go_wp2
          obtain ⟨wo, rfl⟩ : ∃ wo : World, wo = wr := ⟨_, rfl⟩
          clear a0 a1
          go_loopw [4] (fun i wr => ∃ j : Nat, j ≤ n ∧ i = .int .i64 j ∧ Below w1.heap.size w1 wr ∧ Hid (∀ x ∈ ls.take j, (bs.count x.id : Int) = x.refs ∧ x.data.size ≠ 0)) (fun i _ => n - (intOf i).toNat)
          case atStart => exact ⟨0, Nat.zero_le _, rfl, HBW.out, Lib.hid (by simp)⟩
          case round =>
            obtain ⟨j, hj, rfl, hbel, hall⟩ := hrel
            have a0 := (hbel.cell (p := ⟨w.heap.size, 0, none⟩) hsz).trans A0.out
            have a1 := (hbel.cell (p := ⟨w.heap.size, 1, none⟩) hsz).trans A1.out
            have HWr : Hid (Below w.heap.size w wr) := Lib.hid (HB1.out.trans (hbel.mono HB1.out.size))
            have HBR := Lib.hid hbel
            clear hbel
            by_cases hlj : j < n
            · have hjl : j < ls.length := by have := H.out.1; omega
              obtain ⟨x, hx⟩ : ∃ x, ls[j]'hjl = x := ⟨_, rfl⟩
              obtain ⟨b, off, rfl, hb, c0, c1, c2⟩ := items_at (H.out.below HWr.out (Nat.le_refl _)) hlj
              have HX := Lib.hid hx
              clear hx hb c0 c1 c2
              obtain ⟨wp, rfl⟩ : ∃ wp : World, wp = wr := ⟨_, rfl⟩
              go_wp2
              clear a0 a1
              go_loopw [5, 6] (fun t i wr => ∃ q : Nat, q ≤ k ∧ i = .int .i64 q ∧ t = .int .i64 ((bs.take q).count x.id : Nat) ∧ Below w1.heap.size w1 wr) (fun _ i _ => k - (intOf i).toNat)
              case atStart => exact ⟨0, Nat.zero_le _, rfl, by simp, HBR.out⟩
              case round =>
                obtain ⟨q, hq, rfl, rfl, hbel⟩ := hrel
                have a0 := (hbel.cell (p := ⟨w.heap.size, 0, none⟩) hsz).trans A0.out
                have a1 := (hbel.cell (p := ⟨w.heap.size, 1, none⟩) hsz).trans A1.out
                have HWq : Hid (Below w.heap.size w wr) := Lib.hid (HB1.out.trans (hbel.mono HB1.out.size))
                have HBQ := Lib.hid hbel
                clear hbel
                obtain ⟨_, c0, c1, c2⟩ := items_of (H.out.below HWq.out (Nat.le_refl _)) hlj
                rw [HX.out] at c0 c1 c2
                obtain ⟨xi, xd, xr⟩ := x
                dsimp only at c0 c1 c2 ⊢
                have hcl : (bs.take q).count xi ≤ 32 := by
                  have h5 : (bs.take q).count xi ≤ (bs.take q).length := List.count_le_length
                  rw [List.length_take] at h5
                  omega
                by_cases hlq : q < k
                · obtain ⟨b', off', rfl, _, e0⟩ := ints_at (H'.out.below HWq.out (Nat.le_refl _)) hlq
                  have hql : q < bs.length := by have := H'.out.1; omega
                  obtain ⟨y, hy⟩ : ∃ y, bs[q]'hql = y := ⟨_, rfl⟩
                  rw [hy] at e0
                  have hcs : (bs.take (q + 1)).count xi = (bs.take q).count xi + if y = xi then 1 else 0 := by
                    rw [take_snoc bs q hql, hy, List.count_append, List.count_singleton]
                    simp only [beq_iff_eq]
                  by_cases h6 : y = xi
                  · rw [if_pos h6] at hcs
                    have HCS := Lib.hid hcs
                    have d6 : (y == xi) = true := by simp [h6]
                    clear hy hcs h6
                    go_wp2
                    go_quiet (fail)
                    go_wp2
                    go_roundw
                    case rel => exact ⟨q + 1, by omega, by go_num, by rw [HCS.out]; go_num, below_drewN HBQ.out _⟩
                    case measure => simp [intOf]; omega
                  · rw [if_neg h6] at hcs
                    have HCS := Lib.hid hcs
                    have d6 : (y == xi) = false := by simp [h6]
                    clear hy hcs h6
                    go_wp2
                    go_quiet (fail)
                    go_wp2
                    go_roundw
                    case rel => exact ⟨q + 1, by omega, by go_num, by rw [HCS.out]; rfl, below_drewN HBQ.out _⟩
                    case measure => simp [intOf]; omega
                · have hbs : bs.take q = bs := List.take_of_length_le (by have := H'.out.1; omega)
                  rw [hbs] at hcl
                  rw [hbs]
                  have hmem : (⟨xi, xd, xr⟩ : Itm) ∈ ls := by rw [← HX.out]; exact List.getElem_mem hjl
                  have HM := Lib.hid hmem
                  clear hbs hmem
                  by_cases h7 : (bs.count xi : Int) = xr
                  · have d7 : ((bs.count xi : Int) != xr) = false := by simp [h7]
                    have H7 := Lib.hid h7
                    clear h7
                    by_cases h8 : xd.size = 0
                    · have d8 := isEmpty_yes h8
                      have E3 := Lib.hid (goodVB_no (ls := ls) (bs := bs) (fun gv => gv.data _ HM.out h8))
                      clear h8
                      go_wp2
                      go_ret
                      exact ⟨by rw [VMayPost, E3.out]; rfl, HWq.out⟩
                    · have d8 := isEmpty_no h8
                      have hstep : ∀ x ∈ ls.take (j + 1), (bs.count x.id : Int) = x.refs ∧ x.data.size ≠ 0 := by
                        intro x hx
                        rw [take_snoc ls j hjl, HX.out] at hx
                        rcases List.mem_append.1 hx with hx | hx
                        · exact hall.out x hx
                        · rw [List.mem_singleton.1 hx]; exact ⟨H7.out, h8⟩
                      have HS := Lib.hid hstep
                      clear hstep h8
                      go_wp2
                      go_roundw
                      case rel => exact ⟨j + 1, by omega, by go_num, HBQ.out, HS⟩
                      case measure => simp [intOf]; omega
                  · have d7 : ((bs.count xi : Int) != xr) = true := by simpa using h7
                    have E3 := Lib.hid (goodVB_no (ls := ls) (bs := bs) (fun gv => h7 (gv.refs _ HM.out)))
                    clear h7
                    go_wp2
                    go_ret
                    exact ⟨by rw [VMayPost, E3.out]; rfl, HWq.out⟩
            · have hls : ls.take j = ls := List.take_of_length_le (by have := H.out.1; omega)
              have hal := hall.out
              rw [hls] at hal
              have E3 := Lib.hid (goodVB_yes (ls := ls) (bs := bs) ⟨G.out, by have := H'.out.1; omega, by have := H'.out.1; omega, fun b hb => (HGB.out b hb).1, fun b hb => (HGB.out b hb).2, fun x hx => (hal x hx).1, fun x hx => (hal x hx).2⟩)
              clear hls hal
              go_wp2
              go_ret
              exact ⟨by rw [VMayPost, E3.out]; rfl, HWr.out⟩
    · have E3 := Lib.hid (goodVB_no (ls := ls) (bs := bs) (fun gv => h1 (by have := gv.lo; have := gv.hi; have := H'.out.1; omega)))
      go_enter Try.func38, Try.ntmps38
      go_wp2_with fail
      refine (HC.out _ HBA.out).mono ?_
      rintro e w1 ⟨he, hb1⟩
      rw [MayPost, E2.out] at he
      subst he
      have a1 : w1.cell? ⟨w.heap.size, 1, none⟩ = some (.slice B m d) := (hb1.cell (by simp)).trans (by simp [go_sem])
      have HB1 : Hid (Below w.heap.size w w1) := Lib.hid (HBA.out.trans (hb1.mono HBA.out.size))
      clear hb1
      go_wp2_with (go_at_call 39; (with_reducible refine (in_no m 1 32 _ (by omega)).mono ?_); rintro e w' ⟨rfl, rfl⟩)
      go_ret
      exact ⟨by rw [VMayPost, E3.out]; rfl, HB1.out⟩
  · have E2 := Lib.hid (goodB_false g)
    have E3 := Lib.hid (goodVB_no (ls := ls) (bs := bs) (fun gv => g gv.good))
    clear g
    go_enter Try.func38, Try.ntmps38
    go_wp2_with fail
    refine (HC.out _ HBA.out).mono ?_
    rintro e w1 ⟨he, hb1⟩
    rw [MayPost, E2.out] at he
    subst he
    have HB1 : Hid (Below w.heap.size w w1) := Lib.hid (HBA.out.trans (hb1.mono HBA.out.size))
    clear hb1
    go_wp2
    go_ret
    exact ⟨by rw [VMayPost, E3.out]; rfl, HB1.out⟩
#print axioms volMay_any
end Go.Proofs.Ytphbebcbbfbgpab
