/- ScriptOf of the reference: the walk. ScriptOf of the reference: its act, and the whole. The law EngineRuns returns true for every number of blocks and all acts. -/
import Derived.Test.YtphbebcbbfbgpabRefAct3
import Derived.Test.YtphbebcbbfbgpabLawVolumeApplies
import Derived.Test.YtphbebcbbfbgpabOpenAcn
import Derived.Test.YtphbebcbbfbgpabAppendOwn2
import Derived.Outline
import Derived.Deep.RegionHeld3
import Derived.Test.YtphbebcbbfbgpabRefAct5
import Derived.Test.YtphbebcbbfbgpabSame
namespace Go.Proofs.Ytphbebcbbfbgpab
open Go Go.RowKit

/-- What stands in a script of the reference: the house in block q, the place of the resulting volume. -/
structure RefF (w : World) (q : Nat) (x : HV) (H : Hse) (W : World) : Prop where
  k0 : W.cell? ⟨q, 0, none⟩ = some (.slice x.A0 H.base.1.length x.c0)
  k1 : W.cell? ⟨q, 1, none⟩ = some (.slice x.A1 H.base.2.length x.c1)
  k2 : W.cell? ⟨q, 2, none⟩ = some (.slice x.AD H.deals.length x.cd)
  k3 : W.cell? ⟨q, 3, none⟩ = some (.int .i64 H.last)
  k4 : W.cell? ⟨q, 4, none⟩ = some (.bool H.opened)
  k5 : W.cell? ⟨q, 5, none⟩ = some (.slice x.AL H.ws.length x.cl)
  fz : ∀ i, W.frozen? ⟨q, i, none⟩ = false
  tq : IsCells W q 109
  r0 : W.cell? ⟨w.heap.size, 0, none⟩ = some (.slice none 0 0)
  r1 : W.cell? ⟨w.heap.size, 1, none⟩ = some (.slice none 0 0)
  z0 : W.frozen? ⟨w.heap.size, 0, none⟩ = false
  z1 : W.frozen? ⟨w.heap.size, 1, none⟩ = false
  tr : IsCells W w.heap.size 30
  q1 : w.heap.size < q
  q2 : q < W.heap.size
  be : Below w.heap.size w W
theorem RefF.touch {w : World} {q : Nat} {x : HV} {H : Hse} {R : Nat → Prop} {W W' : World} (h : RefF w q x H W) (hT : Touch R W W') (hq : ¬ R q) (hw : ¬ R w.heap.size) (hR : ∀ k, R k → w.heap.size ≤ k) : RefF w q x H W' where
  k0 := (hT.cell h.q2 hq).trans h.k0
  k1 := (hT.cell h.q2 hq).trans h.k1
  k2 := (hT.cell h.q2 hq).trans h.k2
  k3 := (hT.cell h.q2 hq).trans h.k3
  k4 := (hT.cell h.q2 hq).trans h.k4
  k5 := (hT.cell h.q2 hq).trans h.k5
  fz := fun i => (hT.frozen h.q2 hq).trans (h.fz i)
  tq := h.tq.touch hT hq
  r0 := (hT.cell (Nat.lt_trans h.q1 h.q2) hw).trans h.r0
  r1 := (hT.cell (Nat.lt_trans h.q1 h.q2) hw).trans h.r1
  z0 := (hT.frozen (Nat.lt_trans h.q1 h.q2) hw).trans h.z0
  z1 := (hT.frozen (Nat.lt_trans h.q1 h.q2) hw).trans h.z1
  tr := h.tr.touch hT hw
  q1 := h.q1
  q2 := Nat.lt_of_lt_of_le h.q2 hT.size
  be := h.be.trans (hT.toBelow h.be.size hR)
theorem RefF.step {w : World} {q : Nat} {x : HV} {H : Hse} {W W' : World} (h : RefF w q x H W) (hb : Below W.heap.size W W') : RefF w q x H W' :=
  h.touch (R := fun _ => False) (Touch.below hb) (fun e => e) (fun e => e) (fun _ e => e.elim)
/-- the answers grow -/
theorem RefF.app {w : World} {q : Nat} {x : HV} {H : Hse} {W W' : World} {b n : Nat} {v : Value} {xs : List Value} (h : RefF w q x H W) (ho : W.ownsRow b 105 5 v n xs) (hbw : w.heap.size ≤ b) (hg : W.grownBy W' v.ownBlock) : RefF w q x H W' :=
  h.touch (R := fun k => v.ownBlock = some k) (Touch.grown hg (fun k hk => hk)) (fun e => own_not ho h.tq (by decide) _ e rfl) (fun e => own_not ho h.tr (by decide) _ e rfl) (fun k hk => Nat.le_trans hbw (ho.lt k hk).1)
/-- the house is laid anew -/
theorem RefF.set {w : World} {q : Nat} {x x' : HV} {H H' : Hse} {W : World} (h : RefF w q x H W) : RefF w q x' H' ((((((W.setCell ⟨q, 0, none⟩ (.slice x'.A0 H'.base.1.length x'.c0)).setCell ⟨q, 1, none⟩ (.slice x'.A1 H'.base.2.length x'.c1)).setCell ⟨q, 2, none⟩ (.slice x'.AD H'.deals.length x'.cd)).setCell ⟨q, 3, none⟩ (.int .i64 H'.last)).setCell ⟨q, 4, none⟩ (.bool H'.opened)).setCell ⟨q, 5, none⟩ (.slice x'.AL H'.ws.length x'.cl)) ∧ Touch (fun k => k = q) W ((((((W.setCell ⟨q, 0, none⟩ (.slice x'.A0 H'.base.1.length x'.c0)).setCell ⟨q, 1, none⟩ (.slice x'.A1 H'.base.2.length x'.c1)).setCell ⟨q, 2, none⟩ (.slice x'.AD H'.deals.length x'.cd)).setCell ⟨q, 3, none⟩ (.int .i64 H'.last)).setCell ⟨q, 4, none⟩ (.bool H'.opened)).setCell ⟨q, 5, none⟩ (.slice x'.AL H'.ws.length x'.cl)) := by
  have hT : Touch (fun k => k = q) W ((((((W.setCell ⟨q, 0, none⟩ (.slice x'.A0 H'.base.1.length x'.c0)).setCell ⟨q, 1, none⟩ (.slice x'.A1 H'.base.2.length x'.c1)).setCell ⟨q, 2, none⟩ (.slice x'.AD H'.deals.length x'.cd)).setCell ⟨q, 3, none⟩ (.int .i64 H'.last)).setCell ⟨q, 4, none⟩ (.bool H'.opened)).setCell ⟨q, 5, none⟩ (.slice x'.AL H'.ws.length x'.cl)) := (((((Touch.setCell (R := fun k => k = q) ⟨q, 0, none⟩ rfl _).trans (Touch.setCell (R := fun k => k = q) ⟨q, 1, none⟩ rfl _)).trans (Touch.setCell (R := fun k => k = q) ⟨q, 2, none⟩ rfl _)).trans (Touch.setCell (R := fun k => k = q) ⟨q, 3, none⟩ rfl _)).trans (Touch.setCell (R := fun k => k = q) ⟨q, 4, none⟩ rfl _)).trans (Touch.setCell (R := fun k => k = q) ⟨q, 5, none⟩ rfl _)
  have hne : ¬ w.heap.size = q := by have := h.q1; omega
  refine ⟨⟨?_, ?_, ?_, ?_, ?_, ?_, fun i => by simp only [World.frozen?_setCell]; exact h.fz i, (((((h.tq.setCell _ _).setCell _ _).setCell _ _).setCell _ _).setCell _ _).setCell _ _, (hT.cell (Nat.lt_trans h.q1 h.q2) hne).trans h.r0, (hT.cell (Nat.lt_trans h.q1 h.q2) hne).trans h.r1, by simp only [World.frozen?_setCell]; exact h.z0, by simp only [World.frozen?_setCell]; exact h.z1, h.tr.touch hT hne, h.q1, Nat.lt_of_lt_of_le h.q2 hT.size, h.be.trans (hT.toBelow h.be.size (fun k hk => by have := h.q1; omega))⟩, hT⟩
  all_goals simp [go_sem, h.k0, h.k1, h.k2, h.k3, h.k4, h.k5]
/-- behind an act: the new house and the answer in their blocks -/
structure AfterF (wr : World) (R : Nat → Prop) (p12 p13 : Nat) (x : HV) (H : Hse) (z : Ans) (W : World) : Prop where
  c0 : W.cell? ⟨p12, 0, none⟩ = some (.slice x.A0 H.base.1.length x.c0)
  c1 : W.cell? ⟨p12, 1, none⟩ = some (.slice x.A1 H.base.2.length x.c1)
  c2 : W.cell? ⟨p12, 2, none⟩ = some (.slice x.AD H.deals.length x.cd)
  c3 : W.cell? ⟨p12, 3, none⟩ = some (.int .i64 H.last)
  c4 : W.cell? ⟨p12, 4, none⟩ = some (.bool H.opened)
  c5 : W.cell? ⟨p12, 5, none⟩ = some (.slice x.AL H.ws.length x.cl)
  d0 : W.cell? ⟨p13, 0, none⟩ = some (.int .i64 z.code)
  d1 : W.cell? ⟨p13, 1, none⟩ = some (.string z.data)
  d2 : W.cell? ⟨p13, 2, none⟩ = some (.int .i64 z.items)
  d3 : W.cell? ⟨p13, 3, none⟩ = some (.int .i64 z.log)
  d4 : W.cell? ⟨p13, 4, none⟩ = some (.int .i64 z.count)
  be : Below wr.heap.size wr W
  st : HStay R W x H
  l13 : wr.heap.size ≤ p13
  u13 : p13 < W.heap.size
theorem cut_world {G : World → Prop} {W : World} (S : World → Prop) (h : S W) (k : ∀ W', S W' → G W') : G W := k W h
theorem frozen_alloc_lt (w : World) (o : Obj) {a : Addr} (h : a.block < w.heap.size) : (w.alloc o).frozen? a = w.frozen? a := ((Below.refl w.heap.size w).alloc (Nat.le_refl _) o).frozen h
theorem below_set5 {B p : Nat} {w W : World} (h : Below B w W) (hp : B ≤ p) (u0 u1 u2 u3 u4 : Value) : Below B w (((((W.setCell ⟨p, 0, none⟩ u0).setCell ⟨p, 1, none⟩ u1).setCell ⟨p, 2, none⟩ u2).setCell ⟨p, 3, none⟩ u3).setCell ⟨p, 4, none⟩ u4) := (((((h.setCell (p := ⟨p, 0, none⟩) hp u0).setCell (p := ⟨p, 1, none⟩) hp u1).setCell (p := ⟨p, 2, none⟩) hp u2).setCell (p := ⟨p, 3, none⟩) hp u3).setCell (p := ⟨p, 4, none⟩) hp u4)
theorem touch_set5 {R : Nat → Prop} {p : Nat} {w W : World} (h : Touch R w W) (hp : R p) (u0 u1 u2 u3 u4 : Value) : Touch R w (((((W.setCell ⟨p, 0, none⟩ u0).setCell ⟨p, 1, none⟩ u1).setCell ⟨p, 2, none⟩ u2).setCell ⟨p, 3, none⟩ u3).setCell ⟨p, 4, none⟩ u4) := (((((h.setC ⟨p, 0, none⟩ hp u0).setC ⟨p, 1, none⟩ hp u1).setC ⟨p, 2, none⟩ hp u2).setC ⟨p, 3, none⟩ hp u3).setC ⟨p, 4, none⟩ hp u4)
theorem below_set6 {B p : Nat} {w W : World} (h : Below B w W) (hp : B ≤ p) (u0 u1 u2 u3 u4 u5 : Value) : Below B w ((((((W.setCell ⟨p, 0, none⟩ u0).setCell ⟨p, 1, none⟩ u1).setCell ⟨p, 2, none⟩ u2).setCell ⟨p, 3, none⟩ u3).setCell ⟨p, 4, none⟩ u4).setCell ⟨p, 5, none⟩ u5) := ((((((h.setCell (p := ⟨p, 0, none⟩) hp u0).setCell (p := ⟨p, 1, none⟩) hp u1).setCell (p := ⟨p, 2, none⟩) hp u2).setCell (p := ⟨p, 3, none⟩) hp u3).setCell (p := ⟨p, 4, none⟩) hp u4).setCell (p := ⟨p, 5, none⟩) hp u5)
theorem touch_set6 {R : Nat → Prop} {p : Nat} {w W : World} (h : Touch R w W) (hp : R p) (u0 u1 u2 u3 u4 u5 : Value) : Touch R w ((((((W.setCell ⟨p, 0, none⟩ u0).setCell ⟨p, 1, none⟩ u1).setCell ⟨p, 2, none⟩ u2).setCell ⟨p, 3, none⟩ u3).setCell ⟨p, 4, none⟩ u4).setCell ⟨p, 5, none⟩ u5) := ((((((h.setC ⟨p, 0, none⟩ hp u0).setC ⟨p, 1, none⟩ hp u1).setC ⟨p, 2, none⟩ hp u2).setC ⟨p, 3, none⟩ hp u3).setC ⟨p, 4, none⟩ hp u4).setC ⟨p, 5, none⟩ hp u5)
theorem Touch.allocC {R : Nat → Prop} {w W : World} (h : Touch R w W) (o : Obj) : Touch R w (W.alloc o) := h.trans (Touch.below ((Below.refl _ _).alloc (Nat.le_refl _) o))
def RefR (q : Nat) (v : Value) (k : Nat) : Prop := k = q ∨ v.ownBlock = some k
def RefW (R : Nat → Prop) (wr W : World) (k : Nat) : Prop := R k ∨ (wr.heap.size ≤ k ∧ k < W.heap.size)
theorem HStay.grow {R R' : Nat → Prop} {w W : World} {x : HV} {H : Hse} (h : HStay R w x H) (hT : Touch R w W) (hr : ∀ i, i < w.heap.size → R' i → R i) : HStay R' W x H := fun _ k => h _ (hT.later k hr)
theorem runHs_app : ∀ (l m : List Acn) (H : Hse), runHs H (l ++ m) = ((runHs H l).1 ++ (runHs (runHs H l).2 m).1, (runHs (runHs H l).2 m).2)
  | [], m, H => rfl
  | a :: l, m, H => by rw [List.cons_append, runHs, runHs, runHs_app l m]; rfl

set_option maxRecDepth 100000 in
set_option maxHeartbeats 4000000 in
theorem run_script (A : Option Addr) (n c : Nat) (k : Int) (ls : List Acn) (w : World) (h : Rep w w.heap.size 4 Acn.cell A n ls) (hn : n ≤ maxLen) (hwf : ∀ a ∈ ls, a.wf) (hk64 : i64Ok k)
    (hact : ∀ (x : HV) (H : Hse) (a : Acn) (R : Nat → Prop) (w : World), HStay R w x H → (∀ k, R k → k < w.heap.size) → GoodH H → a.wf → Calls Try.prog 62 #[houseV x H, actV a] w (ActedPost R w (actH H a))) :
    Calls Try.prog 30 #[.int .i64 k, .slice A n c] w (ScriptPost w (scriptR k ls)) := by
  have H := Lib.hid h
  have HL := Lib.hid h.1
  have HWF := Lib.hid hwf
  have HACTED := Lib.hid hact
  unfold maxLen at hn
  have hnw : ∀ W, Calls Try.prog 61 #[.int .i64 k] W (NewPost W (newBs k) (newK k)) := fun W => volumeOf_any k W hk64
  have hf0 : NBoxF w w.heap.size (.slice none 0 0) (w.alloc (.cells #[.slice none 0 0, .slice none 0 0] 30)) := by
    refine ⟨?_, ?_, ?_, ?_, by simp⟩
    all_goals simp [go_sem]
  have hbe0 : Below w.heap.size w (w.alloc (.cells #[.slice none 0 0, .slice none 0 0] 30)) := (Below.refl _ _).alloc (Nat.le_refl _) _
  have htr0 := IsCells.new w #[.slice none 0 0, .slice none 0 0] 30
  have HF0 := Lib.hid hf0
  have HBE0 := Lib.hid hbe0
  have HTR0 := Lib.hid htr0
  clear h hwf hact hf0 hbe0 htr0
  by_cases hk : 1 ≤ k ∧ k ≤ 32
  · obtain ⟨m, rfl⟩ : ∃ m : Nat, k = m := ⟨k.toNat, by omega⟩
    have e1 : newBs m = List.replicate m (-1) := by rw [newBs, if_pos hk, Int.toNat_natCast]
    have e2 : newK m = 0 := by rw [newK, if_pos hk]
    have hnw2 := hnw
    rw [e1, e2] at hnw2
    have HNW := Lib.hid hnw2
    have hm1 : 1 ≤ m := by omega
    have hm : m ≤ 32 := by omega
    have HM := Lib.hid hk
    clear hnw hnw2 e1 e2 hk hk64
    by_cases hl : n ≤ 300
    · have d3 : decide ((n : Int) > 300) = false := decide_eq_false (by omega)
      have HSC := Lib.hid (script_on HM.out (show ls.length ≤ 300 by have := HL.out; omega))
      go_enter Try.func30, Try.ntmps30
      go_wp2_with fail
      refine (HNW.out _).mono ?_
      rintro e w1 ⟨B1, d1, rfl, hown1, hb1⟩
      rw [List.length_replicate] at hown1 ⊢
      have hw1 : w.heap.size < w1.heap.size := by have := hb1.size; simp at this; omega
      have hf := HF0.out.step hb1 HF0.out.sz
      have HO1 := Lib.hid (own_mono hown1 (base' := w.heap.size) (by simp))
      have hB1 := HBE0.out.trans (hb1.mono HBE0.out.size)
      have htr := HTR0.out.below hb1
      obtain ⟨q, hq⟩ : ∃ q, q = w1.heap.size + 1 := ⟨_, rfl⟩
      have hrun : RefF w q ⟨none, 0, B1, d1, none, 0, [], none, 0⟩ (hse0 m) ((w1.alloc (.cells #[.slice none 0 0, .slice B1 m d1] 30)).alloc (.cells #[.slice none 0 0, .slice B1 m d1, .slice none 0 0, .int .i64 0, .bool false, .slice none 0 0] 109)) ∧
          HStay (RefR q (.slice none 0 0)) ((w1.alloc (.cells #[.slice none 0 0, .slice B1 m d1] 30)).alloc (.cells #[.slice none 0 0, .slice B1 m d1, .slice none 0 0, .int .i64 0, .bool false, .slice none 0 0] 109)) ⟨none, 0, B1, d1, none, 0, [], none, 0⟩ (hse0 m) := by
        have hlen : (List.replicate m (-1 : Int)).length = m := by rw [List.length_replicate]
        have al : Below w1.heap.size w1 ((w1.alloc (.cells #[.slice none 0 0, .slice B1 m d1] 30)).alloc (.cells #[.slice none 0 0, .slice B1 m d1, .slice none 0 0, .int .i64 0, .bool false, .slice none 0 0] 109)) := ((Below.refl _ _).alloc (Nat.le_refl _) _).alloc (by simp) _
        have tq := IsCells.new (w1.alloc (.cells #[.slice none 0 0, .slice B1 m d1] 30)) #[.slice none 0 0, .slice B1 m d1, .slice none 0 0, .int .i64 0, .bool false, .slice none 0 0] 109
        have hs1 : (w1.alloc (.cells #[.slice none 0 0, .slice B1 m d1] 30)).heap.size = q := by rw [hq]; simp
        rw [hs1] at tq
        have hn1 := (own_nil hown1).2
        have ho := own_below HO1.out al
        refine ⟨⟨?_, ?_, ?_, ?_, ?_, ?_, ?_, tq, ?_, ?_, ?_, ?_, htr.below al, by omega, by rw [hq]; simp, hB1.trans (al.mono hB1.size)⟩, fun W' hT => ?_⟩
        · subst hq; simp [go_sem, hse0]
        · subst hq; simp [go_sem, hse0]
        · subst hq; simp [go_sem, hse0]
        · subst hq; simp [go_sem, hse0]
        · subst hq; simp [go_sem, hse0]
        · subst hq; simp [go_sem, hse0]
        · intro i; subst hq; simp [go_sem]
        · exact (al.cell (p := ⟨w.heap.size, 0, none⟩) hw1).trans hf.a0
        · exact (al.cell (p := ⟨w.heap.size, 1, none⟩) hw1).trans hf.a1
        · exact (al.frozen (p := ⟨w.heap.size, 0, none⟩) hw1).trans hf.z0
        · exact (al.frozen (p := ⟨w.heap.size, 1, none⟩) hw1).trans hf.z1
        · have ho2 := own_touch ho hT (fun g hg r => by
            have h1 := (HO1.out.lt g hg).2
            rcases r with r | r
            · omega
            · simp [Value.ownBlock] at r)
          refine ⟨Rep.nil _ _ _ _ _, ?_, Rep.nil _ _ _ _ _, by simp, rfl, Rep.nil _ _ _ _ _, by simp [hse0], ?_, by simp [hse0], by simp [hse0], by simp⟩
          · simp only [hse0, hlen]; exact Rep.of_own hlen.symm ho2 (Nat.le_refl _)
          · simp only [hse0, hlen]; exact hn1
      have HRUN := Lib.hid hrun
      clear hown1 hb1 hf hB1 htr hrun
      go_wp2
      rw [← hq]
      clear hq
      go_loopw [10, 11] (fun v t wr => ∃ (i : Nat) (x : HV) (H : Hse) (out : List Ans), i ≤ n ∧ t = .int .i64 i ∧ out.length = i ∧ RefF w q x H wr ∧ HStay (RefR q v) wr x H ∧ wr.ownsRow w.heap.size 105 5 v i (flat Ans.cell 5 out) ∧ Hid (∃ E, Sim E H) ∧ Hid (runHs (hse0 m) ls = (out ++ (runHs H (ls.drop i)).1, (runHs H (ls.drop i)).2))) (fun _ t _ => n - (intOf t).toNat)
      case atStart => exact ⟨0, _, _, [], Nat.zero_le _, rfl, rfl, HRUN.out.1, HRUN.out.2, World.ownsRow_nil _ _ _ _, Lib.hid ⟨_, sim0 hm1 hm⟩, Lib.hid (by rw [List.drop_zero]; rfl)⟩
      case round =>
        obtain ⟨i, x, Hs, out, hi, rfl, hol, hrf, hst, hown, hsim, hinv⟩ := hrel
        have HR := Lib.hid hrf
        have HO := Lib.hid hown
        have HOL := Lib.hid hol
        have HST := Lib.hid hst
        by_cases hlt : i < n
        · obtain ⟨b, off, rfl, hb, a0, a1, a2, a3⟩ := acts_at (k := i) (H.out.below hrf.be (Nat.le_refl _)) hlt
          have hil : i < ls.length := by have := HL.out; omega
          have hwa := HWF.out _ (List.getElem_mem hil)
          have hnext := hinv.out
          rw [List.drop_eq_getElem_cons hil, runHs] at hnext
          obtain ⟨a, ha⟩ : ∃ a, ls[i]'hil = a := ⟨_, rfl⟩
          rw [ha] at a0 a1 a2 a3 hwa hnext
          obtain ⟨E, hE⟩ := hsim.out
          have hact2 : ∀ (W : World), Below wr.heap.size wr W → Calls Try.prog 62 #[houseV x Hs, actV a] W (fun e w' => ∃ x', e = .returned (.tuple #[houseV x' (actH Hs a).1, ansV (actH Hs a).2]) ∧ HStay (RefW (RefR q u10) wr W) w' x' (actH Hs a).1 ∧ Below W.heap.size W w' ∧ Below wr.heap.size wr w') := fun W hW =>
            (HACTED.out x Hs a (RefW (RefR q u10) wr W) W (hst.grow (Touch.below hW) (fun k hk e => e.elim id (fun e => by omega))) (fun k hk => by
              rcases hk with hk | hk
              · exact Nat.lt_of_lt_of_le (by rcases hk with rfl | hk; exact hrf.q2; exact (hown.lt k hk).2) hW.size
              · exact hk.2) hE.goodH hwa).mono (fun e w' ⟨x', he, hs, hb⟩ => ⟨x', he, hs, hb, hW.trans (hb.mono hW.size)⟩)
          have hsim2 := (sim_act hE a).2
          obtain ⟨H', z, hx⟩ : ∃ H' z, actH Hs a = (H', z) := ⟨_, _, rfl⟩
          rw [hx] at hact2 hnext hsim2
          have HACT := Lib.hid hact2
          have HNX := Lib.hid hnext
          have HS2 : Hid (∃ E, Sim E H') := Lib.hid ⟨_, hsim2⟩
          obtain ⟨kind, block, data, keep⟩ := a
          obtain ⟨xc, xd, xi, xl, xn⟩ := z
          dsimp only at a0 a1 a2 a3
          unfold actV houseV ansV at HACT
          dsimp only at HACT
          have k0 := hrf.k0
          have k1 := hrf.k1
          have k2 := hrf.k2
          have k3 := hrf.k3
          have k4 := hrf.k4
          have k5 := hrf.k5
          have hqs := hrf.q2
          have hbs : b < wr.heap.size := Nat.lt_of_lt_of_le hb hrf.be.size
          have hkeep : ∀ W, Below wr.heap.size wr W → W.cell? ⟨q, 0, none⟩ = some (.slice x.A0 Hs.base.1.length x.c0) ∧ W.cell? ⟨q, 1, none⟩ = some (.slice x.A1 Hs.base.2.length x.c1) ∧ W.cell? ⟨q, 2, none⟩ = some (.slice x.AD Hs.deals.length x.cd) ∧ W.cell? ⟨q, 3, none⟩ = some (.int .i64 Hs.last) ∧ W.cell? ⟨q, 4, none⟩ = some (.bool Hs.opened) ∧ W.cell? ⟨q, 5, none⟩ = some (.slice x.AL Hs.ws.length x.cl) ∧ W.cell? ⟨b, off + i * 4, none⟩ = some (.int .i64 kind) ∧ W.cell? ⟨b, off + i * 4 + 1, none⟩ = some (.int .i64 block) ∧ W.cell? ⟨b, off + i * 4 + 2, none⟩ = some (.string data) ∧ W.cell? ⟨b, off + i * 4 + 3, none⟩ = some (.int .i64 keep) := fun W hW => ⟨(hW.cell (p := ⟨q, 0, none⟩) hqs).trans k0, (hW.cell (p := ⟨q, 1, none⟩) hqs).trans k1, (hW.cell (p := ⟨q, 2, none⟩) hqs).trans k2, (hW.cell (p := ⟨q, 3, none⟩) hqs).trans k3, (hW.cell (p := ⟨q, 4, none⟩) hqs).trans k4, (hW.cell (p := ⟨q, 5, none⟩) hqs).trans k5, (hW.cell (p := ⟨b, off + i * 4, none⟩) hbs).trans a0, (hW.cell (p := ⟨b, off + i * 4 + 1, none⟩) hbs).trans a1, (hW.cell (p := ⟨b, off + i * 4 + 2, none⟩) hbs).trans a2, (hW.cell (p := ⟨b, off + i * 4 + 3, none⟩) hbs).trans a3⟩
          have HKEEP := Lib.hid hkeep
          clear hkeep
          obtain ⟨i0, ii, iz0, iz1, iz2⟩ := info_parts infoAns
          have II := Lib.hid ii
          have IZ0 := Lib.hid iz0
          have IZ1 := Lib.hid iz1
          have IZ2 := Lib.hid iz2
          clear ii iz0 iz1 iz2
          clear hb ha hwa hnext hact2 hsim2 hx hE hrf hst hown hsim hinv hol
          go_upto_region 11 with (fail)
          go_region_held3 (fun W => W.cell? ⟨q, 0, none⟩ = some (.slice x.A0 Hs.base.1.length x.c0) ∧ W.cell? ⟨q, 1, none⟩ = some (.slice x.A1 Hs.base.2.length x.c1) ∧ W.cell? ⟨q, 2, none⟩ = some (.slice x.AD Hs.deals.length x.cd) ∧ W.cell? ⟨q, 3, none⟩ = some (.int .i64 Hs.last) ∧ W.cell? ⟨q, 4, none⟩ = some (.bool Hs.opened) ∧ W.cell? ⟨q, 5, none⟩ = some (.slice x.AL Hs.ws.length x.cl) ∧ W.cell? ⟨b, off + i * 4, none⟩ = some (.int .i64 kind) ∧ W.cell? ⟨b, off + i * 4 + 1, none⟩ = some (.int .i64 block) ∧ W.cell? ⟨b, off + i * 4 + 2, none⟩ = some (.string data) ∧ W.cell? ⟨b, off + i * 4 + 3, none⟩ = some (.int .i64 keep)) ((refine HKEEP.out _ ?_; (repeat (first | with_reducible exact HW5.out | with_reducible exact Below.refl _ _ | with_reducible refine Below.drew ?_ | with_reducible refine Below.alloc ?_ ?_ _ | with_reducible refine below_set6 ?_ ?_ _ _ _ _ _ _ | with_reducible refine below_set5 ?_ ?_ _ _ _ _ _ | with_reducible exact HW5.out.size | with_reducible exact Nat.le_refl _ | with_reducible exact Nat.le_add_right _ _ | (simp; done) | (refine Nat.le_trans HW5.out.size ?_; simp; done))))) ((go_at_call 62; (with_reducible refine (HACT.out _ ?hB).mono ?_); (case hB => first | exact (Below.refl _ _).drew | exact ((Below.refl _ _).alloc (Nat.le_refl _) _).drew | exact (((Below.refl _ _).alloc (Nat.le_refl _) _).alloc (by simp) _).drew); rintro e w5 ⟨x', rfl, hst5, hb5, hw5⟩; have s5 := hb5.size; have y0 := hb5.cell (p := ⟨wr.heap.size, 0, none⟩); have y1 := hb5.cell (p := ⟨wr.heap.size, 1, none⟩); have y2 := hb5.cell (p := ⟨wr.heap.size, 2, none⟩); have y3 := hb5.cell (p := ⟨wr.heap.size, 3, none⟩); have y4 := hb5.cell (p := ⟨wr.heap.size, 4, none⟩); have y5 := hb5.cell (p := ⟨wr.heap.size, 5, none⟩); have yf := fun j => hb5.frozen (p := ⟨wr.heap.size, j, none⟩); have g0 := hb5.cell (p := ⟨wr.heap.size + 1, 0, none⟩); have g1 := hb5.cell (p := ⟨wr.heap.size + 1, 1, none⟩); have g2 := hb5.cell (p := ⟨wr.heap.size + 1, 2, none⟩); have g3 := hb5.cell (p := ⟨wr.heap.size + 1, 3, none⟩); have g4 := hb5.cell (p := ⟨wr.heap.size + 1, 4, none⟩); have g5 := hb5.cell (p := ⟨wr.heap.size + 1, 5, none⟩); have gf := fun j => hb5.frozen (p := ⟨wr.heap.size + 1, j, none⟩); simp [go_sem] at s5 y0 y1 y2 y3 y4 y5 yf g0 g1 g2 g3 g4 g5 gf; (try have s6 := Nat.lt_of_succ_le s5); (try have s7 := Nat.lt_of_succ_lt s6); have hal := fun (o : Obj) (a : Addr) (h : a.block < w5.heap.size) => World.cell?_alloc_lt w5 o a h; have hfz := fun (o : Obj) (a : Addr) (h : a.block < w5.heap.size) => frozen_alloc_lt w5 o h; have HST5 := Lib.hid hst5; have HW5 := Lib.hid hw5; clear hst5 hb5 hw5))
          · refine cut_world (AfterF wr (RefR q u10) (w5.heap.size) (w5.heap.size + 1) x' H' ⟨xc, xd, xi, xl, xn⟩) ?_ ?_
            · refine ⟨?_, ?_, ?_, ?_, ?_, ?_, ?_, ?_, ?_, ?_, ?_, ?_, ?_, ?_, ?_⟩
              · simp [go_sem]
              · simp [go_sem]
              · simp [go_sem]
              · simp [go_sem]
              · simp [go_sem]
              · simp [go_sem]
              · simp [go_sem]
              · simp [go_sem]
              · simp [go_sem]
              · simp [go_sem]
              · simp [go_sem]
              · repeat (first | with_reducible exact HW5.out | with_reducible refine Below.alloc ?_ ?_ _ | with_reducible refine below_set6 ?_ ?_ _ _ _ _ _ _ | with_reducible refine below_set5 ?_ ?_ _ _ _ _ _ | with_reducible exact HW5.out.size | with_reducible exact Nat.le_refl _ | with_reducible exact Nat.le_add_right _ _ | (simp; done) | (refine Nat.le_trans HW5.out.size ?_; simp; done))
              · refine HST5.out.grow ?_ (fun i hi h => .inl h)
                repeat (first | with_reducible exact Touch.refl _ _ | with_reducible refine Touch.allocC ?_ _ | with_reducible refine touch_set6 ?_ ?_ _ _ _ _ _ _ | with_reducible refine touch_set5 ?_ ?_ _ _ _ _ _ | exact .inr ⟨Nat.le_refl _, by simp <;> omega⟩ | exact .inr ⟨Nat.le_add_right _ _, by simp <;> omega⟩)
              · first | exact HW5.out.size | exact Nat.le_refl _ | exact Nat.le_add_right _ _ | exact Nat.le_trans HW5.out.size (Nat.le_add_right _ _)
              · simp <;> omega
            intro W hA
            have hr2 := HR.out.step hA.be
            have HA2 := Lib.hid hA
            have HR2 := Lib.hid hr2
            have c0 := hA.c0
            have c1 := hA.c1
            have c2 := hA.c2
            have c3 := hA.c3
            have c4 := hA.c4
            have c5 := hA.c5
            have k0 := hr2.k0
            have k1 := hr2.k1
            have k2 := hr2.k2
            have k3 := hr2.k3
            have k4 := hr2.k4
            have k5 := hr2.k5
            have f0 := hr2.fz 0
            have f1 := hr2.fz 1
            have f2 := hr2.fz 2
            have f3 := hr2.fz 3
            have f4 := hr2.fz 4
            have f5 := hr2.fz 5
            clear hA hr2
            go_upto_region 13 with (fail)
            obtain ⟨W2, hW2⟩ : ∃ W2, W2 = ((((((W.setCell ⟨q, 0, none⟩ (.slice x'.A0 H'.base.1.length x'.c0)).setCell ⟨q, 1, none⟩ (.slice x'.A1 H'.base.2.length x'.c1)).setCell ⟨q, 2, none⟩ (.slice x'.AD H'.deals.length x'.cd)).setCell ⟨q, 3, none⟩ (.int .i64 H'.last)).setCell ⟨q, 4, none⟩ (.bool H'.opened)).setCell ⟨q, 5, none⟩ (.slice x'.AL H'.ws.length x'.cl)) := ⟨_, rfl⟩
            have hset := HR2.out.set (x' := x') (H' := H')
            rw [← hW2] at hset ⊢
            have HSET := Lib.hid hset
            have HO2 := Lib.hid (own_touch (own_below (own_below HO.out (HA2.out.be.mono (Nat.le_refl _))) (Below.refl _ _)) hset.2 (own_not (own_below HO.out HA2.out.be) HR2.out.tq (by decide)))
            have hq13 : ¬ (w5.heap.size + 1) = q := by have := HA2.out.l13; omega
            have e0 := (hset.2.cell (p := ⟨(w5.heap.size + 1), 0, none⟩) HA2.out.u13 hq13).trans HA2.out.d0
            have e1 := (hset.2.cell (p := ⟨(w5.heap.size + 1), 1, none⟩) HA2.out.u13 hq13).trans HA2.out.d1
            have e2 := (hset.2.cell (p := ⟨(w5.heap.size + 1), 2, none⟩) HA2.out.u13 hq13).trans HA2.out.d2
            have e3 := (hset.2.cell (p := ⟨(w5.heap.size + 1), 3, none⟩) HA2.out.u13 hq13).trans HA2.out.d3
            have e4 := (hset.2.cell (p := ⟨(w5.heap.size + 1), 4, none⟩) HA2.out.u13 hq13).trans HA2.out.d4
            clear hset hW2 c0 c1 c2 c3 c4 c5 k0 k1 k2 k3 k4 k5 f0 f1 f2 f3 f4 f5
            go_wp2_with (at_builtin; refine wpList_append_own2 _ rfl (.tmp 48) (.tmp 50) 55 rfl w.heap.size 105 i0 _ 5 48 Try.underlying55 II.out IZ0.out IZ1.out IZ2.out rfl (by decide) _ _ _ rfl (HO2.out.alloc _) ⟨W2.heap.size, 0, none⟩ 1 1 [.int .i64 xc, .string xd, .int .i64 xi, .int .i64 xl, .int .i64 xn] rfl rfl (World.news_of_block (cs := #[.int .i64 xc, .string xd, .int .i64 xi, .int .i64 xl, .int .i64 xn]) (t := 105) (fr := (0, 0)) (heap_alloc_new W2 _)) (by simp [Value.oneCell']) (by unfold maxLen; omega) (by omega) (by have := HSET.out.1.be.size; simp; omega) ?_; intro v' W3 hown3 hgr3 hbk3)
            have HR3 := Lib.hid ((HSET.out.1.step ((Below.refl _ _).alloc (Nat.le_refl _) (.cells #[.int .i64 xc, .string xd, .int .i64 xi, .int .i64 xl, .int .i64 xn] 105))).app (HO2.out.alloc _) (Nat.le_refl _) hgr3)
            have hst3 : HStay (RefR q v') W3 x' H' := by
              refine HA2.out.st.grow (((HSET.out.2.mono (fun k _ hk => .inl hk)).allocC (.cells #[.int .i64 xc, .string xd, .int .i64 xi, .int .i64 xl, .int .i64 xn] 105)).trans (Touch.grown hgr3 (fun k hk => .inr hk))) (fun k hk e => ?_)
              rcases e with e | e
              · exact .inl e
              · rcases hbk3 with h | h
                · exact .inr (h ▸ e)
                · have h1 := h k e
                  have h2 := HSET.out.2.size
                  simp at h1
                  omega
            have HST3 := Lib.hid hst3
            have ho3 : W3.ownsRow w.heap.size 105 5 v' (i + 1) (flat Ans.cell 5 (out ++ [(⟨xc, xd, xi, xl, xn⟩ : Ans)])) := by
              rw [flat_append, ans_flat1]; exact hown3
            have HNX2 : Hid (runHs (hse0 m) ls = ((out ++ [(⟨xc, xd, xi, xl, xn⟩ : Ans)]) ++ (runHs H' (ls.drop (i + 1))).1, (runHs H' (ls.drop (i + 1))).2)) := Lib.hid (by rw [HNX.out]; simp)
            clear hgr3 hown3 hst3 hbk3
            go_wp2
            go_roundw
            case rel => exact ⟨i + 1, x', H', _, by omega, by go_num, by rw [List.length_append, HOL.out]; rfl, HR3.out, HST3.out, ho3, HS2, HNX2⟩
            case measure => simp [intOf]; omega
          · refine cut_world (AfterF wr (RefR q u10) (w5.heap.size + 1) (w5.heap.size) x' H' ⟨xc, xd, xi, xl, xn⟩) ?_ ?_
            · refine ⟨?_, ?_, ?_, ?_, ?_, ?_, ?_, ?_, ?_, ?_, ?_, ?_, ?_, ?_, ?_⟩
              · simp [go_sem]
              · simp [go_sem]
              · simp [go_sem]
              · simp [go_sem]
              · simp [go_sem]
              · simp [go_sem]
              · simp [go_sem]
              · simp [go_sem]
              · simp [go_sem]
              · simp [go_sem]
              · simp [go_sem]
              · repeat (first | with_reducible exact HW5.out | with_reducible refine Below.alloc ?_ ?_ _ | with_reducible refine below_set6 ?_ ?_ _ _ _ _ _ _ | with_reducible refine below_set5 ?_ ?_ _ _ _ _ _ | with_reducible exact HW5.out.size | with_reducible exact Nat.le_refl _ | with_reducible exact Nat.le_add_right _ _ | (simp; done) | (refine Nat.le_trans HW5.out.size ?_; simp; done))
              · refine HST5.out.grow ?_ (fun i hi h => .inl h)
                repeat (first | with_reducible exact Touch.refl _ _ | with_reducible refine Touch.allocC ?_ _ | with_reducible refine touch_set6 ?_ ?_ _ _ _ _ _ _ | with_reducible refine touch_set5 ?_ ?_ _ _ _ _ _ | exact .inr ⟨Nat.le_refl _, by simp <;> omega⟩ | exact .inr ⟨Nat.le_add_right _ _, by simp <;> omega⟩)
              · first | exact HW5.out.size | exact Nat.le_refl _ | exact Nat.le_add_right _ _ | exact Nat.le_trans HW5.out.size (Nat.le_add_right _ _)
              · simp <;> omega
            intro W hA
            have hr2 := HR.out.step hA.be
            have HA2 := Lib.hid hA
            have HR2 := Lib.hid hr2
            have c0 := hA.c0
            have c1 := hA.c1
            have c2 := hA.c2
            have c3 := hA.c3
            have c4 := hA.c4
            have c5 := hA.c5
            have k0 := hr2.k0
            have k1 := hr2.k1
            have k2 := hr2.k2
            have k3 := hr2.k3
            have k4 := hr2.k4
            have k5 := hr2.k5
            have f0 := hr2.fz 0
            have f1 := hr2.fz 1
            have f2 := hr2.fz 2
            have f3 := hr2.fz 3
            have f4 := hr2.fz 4
            have f5 := hr2.fz 5
            clear hA hr2
            go_upto_region 13 with (fail)
            obtain ⟨W2, hW2⟩ : ∃ W2, W2 = ((((((W.setCell ⟨q, 0, none⟩ (.slice x'.A0 H'.base.1.length x'.c0)).setCell ⟨q, 1, none⟩ (.slice x'.A1 H'.base.2.length x'.c1)).setCell ⟨q, 2, none⟩ (.slice x'.AD H'.deals.length x'.cd)).setCell ⟨q, 3, none⟩ (.int .i64 H'.last)).setCell ⟨q, 4, none⟩ (.bool H'.opened)).setCell ⟨q, 5, none⟩ (.slice x'.AL H'.ws.length x'.cl)) := ⟨_, rfl⟩
            have hset := HR2.out.set (x' := x') (H' := H')
            rw [← hW2] at hset ⊢
            have HSET := Lib.hid hset
            have HO2 := Lib.hid (own_touch (own_below (own_below HO.out (HA2.out.be.mono (Nat.le_refl _))) (Below.refl _ _)) hset.2 (own_not (own_below HO.out HA2.out.be) HR2.out.tq (by decide)))
            have hq13 : ¬ w5.heap.size = q := by have := HA2.out.l13; omega
            have e0 := (hset.2.cell (p := ⟨w5.heap.size, 0, none⟩) HA2.out.u13 hq13).trans HA2.out.d0
            have e1 := (hset.2.cell (p := ⟨w5.heap.size, 1, none⟩) HA2.out.u13 hq13).trans HA2.out.d1
            have e2 := (hset.2.cell (p := ⟨w5.heap.size, 2, none⟩) HA2.out.u13 hq13).trans HA2.out.d2
            have e3 := (hset.2.cell (p := ⟨w5.heap.size, 3, none⟩) HA2.out.u13 hq13).trans HA2.out.d3
            have e4 := (hset.2.cell (p := ⟨w5.heap.size, 4, none⟩) HA2.out.u13 hq13).trans HA2.out.d4
            clear hset hW2 c0 c1 c2 c3 c4 c5 k0 k1 k2 k3 k4 k5 f0 f1 f2 f3 f4 f5
            go_wp2_with (at_builtin; refine wpList_append_own2 _ rfl (.tmp 48) (.tmp 50) 55 rfl w.heap.size 105 i0 _ 5 48 Try.underlying55 II.out IZ0.out IZ1.out IZ2.out rfl (by decide) _ _ _ rfl (HO2.out.alloc _) ⟨W2.heap.size, 0, none⟩ 1 1 [.int .i64 xc, .string xd, .int .i64 xi, .int .i64 xl, .int .i64 xn] rfl rfl (World.news_of_block (cs := #[.int .i64 xc, .string xd, .int .i64 xi, .int .i64 xl, .int .i64 xn]) (t := 105) (fr := (0, 0)) (heap_alloc_new W2 _)) (by simp [Value.oneCell']) (by unfold maxLen; omega) (by omega) (by have := HSET.out.1.be.size; simp; omega) ?_; intro v' W3 hown3 hgr3 hbk3)
            have HR3 := Lib.hid ((HSET.out.1.step ((Below.refl _ _).alloc (Nat.le_refl _) (.cells #[.int .i64 xc, .string xd, .int .i64 xi, .int .i64 xl, .int .i64 xn] 105))).app (HO2.out.alloc _) (Nat.le_refl _) hgr3)
            have hst3 : HStay (RefR q v') W3 x' H' := by
              refine HA2.out.st.grow (((HSET.out.2.mono (fun k _ hk => .inl hk)).allocC (.cells #[.int .i64 xc, .string xd, .int .i64 xi, .int .i64 xl, .int .i64 xn] 105)).trans (Touch.grown hgr3 (fun k hk => .inr hk))) (fun k hk e => ?_)
              rcases e with e | e
              · exact .inl e
              · rcases hbk3 with h | h
                · exact .inr (h ▸ e)
                · have h1 := h k e
                  have h2 := HSET.out.2.size
                  simp at h1
                  omega
            have HST3 := Lib.hid hst3
            have ho3 : W3.ownsRow w.heap.size 105 5 v' (i + 1) (flat Ans.cell 5 (out ++ [(⟨xc, xd, xi, xl, xn⟩ : Ans)])) := by
              rw [flat_append, ans_flat1]; exact hown3
            have HNX2 : Hid (runHs (hse0 m) ls = ((out ++ [(⟨xc, xd, xi, xl, xn⟩ : Ans)]) ++ (runHs H' (ls.drop (i + 1))).1, (runHs H' (ls.drop (i + 1))).2)) := Lib.hid (by rw [HNX.out]; simp)
            clear hgr3 hown3 hst3 hbk3
            go_wp2
            go_roundw
            case rel => exact ⟨i + 1, x', H', _, by omega, by go_num, by rw [List.length_append, HOL.out]; rfl, HR3.out, HST3.out, ho3, HS2, HNX2⟩
            case measure => simp [intOf]; omega
          · refine cut_world (AfterF wr (RefR q u10) (wr.heap.size) (w5.heap.size) x' H' ⟨xc, xd, xi, xl, xn⟩) ?_ ?_
            · refine ⟨?_, ?_, ?_, ?_, ?_, ?_, ?_, ?_, ?_, ?_, ?_, ?_, ?_, ?_, ?_⟩
              · rw [World.cell?_alloc_lt _ _ _ (by simp; omega)]; simp [go_sem, y0]
              · rw [World.cell?_alloc_lt _ _ _ (by simp; omega)]; simp [go_sem, y1]
              · rw [World.cell?_alloc_lt _ _ _ (by simp; omega)]; simp [go_sem, y2]
              · rw [World.cell?_alloc_lt _ _ _ (by simp; omega)]; simp [go_sem, y3]
              · rw [World.cell?_alloc_lt _ _ _ (by simp; omega)]; simp [go_sem, y4]
              · rw [World.cell?_alloc_lt _ _ _ (by simp; omega)]; simp [go_sem, y5]
              · simp [go_sem]
              · simp [go_sem]
              · simp [go_sem]
              · simp [go_sem]
              · simp [go_sem]
              · repeat (first | with_reducible exact HW5.out | with_reducible refine Below.alloc ?_ ?_ _ | with_reducible refine below_set6 ?_ ?_ _ _ _ _ _ _ | with_reducible refine below_set5 ?_ ?_ _ _ _ _ _ | with_reducible exact HW5.out.size | with_reducible exact Nat.le_refl _ | with_reducible exact Nat.le_add_right _ _ | (simp; done) | (refine Nat.le_trans HW5.out.size ?_; simp; done))
              · refine HST5.out.grow ?_ (fun i hi h => .inl h)
                repeat (first | with_reducible exact Touch.refl _ _ | with_reducible refine Touch.allocC ?_ _ | with_reducible refine touch_set6 ?_ ?_ _ _ _ _ _ _ | with_reducible refine touch_set5 ?_ ?_ _ _ _ _ _ | exact .inr ⟨Nat.le_refl _, by simp <;> omega⟩ | exact .inr ⟨Nat.le_add_right _ _, by simp <;> omega⟩)
              · first | exact HW5.out.size | exact Nat.le_refl _ | exact Nat.le_add_right _ _ | exact Nat.le_trans HW5.out.size (Nat.le_add_right _ _)
              · simp <;> omega
            intro W hA
            have hr2 := HR.out.step hA.be
            have HA2 := Lib.hid hA
            have HR2 := Lib.hid hr2
            have c0 := hA.c0
            have c1 := hA.c1
            have c2 := hA.c2
            have c3 := hA.c3
            have c4 := hA.c4
            have c5 := hA.c5
            have k0 := hr2.k0
            have k1 := hr2.k1
            have k2 := hr2.k2
            have k3 := hr2.k3
            have k4 := hr2.k4
            have k5 := hr2.k5
            have f0 := hr2.fz 0
            have f1 := hr2.fz 1
            have f2 := hr2.fz 2
            have f3 := hr2.fz 3
            have f4 := hr2.fz 4
            have f5 := hr2.fz 5
            clear hA hr2
            go_upto_region 13 with (fail)
            obtain ⟨W2, hW2⟩ : ∃ W2, W2 = ((((((W.setCell ⟨q, 0, none⟩ (.slice x'.A0 H'.base.1.length x'.c0)).setCell ⟨q, 1, none⟩ (.slice x'.A1 H'.base.2.length x'.c1)).setCell ⟨q, 2, none⟩ (.slice x'.AD H'.deals.length x'.cd)).setCell ⟨q, 3, none⟩ (.int .i64 H'.last)).setCell ⟨q, 4, none⟩ (.bool H'.opened)).setCell ⟨q, 5, none⟩ (.slice x'.AL H'.ws.length x'.cl)) := ⟨_, rfl⟩
            have hset := HR2.out.set (x' := x') (H' := H')
            rw [← hW2] at hset ⊢
            have HSET := Lib.hid hset
            have HO2 := Lib.hid (own_touch (own_below (own_below HO.out (HA2.out.be.mono (Nat.le_refl _))) (Below.refl _ _)) hset.2 (own_not (own_below HO.out HA2.out.be) HR2.out.tq (by decide)))
            have hq13 : ¬ w5.heap.size = q := by have := HA2.out.l13; omega
            have e0 := (hset.2.cell (p := ⟨w5.heap.size, 0, none⟩) HA2.out.u13 hq13).trans HA2.out.d0
            have e1 := (hset.2.cell (p := ⟨w5.heap.size, 1, none⟩) HA2.out.u13 hq13).trans HA2.out.d1
            have e2 := (hset.2.cell (p := ⟨w5.heap.size, 2, none⟩) HA2.out.u13 hq13).trans HA2.out.d2
            have e3 := (hset.2.cell (p := ⟨w5.heap.size, 3, none⟩) HA2.out.u13 hq13).trans HA2.out.d3
            have e4 := (hset.2.cell (p := ⟨w5.heap.size, 4, none⟩) HA2.out.u13 hq13).trans HA2.out.d4
            clear hset hW2 c0 c1 c2 c3 c4 c5 k0 k1 k2 k3 k4 k5 f0 f1 f2 f3 f4 f5
            go_wp2_with (at_builtin; refine wpList_append_own2 _ rfl (.tmp 48) (.tmp 50) 55 rfl w.heap.size 105 i0 _ 5 48 Try.underlying55 II.out IZ0.out IZ1.out IZ2.out rfl (by decide) _ _ _ rfl (HO2.out.alloc _) ⟨W2.heap.size, 0, none⟩ 1 1 [.int .i64 xc, .string xd, .int .i64 xi, .int .i64 xl, .int .i64 xn] rfl rfl (World.news_of_block (cs := #[.int .i64 xc, .string xd, .int .i64 xi, .int .i64 xl, .int .i64 xn]) (t := 105) (fr := (0, 0)) (heap_alloc_new W2 _)) (by simp [Value.oneCell']) (by unfold maxLen; omega) (by omega) (by have := HSET.out.1.be.size; simp; omega) ?_; intro v' W3 hown3 hgr3 hbk3)
            have HR3 := Lib.hid ((HSET.out.1.step ((Below.refl _ _).alloc (Nat.le_refl _) (.cells #[.int .i64 xc, .string xd, .int .i64 xi, .int .i64 xl, .int .i64 xn] 105))).app (HO2.out.alloc _) (Nat.le_refl _) hgr3)
            have hst3 : HStay (RefR q v') W3 x' H' := by
              refine HA2.out.st.grow (((HSET.out.2.mono (fun k _ hk => .inl hk)).allocC (.cells #[.int .i64 xc, .string xd, .int .i64 xi, .int .i64 xl, .int .i64 xn] 105)).trans (Touch.grown hgr3 (fun k hk => .inr hk))) (fun k hk e => ?_)
              rcases e with e | e
              · exact .inl e
              · rcases hbk3 with h | h
                · exact .inr (h ▸ e)
                · have h1 := h k e
                  have h2 := HSET.out.2.size
                  simp at h1
                  omega
            have HST3 := Lib.hid hst3
            have ho3 : W3.ownsRow w.heap.size 105 5 v' (i + 1) (flat Ans.cell 5 (out ++ [(⟨xc, xd, xi, xl, xn⟩ : Ans)])) := by
              rw [flat_append, ans_flat1]; exact hown3
            have HNX2 : Hid (runHs (hse0 m) ls = ((out ++ [(⟨xc, xd, xi, xl, xn⟩ : Ans)]) ++ (runHs H' (ls.drop (i + 1))).1, (runHs H' (ls.drop (i + 1))).2)) := Lib.hid (by rw [HNX.out]; simp)
            clear hgr3 hown3 hst3 hbk3
            go_wp2
            go_roundw
            case rel => exact ⟨i + 1, x', H', _, by omega, by go_num, by rw [List.length_append, HOL.out]; rfl, HR3.out, HST3.out, ho3, HS2, HNX2⟩
            case measure => simp [intOf]; omega
          · refine cut_world (AfterF wr (RefR q u10) (wr.heap.size) (wr.heap.size + 1) x' H' ⟨xc, xd, xi, xl, xn⟩) ?_ ?_
            · refine ⟨?_, ?_, ?_, ?_, ?_, ?_, ?_, ?_, ?_, ?_, ?_, ?_, ?_, ?_, ?_⟩
              · simp [go_sem, y0]
              · simp [go_sem, y1]
              · simp [go_sem, y2]
              · simp [go_sem, y3]
              · simp [go_sem, y4]
              · simp [go_sem, y5]
              · simp [go_sem, g0]
              · simp [go_sem, g1]
              · simp [go_sem, g2]
              · simp [go_sem, g3]
              · simp [go_sem, g4]
              · repeat (first | with_reducible exact HW5.out | with_reducible refine Below.alloc ?_ ?_ _ | with_reducible refine below_set6 ?_ ?_ _ _ _ _ _ _ | with_reducible refine below_set5 ?_ ?_ _ _ _ _ _ | with_reducible exact HW5.out.size | with_reducible exact Nat.le_refl _ | with_reducible exact Nat.le_add_right _ _ | (simp; done) | (refine Nat.le_trans HW5.out.size ?_; simp; done))
              · refine HST5.out.grow ?_ (fun i hi h => .inl h)
                repeat (first | with_reducible exact Touch.refl _ _ | with_reducible refine Touch.allocC ?_ _ | with_reducible refine touch_set6 ?_ ?_ _ _ _ _ _ _ | with_reducible refine touch_set5 ?_ ?_ _ _ _ _ _ | exact .inr ⟨Nat.le_refl _, by simp <;> omega⟩ | exact .inr ⟨Nat.le_add_right _ _, by simp <;> omega⟩)
              · first | exact HW5.out.size | exact Nat.le_refl _ | exact Nat.le_add_right _ _ | exact Nat.le_trans HW5.out.size (Nat.le_add_right _ _)
              · simp <;> omega
            intro W hA
            have hr2 := HR.out.step hA.be
            have HA2 := Lib.hid hA
            have HR2 := Lib.hid hr2
            have c0 := hA.c0
            have c1 := hA.c1
            have c2 := hA.c2
            have c3 := hA.c3
            have c4 := hA.c4
            have c5 := hA.c5
            have k0 := hr2.k0
            have k1 := hr2.k1
            have k2 := hr2.k2
            have k3 := hr2.k3
            have k4 := hr2.k4
            have k5 := hr2.k5
            have f0 := hr2.fz 0
            have f1 := hr2.fz 1
            have f2 := hr2.fz 2
            have f3 := hr2.fz 3
            have f4 := hr2.fz 4
            have f5 := hr2.fz 5
            clear hA hr2
            go_upto_region 13 with (fail)
            obtain ⟨W2, hW2⟩ : ∃ W2, W2 = ((((((W.setCell ⟨q, 0, none⟩ (.slice x'.A0 H'.base.1.length x'.c0)).setCell ⟨q, 1, none⟩ (.slice x'.A1 H'.base.2.length x'.c1)).setCell ⟨q, 2, none⟩ (.slice x'.AD H'.deals.length x'.cd)).setCell ⟨q, 3, none⟩ (.int .i64 H'.last)).setCell ⟨q, 4, none⟩ (.bool H'.opened)).setCell ⟨q, 5, none⟩ (.slice x'.AL H'.ws.length x'.cl)) := ⟨_, rfl⟩
            have hset := HR2.out.set (x' := x') (H' := H')
            rw [← hW2] at hset ⊢
            have HSET := Lib.hid hset
            have HO2 := Lib.hid (own_touch (own_below (own_below HO.out (HA2.out.be.mono (Nat.le_refl _))) (Below.refl _ _)) hset.2 (own_not (own_below HO.out HA2.out.be) HR2.out.tq (by decide)))
            have hq13 : ¬ (wr.heap.size + 1) = q := by have := HA2.out.l13; omega
            have e0 := (hset.2.cell (p := ⟨(wr.heap.size + 1), 0, none⟩) HA2.out.u13 hq13).trans HA2.out.d0
            have e1 := (hset.2.cell (p := ⟨(wr.heap.size + 1), 1, none⟩) HA2.out.u13 hq13).trans HA2.out.d1
            have e2 := (hset.2.cell (p := ⟨(wr.heap.size + 1), 2, none⟩) HA2.out.u13 hq13).trans HA2.out.d2
            have e3 := (hset.2.cell (p := ⟨(wr.heap.size + 1), 3, none⟩) HA2.out.u13 hq13).trans HA2.out.d3
            have e4 := (hset.2.cell (p := ⟨(wr.heap.size + 1), 4, none⟩) HA2.out.u13 hq13).trans HA2.out.d4
            clear hset hW2 c0 c1 c2 c3 c4 c5 k0 k1 k2 k3 k4 k5 f0 f1 f2 f3 f4 f5
            go_wp2_with (at_builtin; refine wpList_append_own2 _ rfl (.tmp 48) (.tmp 50) 55 rfl w.heap.size 105 i0 _ 5 48 Try.underlying55 II.out IZ0.out IZ1.out IZ2.out rfl (by decide) _ _ _ rfl (HO2.out.alloc _) ⟨W2.heap.size, 0, none⟩ 1 1 [.int .i64 xc, .string xd, .int .i64 xi, .int .i64 xl, .int .i64 xn] rfl rfl (World.news_of_block (cs := #[.int .i64 xc, .string xd, .int .i64 xi, .int .i64 xl, .int .i64 xn]) (t := 105) (fr := (0, 0)) (heap_alloc_new W2 _)) (by simp [Value.oneCell']) (by unfold maxLen; omega) (by omega) (by have := HSET.out.1.be.size; simp; omega) ?_; intro v' W3 hown3 hgr3 hbk3)
            have HR3 := Lib.hid ((HSET.out.1.step ((Below.refl _ _).alloc (Nat.le_refl _) (.cells #[.int .i64 xc, .string xd, .int .i64 xi, .int .i64 xl, .int .i64 xn] 105))).app (HO2.out.alloc _) (Nat.le_refl _) hgr3)
            have hst3 : HStay (RefR q v') W3 x' H' := by
              refine HA2.out.st.grow (((HSET.out.2.mono (fun k _ hk => .inl hk)).allocC (.cells #[.int .i64 xc, .string xd, .int .i64 xi, .int .i64 xl, .int .i64 xn] 105)).trans (Touch.grown hgr3 (fun k hk => .inr hk))) (fun k hk e => ?_)
              rcases e with e | e
              · exact .inl e
              · rcases hbk3 with h | h
                · exact .inr (h ▸ e)
                · have h1 := h k e
                  have h2 := HSET.out.2.size
                  simp at h1
                  omega
            have HST3 := Lib.hid hst3
            have ho3 : W3.ownsRow w.heap.size 105 5 v' (i + 1) (flat Ans.cell 5 (out ++ [(⟨xc, xd, xi, xl, xn⟩ : Ans)])) := by
              rw [flat_append, ans_flat1]; exact hown3
            have HNX2 : Hid (runHs (hse0 m) ls = ((out ++ [(⟨xc, xd, xi, xl, xn⟩ : Ans)]) ++ (runHs H' (ls.drop (i + 1))).1, (runHs H' (ls.drop (i + 1))).2)) := Lib.hid (by rw [HNX.out]; simp)
            clear hgr3 hown3 hst3 hbk3
            go_wp2
            go_roundw
            case rel => exact ⟨i + 1, x', H', _, by omega, by go_num, by rw [List.length_append, HOL.out]; rfl, HR3.out, HST3.out, ho3, HS2, HNX2⟩
            case measure => simp [intOf]; omega
          · refine cut_world (AfterF wr (RefR q u10) (w5.heap.size) (wr.heap.size) x' H' ⟨xc, xd, xi, xl, xn⟩) ?_ ?_
            · refine ⟨?_, ?_, ?_, ?_, ?_, ?_, ?_, ?_, ?_, ?_, ?_, ?_, ?_, ?_, ?_⟩
              · simp [go_sem]
              · simp [go_sem]
              · simp [go_sem]
              · simp [go_sem]
              · simp [go_sem]
              · simp [go_sem]
              · rw [World.cell?_alloc_lt _ _ _ (by simp; omega)]; simp [go_sem, y0]
              · rw [World.cell?_alloc_lt _ _ _ (by simp; omega)]; simp [go_sem, y1]
              · rw [World.cell?_alloc_lt _ _ _ (by simp; omega)]; simp [go_sem, y2]
              · rw [World.cell?_alloc_lt _ _ _ (by simp; omega)]; simp [go_sem, y3]
              · rw [World.cell?_alloc_lt _ _ _ (by simp; omega)]; simp [go_sem, y4]
              · repeat (first | with_reducible exact HW5.out | with_reducible refine Below.alloc ?_ ?_ _ | with_reducible refine below_set6 ?_ ?_ _ _ _ _ _ _ | with_reducible refine below_set5 ?_ ?_ _ _ _ _ _ | with_reducible exact HW5.out.size | with_reducible exact Nat.le_refl _ | with_reducible exact Nat.le_add_right _ _ | (simp; done) | (refine Nat.le_trans HW5.out.size ?_; simp; done))
              · refine HST5.out.grow ?_ (fun i hi h => .inl h)
                repeat (first | with_reducible exact Touch.refl _ _ | with_reducible refine Touch.allocC ?_ _ | with_reducible refine touch_set6 ?_ ?_ _ _ _ _ _ _ | with_reducible refine touch_set5 ?_ ?_ _ _ _ _ _ | exact .inr ⟨Nat.le_refl _, by simp <;> omega⟩ | exact .inr ⟨Nat.le_add_right _ _, by simp <;> omega⟩)
              · first | exact HW5.out.size | exact Nat.le_refl _ | exact Nat.le_add_right _ _ | exact Nat.le_trans HW5.out.size (Nat.le_add_right _ _)
              · simp <;> omega
            intro W hA
            have hr2 := HR.out.step hA.be
            have HA2 := Lib.hid hA
            have HR2 := Lib.hid hr2
            have c0 := hA.c0
            have c1 := hA.c1
            have c2 := hA.c2
            have c3 := hA.c3
            have c4 := hA.c4
            have c5 := hA.c5
            have k0 := hr2.k0
            have k1 := hr2.k1
            have k2 := hr2.k2
            have k3 := hr2.k3
            have k4 := hr2.k4
            have k5 := hr2.k5
            have f0 := hr2.fz 0
            have f1 := hr2.fz 1
            have f2 := hr2.fz 2
            have f3 := hr2.fz 3
            have f4 := hr2.fz 4
            have f5 := hr2.fz 5
            clear hA hr2
            go_upto_region 13 with (fail)
            obtain ⟨W2, hW2⟩ : ∃ W2, W2 = ((((((W.setCell ⟨q, 0, none⟩ (.slice x'.A0 H'.base.1.length x'.c0)).setCell ⟨q, 1, none⟩ (.slice x'.A1 H'.base.2.length x'.c1)).setCell ⟨q, 2, none⟩ (.slice x'.AD H'.deals.length x'.cd)).setCell ⟨q, 3, none⟩ (.int .i64 H'.last)).setCell ⟨q, 4, none⟩ (.bool H'.opened)).setCell ⟨q, 5, none⟩ (.slice x'.AL H'.ws.length x'.cl)) := ⟨_, rfl⟩
            have hset := HR2.out.set (x' := x') (H' := H')
            rw [← hW2] at hset ⊢
            have HSET := Lib.hid hset
            have HO2 := Lib.hid (own_touch (own_below (own_below HO.out (HA2.out.be.mono (Nat.le_refl _))) (Below.refl _ _)) hset.2 (own_not (own_below HO.out HA2.out.be) HR2.out.tq (by decide)))
            have hq13 : ¬ wr.heap.size = q := by have := HA2.out.l13; omega
            have e0 := (hset.2.cell (p := ⟨wr.heap.size, 0, none⟩) HA2.out.u13 hq13).trans HA2.out.d0
            have e1 := (hset.2.cell (p := ⟨wr.heap.size, 1, none⟩) HA2.out.u13 hq13).trans HA2.out.d1
            have e2 := (hset.2.cell (p := ⟨wr.heap.size, 2, none⟩) HA2.out.u13 hq13).trans HA2.out.d2
            have e3 := (hset.2.cell (p := ⟨wr.heap.size, 3, none⟩) HA2.out.u13 hq13).trans HA2.out.d3
            have e4 := (hset.2.cell (p := ⟨wr.heap.size, 4, none⟩) HA2.out.u13 hq13).trans HA2.out.d4
            clear hset hW2 c0 c1 c2 c3 c4 c5 k0 k1 k2 k3 k4 k5 f0 f1 f2 f3 f4 f5
            go_wp2_with (at_builtin; refine wpList_append_own2 _ rfl (.tmp 48) (.tmp 50) 55 rfl w.heap.size 105 i0 _ 5 48 Try.underlying55 II.out IZ0.out IZ1.out IZ2.out rfl (by decide) _ _ _ rfl (HO2.out.alloc _) ⟨W2.heap.size, 0, none⟩ 1 1 [.int .i64 xc, .string xd, .int .i64 xi, .int .i64 xl, .int .i64 xn] rfl rfl (World.news_of_block (cs := #[.int .i64 xc, .string xd, .int .i64 xi, .int .i64 xl, .int .i64 xn]) (t := 105) (fr := (0, 0)) (heap_alloc_new W2 _)) (by simp [Value.oneCell']) (by unfold maxLen; omega) (by omega) (by have := HSET.out.1.be.size; simp; omega) ?_; intro v' W3 hown3 hgr3 hbk3)
            have HR3 := Lib.hid ((HSET.out.1.step ((Below.refl _ _).alloc (Nat.le_refl _) (.cells #[.int .i64 xc, .string xd, .int .i64 xi, .int .i64 xl, .int .i64 xn] 105))).app (HO2.out.alloc _) (Nat.le_refl _) hgr3)
            have hst3 : HStay (RefR q v') W3 x' H' := by
              refine HA2.out.st.grow (((HSET.out.2.mono (fun k _ hk => .inl hk)).allocC (.cells #[.int .i64 xc, .string xd, .int .i64 xi, .int .i64 xl, .int .i64 xn] 105)).trans (Touch.grown hgr3 (fun k hk => .inr hk))) (fun k hk e => ?_)
              rcases e with e | e
              · exact .inl e
              · rcases hbk3 with h | h
                · exact .inr (h ▸ e)
                · have h1 := h k e
                  have h2 := HSET.out.2.size
                  simp at h1
                  omega
            have HST3 := Lib.hid hst3
            have ho3 : W3.ownsRow w.heap.size 105 5 v' (i + 1) (flat Ans.cell 5 (out ++ [(⟨xc, xd, xi, xl, xn⟩ : Ans)])) := by
              rw [flat_append, ans_flat1]; exact hown3
            have HNX2 : Hid (runHs (hse0 m) ls = ((out ++ [(⟨xc, xd, xi, xl, xn⟩ : Ans)]) ++ (runHs H' (ls.drop (i + 1))).1, (runHs H' (ls.drop (i + 1))).2)) := Lib.hid (by rw [HNX.out]; simp)
            clear hgr3 hown3 hst3 hbk3
            go_wp2
            go_roundw
            case rel => exact ⟨i + 1, x', H', _, by omega, by go_num, by rw [List.length_append, HOL.out]; rfl, HR3.out, HST3.out, ho3, HS2, HNX2⟩
            case measure => simp [intOf]; omega
          · refine cut_world (AfterF wr (RefR q u10) (wr.heap.size + 1) (wr.heap.size) x' H' ⟨xc, xd, xi, xl, xn⟩) ?_ ?_
            · refine ⟨?_, ?_, ?_, ?_, ?_, ?_, ?_, ?_, ?_, ?_, ?_, ?_, ?_, ?_, ?_⟩
              · simp [go_sem, g0]
              · simp [go_sem, g1]
              · simp [go_sem, g2]
              · simp [go_sem, g3]
              · simp [go_sem, g4]
              · simp [go_sem, g5]
              · simp [go_sem, y0]
              · simp [go_sem, y1]
              · simp [go_sem, y2]
              · simp [go_sem, y3]
              · simp [go_sem, y4]
              · repeat (first | with_reducible exact HW5.out | with_reducible refine Below.alloc ?_ ?_ _ | with_reducible refine below_set6 ?_ ?_ _ _ _ _ _ _ | with_reducible refine below_set5 ?_ ?_ _ _ _ _ _ | with_reducible exact HW5.out.size | with_reducible exact Nat.le_refl _ | with_reducible exact Nat.le_add_right _ _ | (simp; done) | (refine Nat.le_trans HW5.out.size ?_; simp; done))
              · refine HST5.out.grow ?_ (fun i hi h => .inl h)
                repeat (first | with_reducible exact Touch.refl _ _ | with_reducible refine Touch.allocC ?_ _ | with_reducible refine touch_set6 ?_ ?_ _ _ _ _ _ _ | with_reducible refine touch_set5 ?_ ?_ _ _ _ _ _ | exact .inr ⟨Nat.le_refl _, by simp <;> omega⟩ | exact .inr ⟨Nat.le_add_right _ _, by simp <;> omega⟩)
              · first | exact HW5.out.size | exact Nat.le_refl _ | exact Nat.le_add_right _ _ | exact Nat.le_trans HW5.out.size (Nat.le_add_right _ _)
              · simp <;> omega
            intro W hA
            have hr2 := HR.out.step hA.be
            have HA2 := Lib.hid hA
            have HR2 := Lib.hid hr2
            have c0 := hA.c0
            have c1 := hA.c1
            have c2 := hA.c2
            have c3 := hA.c3
            have c4 := hA.c4
            have c5 := hA.c5
            have k0 := hr2.k0
            have k1 := hr2.k1
            have k2 := hr2.k2
            have k3 := hr2.k3
            have k4 := hr2.k4
            have k5 := hr2.k5
            have f0 := hr2.fz 0
            have f1 := hr2.fz 1
            have f2 := hr2.fz 2
            have f3 := hr2.fz 3
            have f4 := hr2.fz 4
            have f5 := hr2.fz 5
            clear hA hr2
            go_upto_region 13 with (fail)
            obtain ⟨W2, hW2⟩ : ∃ W2, W2 = ((((((W.setCell ⟨q, 0, none⟩ (.slice x'.A0 H'.base.1.length x'.c0)).setCell ⟨q, 1, none⟩ (.slice x'.A1 H'.base.2.length x'.c1)).setCell ⟨q, 2, none⟩ (.slice x'.AD H'.deals.length x'.cd)).setCell ⟨q, 3, none⟩ (.int .i64 H'.last)).setCell ⟨q, 4, none⟩ (.bool H'.opened)).setCell ⟨q, 5, none⟩ (.slice x'.AL H'.ws.length x'.cl)) := ⟨_, rfl⟩
            have hset := HR2.out.set (x' := x') (H' := H')
            rw [← hW2] at hset ⊢
            have HSET := Lib.hid hset
            have HO2 := Lib.hid (own_touch (own_below (own_below HO.out (HA2.out.be.mono (Nat.le_refl _))) (Below.refl _ _)) hset.2 (own_not (own_below HO.out HA2.out.be) HR2.out.tq (by decide)))
            have hq13 : ¬ wr.heap.size = q := by have := HA2.out.l13; omega
            have e0 := (hset.2.cell (p := ⟨wr.heap.size, 0, none⟩) HA2.out.u13 hq13).trans HA2.out.d0
            have e1 := (hset.2.cell (p := ⟨wr.heap.size, 1, none⟩) HA2.out.u13 hq13).trans HA2.out.d1
            have e2 := (hset.2.cell (p := ⟨wr.heap.size, 2, none⟩) HA2.out.u13 hq13).trans HA2.out.d2
            have e3 := (hset.2.cell (p := ⟨wr.heap.size, 3, none⟩) HA2.out.u13 hq13).trans HA2.out.d3
            have e4 := (hset.2.cell (p := ⟨wr.heap.size, 4, none⟩) HA2.out.u13 hq13).trans HA2.out.d4
            clear hset hW2 c0 c1 c2 c3 c4 c5 k0 k1 k2 k3 k4 k5 f0 f1 f2 f3 f4 f5
            go_wp2_with (at_builtin; refine wpList_append_own2 _ rfl (.tmp 48) (.tmp 50) 55 rfl w.heap.size 105 i0 _ 5 48 Try.underlying55 II.out IZ0.out IZ1.out IZ2.out rfl (by decide) _ _ _ rfl (HO2.out.alloc _) ⟨W2.heap.size, 0, none⟩ 1 1 [.int .i64 xc, .string xd, .int .i64 xi, .int .i64 xl, .int .i64 xn] rfl rfl (World.news_of_block (cs := #[.int .i64 xc, .string xd, .int .i64 xi, .int .i64 xl, .int .i64 xn]) (t := 105) (fr := (0, 0)) (heap_alloc_new W2 _)) (by simp [Value.oneCell']) (by unfold maxLen; omega) (by omega) (by have := HSET.out.1.be.size; simp; omega) ?_; intro v' W3 hown3 hgr3 hbk3)
            have HR3 := Lib.hid ((HSET.out.1.step ((Below.refl _ _).alloc (Nat.le_refl _) (.cells #[.int .i64 xc, .string xd, .int .i64 xi, .int .i64 xl, .int .i64 xn] 105))).app (HO2.out.alloc _) (Nat.le_refl _) hgr3)
            have hst3 : HStay (RefR q v') W3 x' H' := by
              refine HA2.out.st.grow (((HSET.out.2.mono (fun k _ hk => .inl hk)).allocC (.cells #[.int .i64 xc, .string xd, .int .i64 xi, .int .i64 xl, .int .i64 xn] 105)).trans (Touch.grown hgr3 (fun k hk => .inr hk))) (fun k hk e => ?_)
              rcases e with e | e
              · exact .inl e
              · rcases hbk3 with h | h
                · exact .inr (h ▸ e)
                · have h1 := h k e
                  have h2 := HSET.out.2.size
                  simp at h1
                  omega
            have HST3 := Lib.hid hst3
            have ho3 : W3.ownsRow w.heap.size 105 5 v' (i + 1) (flat Ans.cell 5 (out ++ [(⟨xc, xd, xi, xl, xn⟩ : Ans)])) := by
              rw [flat_append, ans_flat1]; exact hown3
            have HNX2 : Hid (runHs (hse0 m) ls = ((out ++ [(⟨xc, xd, xi, xl, xn⟩ : Ans)]) ++ (runHs H' (ls.drop (i + 1))).1, (runHs H' (ls.drop (i + 1))).2)) := Lib.hid (by rw [HNX.out]; simp)
            clear hgr3 hown3 hst3 hbk3
            go_wp2
            go_roundw
            case rel => exact ⟨i + 1, x', H', _, by omega, by go_num, by rw [List.length_append, HOL.out]; rfl, HR3.out, HST3.out, ho3, HS2, HNX2⟩
            case measure => simp [intOf]; omega
        · obtain rfl : i = n := by omega
          obtain ⟨E, hE⟩ := hsim.out
          have hg := hE.goodH
          have hnow := hE.now
          have hvg := hE.good.vol
          have hfin : runHs (hse0 m) ls = (out, Hs) := by rw [hinv.out, List.drop_of_length_le (by have := HL.out; omega)]; simp [runHs]
          have hsc := HSC.out
          have hsh := script_house hm1 hm ls
          rw [hfin] at hsh
          rw [← hsh.1, ← hsh.2] at hsc
          dsimp only at hsc
          have HSC2 := Lib.hid hsc
          obtain ⟨V, hV⟩ : ∃ V, nowH Hs = V := ⟨_, rfl⟩
          rw [hV] at HSC2 hnow
          have hn0 : V.1.length ≤ 24 := by rw [hnow]; exact hvg.good.1
          have hn1 : V.2.length ≤ 32 := by rw [hnow]; exact hvg.hi
          have hnw := now_stay (fun _ => False) x Hs wr (hst.grow (Touch.refl _ _) (fun _ _ e => e.elim)) (fun _ e => e.elim) hg
          rw [hV] at hnw
          unfold houseV at hnw
          have HNOW := Lib.hid hnw
          have k0 := hrf.k0
          have k1 := hrf.k1
          have k2 := hrf.k2
          have k3 := hrf.k3
          have k4 := hrf.k4
          have k5 := hrf.k5
          obtain ⟨Ax, cx, rfl⟩ := own_slice2 hown
          clear hnw hsc hsh hfin hvg hE hg hnow hV hsim hinv hrf hst hown
          go_wp2_with fail
          refine HNOW.out.mono ?_
          rintro e w4 ⟨A8, c8, A9, c9, rfl, hst4, hb4⟩
          have hr4 := HR.out.step hb4
          have HR4 := Lib.hid hr4
          have HO4 := Lib.hid (own_below HO.out hb4)
          have hcp2 := refCopy_any A8 A9 V.1.length c8 V.2.length c9 V.1 V.2 w4 hst4.now.1 hst4.now.2 hst4.n0 hst4.n1 (by omega) (by omega)
          have HCP2 := Lib.hid hcp2
          clear hcp2 hst4 hb4 hr4 k0 k1 k2 k3 k4 k5
          go_wp2_with fail
          refine HCP2.out.mono ?_
          rintro e w5 ⟨A6, c6, A7, c7, rfl, hp1, hp2, hb5, _, _, _, _, _, _⟩
          have h5 := HR4.out.step hb5
          have r0 := h5.r0
          have r1 := h5.r1
          have z0 := h5.z0
          have z1 := h5.z1
          have hws : w.heap.size < w4.heap.size := Nat.lt_trans HR4.out.q1 HR4.out.q2
          have HP1 := Lib.hid (own_mono (ownsRow_setCell_below (ownsRow_setCell_below hp1 (a := ⟨w.heap.size, 0, none⟩) (by exact hws) (.slice A6 V.1.length c6)) (a := ⟨w.heap.size, 1, none⟩) (by exact hws) (.slice A7 V.2.length c7)) (base' := w.heap.size) (Nat.le_of_lt hws))
          have HP2 := Lib.hid (own_mono (ownsRow_setCell_below (ownsRow_setCell_below hp2 (a := ⟨w.heap.size, 0, none⟩) (by exact hws) (.slice A6 V.1.length c6)) (a := ⟨w.heap.size, 1, none⟩) (by exact hws) (.slice A7 V.2.length c7)) (base' := w.heap.size) (Nat.le_of_lt hws))
          have hoo := own_below HO4.out hb5
          have hT5 : Touch (fun k => k = w.heap.size) w5 ((w5.setCell ⟨w.heap.size, 0, none⟩ (.slice A6 V.1.length c6)).setCell ⟨w.heap.size, 1, none⟩ (.slice A7 V.2.length c7)) :=
            (Touch.setCell (R := fun k => k = w.heap.size) ⟨w.heap.size, 0, none⟩ rfl _).trans (Touch.setCell (R := fun k => k = w.heap.size) ⟨w.heap.size, 1, none⟩ rfl _)
          have HOO := Lib.hid (own_touch hoo hT5 (own_not hoo h5.tr (by decide)))
          have HB5 := Lib.hid ((h5.be.setCell (p := ⟨w.heap.size, 0, none⟩) (Nat.le_refl _) (.slice A6 V.1.length c6)).setCell (p := ⟨w.heap.size, 1, none⟩) (Nat.le_refl _) (.slice A7 V.2.length c7))
          clear hp1 hp2 hb5 h5 hoo hT5
          go_wp2
          refine bodyPost_ret (v := .tuple #[.slice Ax i cx, .agg #[.slice A6 V.1.length c6, .slice A7 V.2.length c7], .int .i64 0]) (by simp [results, Try.results30, go_sem, r0, r1]) rfl ?_
          rw [HSC2.out]
          have hol := HOL.out
          subst hol
          exact ⟨Ax, cx, A6, c6, A7, c7, rfl, HOO.out, HP1.out, HP2.out, HB5.out⟩
    · have d3 : decide ((n : Int) > 300) = true := decide_eq_true (by omega)
      have HSC := Lib.hid (script_long HM.out (show ¬ ls.length ≤ 300 by have := HL.out; omega))
      go_enter Try.func30, Try.ntmps30
      go_wp2_with fail
      refine (HNW.out _).mono ?_
      rintro e w1 ⟨B1, d1, rfl, hown1, hb1⟩
      rw [List.length_replicate] at hown1 ⊢
      have hf := (HF0.out.step hb1 HF0.out.sz)
      have r0 := hf.a0
      have r1 := hf.a1
      have z0 := hf.z0
      have z1 := hf.z1
      have hs1 := hf.sz
      have HB1 := Lib.hid (HBE0.out.trans (hb1.mono HBE0.out.size))
      clear hown1 hb1 hf
      go_wp2
      refine bodyPost_ret (v := .tuple #[.slice none 0 0, .agg #[.slice none 0 0, .slice none 0 0], .int .i64 1]) (by simp [results, Try.results30, go_sem, r0, r1, hs1, Nat.ne_of_lt hs1]) rfl ?_
      exact ScriptPost.nil HSC.out (((HB1.out.setCell (p := ⟨w.heap.size, 0, none⟩) (Nat.le_refl _) _).setCell (p := ⟨w.heap.size, 1, none⟩) (Nat.le_refl _) _).alloc (by simp; omega) _)
  · have e1 : newBs k = [] := by rw [newBs, if_neg hk]
    have e2 : newK k = 2 := by rw [newK, if_neg hk]
    have hnw2 := hnw
    rw [e1, e2] at hnw2
    have HNW := Lib.hid hnw2
    have HSC := Lib.hid (script_bad ls hk)
    clear hnw hnw2 e1 e2 hk
    go_enter Try.func30, Try.ntmps30
    go_wp2_with fail
    refine (HNW.out _).mono ?_
    rintro e w1 ⟨B1, d1, rfl, hown1, hb1⟩
    have hf := (HF0.out.step hb1 HF0.out.sz)
    have r0 := hf.a0
    have r1 := hf.a1
    have z0 := hf.z0
    have z1 := hf.z1
    have hs1 := hf.sz
    have HB1 := Lib.hid (HBE0.out.trans (hb1.mono HBE0.out.size))
    clear hown1 hb1 hf
    go_wp2
    refine bodyPost_ret (v := .tuple #[.slice none 0 0, .agg #[.slice none 0 0, .slice none 0 0], .int .i64 2]) (by simp [results, Try.results30, go_sem, r0, r1, hs1, Nat.ne_of_lt hs1]) rfl ?_
    exact ScriptPost.nil HSC.out (((HB1.out.setCell (p := ⟨w.heap.size, 0, none⟩) (Nat.le_refl _) _).setCell (p := ⟨w.heap.size, 1, none⟩) (Nat.le_refl _) _).alloc (by simp; omega) _)
end Go.Proofs.Ytphbebcbbfbgpab

namespace Go.Proofs.Ytphbebcbbfbgpab
open Go Go.RowKit

theorem ref_act (x : HV) (H : Hse) (a : Acn) (R : Nat → Prop) (w : World) (hs : HStay R w x H) (hR : ∀ k, R k → k < w.heap.size) (g : GoodH H) (ha : a.wf) :
    Calls Try.prog 62 #[houseV x H, actV a] w (ActedPost R w (actH H a)) := by
  by_cases h0 : 1 ≤ a.kind ∧ a.kind ≤ 9
  · have : a.kind = 1 ∨ a.kind = 2 ∨ a.kind = 3 ∨ a.kind = 4 ∨ a.kind = 5 ∨ a.kind = 6 ∨ a.kind = 7 ∨ a.kind = 8 ∨ a.kind = 9 := by omega
    rcases this with h | h | h | h | h | h | h | h | h
    · exact ref_begin x H a R w hs hR g h
    · exact ref_put x H a R w hs hR g h ha.2.1
    · exact ref_read x H a R w hs hR g h ha.2.1
    · cases ho : H.opened with
      | false => exact ref_commit_no x H a R w hs hR g h ho
      | true =>
        by_cases he : (appliedR (nowH H).1 (nowH H).2 H.ws).2.2 = 0
        · by_cases hb : 4000 < lenH H H.deals.length + (recL H.ws).length
          · exact ref_commit_long x H a R w hs hR g h ho he hb
          · exact ref_commit_yes x H a R w hs hR g h ho he hb
        · exact ref_commit_bad x H a R w hs hR g h ho he
    · exact ref_abort x H a R w hs hR g h
    · exact ref_flush x H a R w hs hR g h
    · by_cases hn : a.keep < 0
      · exact ref_crash_neg x H a R w hs hR g h hn
      · exact ref_crash_pos x H a R w hs hR g h hn ha.2.2.2
    · exact ref_mark x H a R w hs hR g h
    · exact ref_stat x H a R w hs hR g h
  · exact ref_other x H a R w hs hR g h0
theorem script_of (A : Option Addr) (n c : Nat) (k : Int) (ls : List Acn) (w : World) (h : Rep w w.heap.size 4 Acn.cell A n ls) (hn : n ≤ maxLen) (hwf : ∀ a ∈ ls, a.wf) (hk64 : i64Ok k) :
    Calls Try.prog 30 #[.int .i64 k, .slice A n c] w (ScriptPost w (scriptR k ls)) :=
  run_script A n c k ls w h hn hwf hk64 (fun x H a R w h1 h2 h3 h4 => ref_act x H a R w h1 h2 h3 h4)
end Go.Proofs.Ytphbebcbbfbgpab

namespace Go.Proofs.Ytphbebcbbfbgpab
open Go Go.RowKit

theorem ans_at {w : World} {B n k : Nat} {A : Option Addr} {ls : List Ans} (h : Rep w B 5 Ans.cell A n ls) (hk : k < n) :
    ∃ b off, A = some ⟨b, off, none⟩ ∧ b < B ∧ w.cell? ⟨b, off + k * 5, none⟩ = some (.int .i64 (ls[k]'(by have := h.1; omega)).code) ∧ w.cell? ⟨b, off + k * 5 + 1, none⟩ = some (.string (ls[k]'(by have := h.1; omega)).data) ∧
      w.cell? ⟨b, off + k * 5 + 2, none⟩ = some (.int .i64 (ls[k]'(by have := h.1; omega)).items) ∧ w.cell? ⟨b, off + k * 5 + 3, none⟩ = some (.int .i64 (ls[k]'(by have := h.1; omega)).log) ∧ w.cell? ⟨b, off + k * 5 + 4, none⟩ = some (.int .i64 (ls[k]'(by have := h.1; omega)).count) := by
  obtain ⟨b, off, e, hb, hc⟩ := h.at_ hk
  exact ⟨b, off, e, hb, hc 0 (by omega), hc 1 (by omega), hc 2 (by omega), hc 3 (by omega), hc 4 (by omega)⟩
theorem acn_one (ls : List Acn) : ∀ u ∈ flat Acn.cell 4 ls, u.oneCell' = true := by
  intro u hu
  obtain ⟨j, hj⟩ := List.getElem?_of_mem hu
  obtain ⟨k, i, hk, hi, _, rfl⟩ := flat_split ls j u hj
  match i, hi with
  | 0, _ => rfl
  | 1, _ => rfl
  | 2, _ => rfl
  | 3, _ => rfl
theorem infoAct : (Try.prog.info? 103).map (fun i => (i.zero, i.size, i.bytes)) = some (some (.agg #[.int .i64 0, .int .i64 0, .string ByteArray.empty, .int .i64 0]), 4, 40) := by kernel_rfl

set_option maxHeartbeats 1000000 in
theorem sameAnswers_yes (A B : Option Addr) (n c d : Nat) (ls : List Ans) (w : World) (h : Rep w w.heap.size 5 Ans.cell A n ls) (h' : Rep w w.heap.size 5 Ans.cell B n ls) (hn : n ≤ maxLen) :
    Calls Try.prog 31 #[.slice A n c, .slice B n d] w fun e w' => e = .returned (.bool true) ∧ Below w.heap.size w w' := by
  have H := Lib.hid h
  have H' := Lib.hid h'
  have hnn : ((n : Int) != n) = false := by simp
  clear h h'
  unfold maxLen at hn
  go_enter Try.func31, Try.ntmps31
  go_wp2
  go_loopw [5] (fun i wr => ∃ k : Nat, k ≤ n ∧ i = .int .i64 k ∧ Below w.heap.size w wr) (fun i _ => n - (intOf i).toNat)
  case atStart => exact ⟨0, Nat.zero_le _, rfl, Below.refl _ _⟩
  case round =>
    obtain ⟨k, hk, rfl, hbel⟩ := hrel
    by_cases hlt : k < n
    · obtain ⟨b, off, rfl, hb, c0, c1, c2, c3, c4⟩ := ans_at (H.out.below hbel (Nat.le_refl _)) hlt
      obtain ⟨b', off', rfl, hb', e0, e1, e2, e3, e4⟩ := ans_at (H'.out.below hbel (Nat.le_refl _)) hlt
      obtain ⟨x, hx⟩ : ∃ x, ls[k]'(by have := H.out.1; omega) = x := ⟨_, rfl⟩
      rw [hx] at c0 c1 c2 c3 c4 e0 e1 e2 e3 e4
      obtain ⟨xc, xd, xi, xl, xn⟩ := x
      dsimp only at c0 c1 c2 c3 c4 e0 e1 e2 e3 e4
      have HB := Lib.hid hbel
      clear hx hbel hb hb'
      go_wp2
      go_quiet (fail)
      go_wp2
      go_roundw
      case rel => exact ⟨k + 1, by omega, by go_num, below_drewN HB.out _⟩
      case measure => simp [intOf]; omega
    · have HB := Lib.hid hbel
      clear hbel
      go_wp2
      go_ret
      exact ⟨rfl, HB.out⟩

set_option maxRecDepth 20000 in
set_option maxHeartbeats 4000000 in
theorem lawEngineRuns (A : Option Addr) (n c : Nat) (k : Int) (ls : List Acn) (w : World) (h : Rep w w.heap.size 4 Acn.cell A n ls) (hn : n ≤ maxLen) (hr : n * 40 ≤ 140737488355328) (hnil : A = none → n = 0 ∧ c = 0) (hwf : ∀ a ∈ ls, a.wf) (hk64 : i64Ok k) :
    Calls Try.prog 10 #[.int .i64 k, .slice A n c] w fun e w' => e = .returned (.bool true) ∧ Below w.heap.size w w' := by
  obtain ⟨r, hr0⟩ : ∃ r, scriptR k ls = r := ⟨_, rfl⟩
  have hrun : ∀ (A1 : Option Addr) (c1 : Nat) (W : World), Rep W W.heap.size 4 Acn.cell A1 n ls → Calls Try.prog 29 #[.int .i64 k, .slice A1 n c1] W (ScriptPost W r) :=
    fun A1 c1 W h1 => by rw [← hr0]; exact run_engine A1 n c1 k ls W h1 hn hwf
  have href : ∀ W, Below w.heap.size w W → Calls Try.prog 30 #[.int .i64 k, .slice A n c] W (ScriptPost W r) :=
    fun W hb => by rw [← hr0]; exact script_of A n c k ls W ((h.below hb (Nat.le_refl _)).mono hb.size) hn hwf hk64
  obtain ⟨i0, hi, hz0, hz1, hz2⟩ := info_parts infoAct
  have HI := Lib.hid hi
  have HZ0 := Lib.hid hz0
  have HZ1 := Lib.hid hz1
  have HZ2 := Lib.hid hz2
  have HREP := Lib.hid h
  have HN := Lib.hid h.1
  have HNIL := Lib.hid hnil
  have HRUN := Lib.hid hrun
  have HREF := Lib.hid href
  clear hrun href h hnil hwf hi hz0 hz1 hz2 hr0 hk64
  obtain ⟨xs, ⟨us, cs⟩, e⟩ := r
  go_enter Try.func10, Try.ntmps10
  go_wp2_with (at_builtin; refine wpList_append_rows rfl _ _ 54 rfl 103 i0 _ 4 40 Try.underlying54 HI.out HZ0.out HZ1.out HZ2.out rfl (by decide) A n c ls rfl rfl _ HREP.out HNIL.out (acn_one ls) hn hr ?_; intro A1 c1 w1 hown hb1 hn1)
  have HB1 := Lib.hid hb1
  have HR1 := Lib.hid (Rep.of_own HN.out hown (Nat.le_refl _))
  clear hown hb1 hn1
  refine (HRUN.out A1 c1 _ HR1.out).mono ?_
  rintro _ w2 ⟨Ax, cx, A2, c2, B2, d2, rfl, ho0, ho1, ho2, hb2⟩
  dsimp only at ho0 ho1 ho2 ⊢
  obtain ⟨_, _, _, l0, m0, _⟩ := own_form ho0
  obtain ⟨_, _, _, l1, m1, _⟩ := own_form ho1
  obtain ⟨_, _, _, l2, m2, _⟩ := own_form ho2
  have hxl : xs.length ≤ maxLen := Nat.le_trans l0 m0
  have hul : us.length ≤ maxLen := Nat.le_trans l1 m1
  have hvl : cs.length ≤ maxLen := Nat.le_trans l2 m2
  have HXL := Lib.hid hxl
  have HUL := Lib.hid hul
  have HVL := Lib.hid hvl
  obtain ⟨x, hx⟩ : ∃ x, xs.length = x := ⟨_, rfl⟩
  obtain ⟨u, hu⟩ : ∃ u, us.length = u := ⟨_, rfl⟩
  obtain ⟨v, hv⟩ : ∃ v, cs.length = v := ⟨_, rfl⟩
  rw [hx] at ho0 HXL ⊢
  rw [hu] at ho1 HUL ⊢
  rw [hv] at ho2 HVL ⊢
  have HX := Lib.hid hx
  have HU := Lib.hid hu
  have HV := Lib.hid hv
  clear hx hu hv l0 m0 l1 m1 l2 m2 hxl hul hvl
  have al := (Below.refl w2.heap.size w2).alloc (Nat.le_refl _) (.cells #[.slice A2 u c2, .slice B2 v d2] 30)
  have hB2 := HB1.out.trans (hb2.mono HB1.out.size)
  have HB2 := Lib.hid (hB2.alloc hB2.size (.cells #[.slice A2 u c2, .slice B2 v d2] 30))
  have HK2 := Lib.hid (VB3.new w2 (.slice A2 u c2) (.slice B2 v d2) 30)
  have HO0 := Lib.hid (own_below ho0 al)
  have HO1 := Lib.hid (own_below ho1 al)
  have HO2 := Lib.hid (own_below ho2 al)
  clear ho0 ho1 ho2 hb2 al hB2
  go_wp2_with fail
  refine (HREF.out _ HB2.out).mono ?_
  rintro _ w3 ⟨Ay, cy, A3, c3, B3, d3, rfl, hp0, hp1, hp2, hb3⟩
  dsimp only at hp0 hp1 hp2 ⊢
  rw [HX.out] at hp0 ⊢
  rw [HU.out] at hp1 ⊢
  rw [HV.out] at hp2 ⊢
  have al := (Below.refl w3.heap.size w3).alloc (Nat.le_refl _) (.cells #[.slice A3 u c3, .slice B3 v d3] 30)
  have HK3 := Lib.hid ((HK2.out.step hb3).step al)
  have HZ3 := Lib.hid (VB3.new w3 (.slice A3 u c3) (.slice B3 v d3) 30)
  have hB3 := HB2.out.trans (hb3.mono HB2.out.size)
  have HB3 := Lib.hid (hB3.alloc hB3.size (.cells #[.slice A3 u c3, .slice B3 v d3] 30))
  have HQ0 := Lib.hid (own_below (own_below HO0.out hb3) al)
  have HQ1 := Lib.hid (own_below (own_below HO1.out hb3) al)
  have HQ2 := Lib.hid (own_below (own_below HO2.out hb3) al)
  have HP0 := Lib.hid (own_below hp0 al)
  have HP1 := Lib.hid (own_below hp1 al)
  have HP2 := Lib.hid (own_below hp2 al)
  have HSA := Lib.hid (sameAnswers_yes Ax Ay x cx cy xs _ (Rep.of_own HX.out.symm HQ0.out (Nat.le_refl _)) (Rep.of_own HX.out.symm HP0.out (Nat.le_refl _)) HXL.out)
  have dee : (e == e) = true := by simp
  clear hp0 hp1 hp2 hb3 al hB3
  go_wp2_with fail
  refine HSA.out.mono ?_
  rintro _ w4 ⟨rfl, hb4⟩
  have HB4 := Lib.hid (HB3.out.trans (hb4.mono HB3.out.size))
  have y0 := (HK3.out.step hb4).a0
  have y1 := (HK3.out.step hb4).a1
  have z0 := (HZ3.out.step hb4).a0
  have z1 := (HZ3.out.step hb4).a1
  have HSV := Lib.hid (sameVolume_yes A2 A3 B2 B3 u c2 c3 v d2 d3 us cs _ (Rep.of_own HU.out.symm (own_below HQ1.out hb4) (Nat.le_refl _)) (Rep.of_own HU.out.symm (own_below HP1.out hb4) (Nat.le_refl _)) (Rep.of_own HV.out.symm (own_below HQ2.out hb4) (Nat.le_refl _)) (Rep.of_own HV.out.symm (own_below HP2.out hb4) (Nat.le_refl _)) HUL.out HVL.out)
  clear hb4
  go_wp2_with fail
  refine HSV.out.mono ?_
  rintro _ w5 ⟨rfl, hb5⟩
  have HB5 := Lib.hid (HB4.out.trans (hb5.mono HB4.out.size))
  clear hb5
  go_wp2
  go_ret
  exact ⟨rfl, HB5.out⟩
end Go.Proofs.Ytphbebcbbfbgpab
