/- Slices of writes that lie somewhere in memory: what region 3 of WritesBad makes. What region 3 of WritesBad keeps, step by step. -/
import Derived.Test.YtphbebcbbfbgpacDoorVolKit
import Derived.Test.YtphbebcbbfbgpacDoorPlainBad
import Derived.Test.YtphbebcbbfbgpacDoorRegionInv
import Derived.Laws.OwnMore
namespace Go.Proofs.YtphbebcbbfbgpacDoor
open Go Go.RowKit

/-- the value s is a slice that holds the writes ws -/
def WS (w : World) (s : Value) (ws : List Wrt) : Prop := ∃ A c, s = .slice A ws.length c ∧ Rep w w.heap.size 2 Wrt.cell A ws.length ws
theorem WS.below {w w' : World} {s : Value} {ws : List Wrt} (h : WS w s ws) (hb : Below w.heap.size w w') : WS w' s ws := by
  obtain ⟨A, c, rfl, hr⟩ := h
  exact ⟨A, c, rfl, (hr.below hb (Nat.le_refl _)).mono hb.size⟩
theorem WS.new1 (w : World) (b : Int) (d : ByteArray) (T : TypeId) : WS (w.alloc (.cells #[.int .i64 b, .string d] T)) (.slice (some ⟨w.heap.size, 0, none⟩) 1 1) [⟨b, d⟩] := by
  refine ⟨_, 1, rfl, rfl, fun _ => ⟨w.heap.size, 0, rfl, by simp, fun k hk i hi => ?_⟩⟩
  obtain rfl : k = 0 := by simpa using hk
  match i, hi with
  | 0, _ => simp [go_sem, Wrt.cell]
  | 1, _ => simp [go_sem, Wrt.cell]
theorem WS.new2 (w : World) (b b' : Int) (d d' : ByteArray) (T : TypeId) : WS (w.alloc (.cells #[.int .i64 b, .string d, .int .i64 b', .string d'] T)) (.slice (some ⟨w.heap.size, 0, none⟩) 2 2) [⟨b, d⟩, ⟨b', d'⟩] := by
  refine ⟨_, 2, rfl, rfl, fun _ => ⟨w.heap.size, 0, rfl, by simp, fun k hk i hi => ?_⟩⟩
  match k, hk, i, hi with
  | 0, _, 0, _ => simp [go_sem, Wrt.cell]
  | 0, _, 1, _ => simp [go_sem, Wrt.cell]
  | 1, _, 0, _ => simp [go_sem, Wrt.cell]
  | 1, _, 1, _ => simp [go_sem, Wrt.cell]
theorem made_writes : (madeCells (Value.agg #[.int .i64 0, .string ByteArray.empty]).cells (13 * 2)).toList = flat Wrt.cell 2 (List.replicate 13 ⟨0, ⟨#[]⟩⟩) := by kernel_rfl
/-- thirteen writes as makeSlice lays them -/
theorem WS.made (w : World) : ∃ w', (Instr.makeSlice 53 (.int .i64 13) (.int .i64 13)).run Tryd.prog w = .ok (.slice (some ⟨w.heap.size, 0, none⟩) 13 13) w' ∧ WS w' (.slice (some ⟨w.heap.size, 0, none⟩) 13 13) (List.replicate 13 ⟨0, ⟨#[]⟩⟩) ∧ Below w.heap.size w w' := by
  obtain ⟨i0, hi, hz0, hz1, hz2⟩ := info_parts infoWrite
  obtain ⟨w', hmk, hown, hgr⟩ := run_makeSlice_full (P := Tryd.prog) (w := w) w.heap.size 53 55 i0 _ 2 Tryd.underlying53 hi hz0 hz1 .i64 .i64 13 (by omega) (by rw [hz2]; omega) (by unfold maxLen; omega) (Nat.le_refl _)
  rw [made_writes] at hown
  refine ⟨w', hmk, ⟨_, 13, rfl, Rep.of_own rfl hown (Nat.le_refl _)⟩, (Below.refl _ _).grown hgr (Nat.le_refl _) (by intro k hk; cases hk)⟩

/-- the value s is a slice of the five slices of writes -/
def Odd (k : Nat) (d : ByteArray) (w : World) (s : Value) : Prop := ∃ b, s = .slice (some ⟨b, 0, none⟩) 5 5 ∧ ∀ j, j < 5 → ∃ v, w.cell? ⟨b, j, none⟩ = some v ∧ WS w v (badW k d j)
theorem Odd.below {k : Nat} {d : ByteArray} {w w' : World} {s : Value} (h : Odd k d w s) (hb : Below w.heap.size w w') : Odd k d w' s := by
  obtain ⟨b, rfl, hc⟩ := h
  refine ⟨b, rfl, fun j hj => ?_⟩
  obtain ⟨v, hv, hw⟩ := hc j hj
  exact ⟨v, (hb.cell (p := ⟨b, j, none⟩) (World.block_lt_of_cell? w _ hv)).trans hv, hw.below hb⟩
theorem Odd.new {k : Nat} {d : ByteArray} {w : World} {s0 s1 s2 s3 s4 : Value} (T : TypeId) (h0 : WS w s0 (badW k d 0)) (h1 : WS w s1 (badW k d 1)) (h2 : WS w s2 (badW k d 2)) (h3 : WS w s3 (badW k d 3)) (h4 : WS w s4 (badW k d 4)) :
    Odd k d (w.alloc (.cells #[s0, s1, s2, s3, s4] T)) (.slice (some ⟨w.heap.size, 0, none⟩) 5 5) := by
  have hb : Below w.heap.size w (w.alloc (.cells #[s0, s1, s2, s3, s4] T)) := (Below.refl _ _).alloc (Nat.le_refl _) _
  refine ⟨w.heap.size, rfl, fun j hj => ?_⟩
  match j, hj with
  | 0, _ => exact ⟨s0, by simp [go_sem], h0.below hb⟩
  | 1, _ => exact ⟨s1, by simp [go_sem], h1.below hb⟩
  | 2, _ => exact ⟨s2, by simp [go_sem], h2.below hb⟩
  | 3, _ => exact ⟨s3, by simp [go_sem], h3.below hb⟩
  | 4, _ => exact ⟨s4, by simp [go_sem], h4.below hb⟩

/-- a volume stored into its block -/
theorem VolB.store {w : World} {P : Nat} {x y : Value} (h0 : w.cell? ⟨P, 0, none⟩ = some x) (h1 : w.cell? ⟨P, 1, none⟩ = some y) (s1 s2 : Value) : VolB P s1 s2 ((w.setCell ⟨P, 0, none⟩ s1).setCell ⟨P, 1, none⟩ s2) := by
  have hz := World.block_lt_of_cell? w _ h0
  refine ⟨?_, ?_, by simpa [World.setCell] using hz⟩
  · simp [go_sem, h0]
  · simp [go_sem, h1]
/-- the five codes in their block -/
theorem bad_codes {i : Nat} (hi : i < 5) (w : World) (T : TypeId) : (w.alloc (.cells #[.int .i64 1, .int .i64 6, .int .i64 6, .int .i64 4, .int .i64 1] T)).cell? ⟨w.heap.size, i, none⟩ = some (.int .i64 (badE i)) := by
  match i, hi with
  | 0, _ => simp [go_sem, badE]
  | 1, _ => simp [go_sem, badE]
  | 2, _ => simp [go_sem, badE]
  | 3, _ => simp [go_sem, badE]
  | 4, _ => simp [go_sem, badE]
theorem bad_len (k : Nat) (d : ByteArray) (i : Nat) : (badW k d i).length ≤ 13 := by
  match i with
  | 0 => simp [badW]
  | 1 => simp [badW]
  | 2 => simp [badW]
  | 3 => simp [badW]
  | i + 4 => simp [badW]
/-- no volume takes them -/
theorem applyBad {Au Bv : Option Addr} {u cu dv : Nat} {us : List Itm} {cs : List Int} {k i : Nat} {d : ByteArray} {v : Value} {w : World} (h : Rep w w.heap.size 3 Itm.cell Au u us) (h' : Rep w w.heap.size 1 intCell Bv 16 cs) (hv : WS w v (badW k d i))
    (nu : Au = none → u = 0 ∧ cu = 0) (nv : Bv = none → 16 = 0 ∧ dv = 0) (mu : u ≤ maxLen) (g : GoodVol us cs) (hl : cs.length = 16) (hk : k < 16) (hd : d.size = 49) :
    Calls Tryd.prog 26 #[.agg #[.slice Au u cu, .slice Bv 16 dv], v] w fun e w' => ∃ An cn Bn dn, e = .returned (.tuple #[.agg #[.slice An 0 cn, .slice Bn 0 dn], .int .i64 (badE i)]) ∧ Below w.heap.size w w' := by
  obtain ⟨Aw, cw, rfl, hr⟩ := hv
  have hlen := bad_len k d i
  have hx := apply_any Au Bv Aw u cu 16 dv _ cw us cs (badW k d i) w h h' hr nu nv mu (by unfold maxLen; omega) (by unfold maxLen; omega) (vol_ok g)
  rw [bad_applied g hl hk hd] at hx
  refine hx.mono ?_
  rintro e w' ⟨An, cn, Bn, dn, rfl, _, _, hb⟩
  exact ⟨An, cn, Bn, dn, rfl, hb⟩
/-- a block that the volume lacks -/
theorem readNone {Au Bv : Option Addr} {u cu dv : Nat} {us : List Itm} {cs : List Int} {k : Nat} {w : World} (h : Rep w w.heap.size 3 Itm.cell Au u us) (h' : Rep w w.heap.size 1 intCell Bv 16 cs)
    (mu : u ≤ maxLen) (g : GoodVol us cs) (hl : cs.length = 16) :
    Calls Tryd.prog 27 #[.agg #[.slice Au u cu, .slice Bv 16 dv], .int .i64 (16 + k)] w fun e w' => e = .returned (.tuple #[.string ⟨#[]⟩, .int .i64 6]) ∧ Below w.heap.size w w' := by
  refine (volRead_any Au Bv u cu 16 dv (16 + k) us cs w h h' mu (by unfold maxLen; omega) (vol_ok g)).mono ?_
  rintro e w' ⟨he, hb⟩
  rw [ReadPost, read_none (goodVB_yes g) (by omega)] at he
  exact ⟨he, hb⟩
/-- the empty volume -/
theorem readState (w : World) : Calls Tryd.prog 27 #[.agg #[.slice none 0 0, .slice none 0 0], .int .i64 0] w fun e w' => e = .returned (.tuple #[.string ⟨#[]⟩, .int .i64 7]) ∧ Below w.heap.size w w' := by
  refine (volRead_any none none 0 0 0 0 0 [] [] w (Rep.nil _ _ _ _ _) (Rep.nil _ _ _ _ _) (by unfold maxLen; omega) (by unfold maxLen; omega) (by simp)).mono ?_
  rintro e w' ⟨he, hb⟩
  rw [ReadPost, read_bad 0 (goodVB_no (fun g => by have := g.lo; simp at this))] at he
  exact ⟨he, hb⟩
end Go.Proofs.YtphbebcbbfbgpacDoor

namespace Go.Proofs.YtphbebcbbfbgpacDoor
open Go Go.RowKit

/-- of the operations that are listed: what their slots hold -/
structure Reg3 (k : Nat) (d : ByteArray) (w2 : World) (listed : Array Bool) (w : World) (s22 s26 s30 s35 s37 s38 s39 s40 s9 : Value) : Prop where
  bel : Below w2.heap.size w2 w
  t : ∀ j, j ∈ [1, 2, 3, 5, 6, 7, 9, 10, 11, 12, 14] → listed.getD j true = true
  p0 : listed.getD 0 true = true → WS w s22 (badW k d 0)
  p4 : listed.getD 4 true = true → WS w s26 (badW k d 1)
  p8 : listed.getD 8 true = true → WS w s30 (badW k d 2)
  p13 : listed.getD 13 true = true → WS w s35 (badW k d 3)
  p15 : listed.getD 15 true = true → s37 = .string d
  p16 : listed.getD 16 true = true → s38 = .agg #[.int .i64 k, .string d]
  p17 : listed.getD 17 true = true → WS w s39 (badW k d 4)
  p18 : listed.getD 18 true = true → Odd k d w s40
  p19 : listed.getD 19 true = true → Odd k d w s9
section
variable {k : Nat} {d : ByteArray} {w2 w w' : World} {listed : Array Bool} {s22 s26 s30 s35 s37 s38 s39 s40 s9 : Value}
theorem Reg3.below (h : Reg3 k d w2 listed w s22 s26 s30 s35 s37 s38 s39 s40 s9) (hb : Below w.heap.size w w') : Reg3 k d w2 listed w' s22 s26 s30 s35 s37 s38 s39 s40 s9 where
  bel := h.bel.trans (hb.mono h.bel.size)
  t := h.t
  p0 := fun g => (h.p0 g).below hb
  p4 := fun g => (h.p4 g).below hb
  p8 := fun g => (h.p8 g).below hb
  p13 := fun g => (h.p13 g).below hb
  p15 := fun g => h.p15 g
  p16 := fun g => h.p16 g
  p17 := fun g => (h.p17 g).below hb
  p18 := fun g => (h.p18 g).below hb
  p19 := fun g => (h.p19 g).below hb
theorem Reg3.set0 {v : Value} (h : Reg3 k d w2 listed w s22 s26 s30 s35 s37 s38 s39 s40 s9) (hv : WS w v (badW k d 0)) : Reg3 k d w2 (listed.setIfInBounds 0 true) w v s26 s30 s35 s37 s38 s39 s40 s9 where
  bel := h.bel
  t := fun j hj => getD_set_up (h.t j hj)
  p0 := fun _ => hv
  p4 := fun g => h.p4 (getD_set_of (by decide) g)
  p8 := fun g => h.p8 (getD_set_of (by decide) g)
  p13 := fun g => h.p13 (getD_set_of (by decide) g)
  p15 := fun g => h.p15 (getD_set_of (by decide) g)
  p16 := fun g => h.p16 (getD_set_of (by decide) g)
  p17 := fun g => h.p17 (getD_set_of (by decide) g)
  p18 := fun g => h.p18 (getD_set_of (by decide) g)
  p19 := fun g => h.p19 (getD_set_of (by decide) g)
theorem Reg3.set4 {v : Value} (h : Reg3 k d w2 listed w s22 s26 s30 s35 s37 s38 s39 s40 s9) (hv : WS w v (badW k d 1)) : Reg3 k d w2 (listed.setIfInBounds 4 true) w s22 v s30 s35 s37 s38 s39 s40 s9 where
  bel := h.bel
  t := fun j hj => getD_set_up (h.t j hj)
  p0 := fun g => h.p0 (getD_set_of (by decide) g)
  p4 := fun _ => hv
  p8 := fun g => h.p8 (getD_set_of (by decide) g)
  p13 := fun g => h.p13 (getD_set_of (by decide) g)
  p15 := fun g => h.p15 (getD_set_of (by decide) g)
  p16 := fun g => h.p16 (getD_set_of (by decide) g)
  p17 := fun g => h.p17 (getD_set_of (by decide) g)
  p18 := fun g => h.p18 (getD_set_of (by decide) g)
  p19 := fun g => h.p19 (getD_set_of (by decide) g)
theorem Reg3.set8 {v : Value} (h : Reg3 k d w2 listed w s22 s26 s30 s35 s37 s38 s39 s40 s9) (hv : WS w v (badW k d 2)) : Reg3 k d w2 (listed.setIfInBounds 8 true) w s22 s26 v s35 s37 s38 s39 s40 s9 where
  bel := h.bel
  t := fun j hj => getD_set_up (h.t j hj)
  p0 := fun g => h.p0 (getD_set_of (by decide) g)
  p4 := fun g => h.p4 (getD_set_of (by decide) g)
  p8 := fun _ => hv
  p13 := fun g => h.p13 (getD_set_of (by decide) g)
  p15 := fun g => h.p15 (getD_set_of (by decide) g)
  p16 := fun g => h.p16 (getD_set_of (by decide) g)
  p17 := fun g => h.p17 (getD_set_of (by decide) g)
  p18 := fun g => h.p18 (getD_set_of (by decide) g)
  p19 := fun g => h.p19 (getD_set_of (by decide) g)
theorem Reg3.set13 {v : Value} (h : Reg3 k d w2 listed w s22 s26 s30 s35 s37 s38 s39 s40 s9) (hv : WS w v (badW k d 3)) : Reg3 k d w2 (listed.setIfInBounds 13 true) w s22 s26 s30 v s37 s38 s39 s40 s9 where
  bel := h.bel
  t := fun j hj => getD_set_up (h.t j hj)
  p0 := fun g => h.p0 (getD_set_of (by decide) g)
  p4 := fun g => h.p4 (getD_set_of (by decide) g)
  p8 := fun g => h.p8 (getD_set_of (by decide) g)
  p13 := fun _ => hv
  p15 := fun g => h.p15 (getD_set_of (by decide) g)
  p16 := fun g => h.p16 (getD_set_of (by decide) g)
  p17 := fun g => h.p17 (getD_set_of (by decide) g)
  p18 := fun g => h.p18 (getD_set_of (by decide) g)
  p19 := fun g => h.p19 (getD_set_of (by decide) g)
theorem Reg3.set15 {v : Value} (h : Reg3 k d w2 listed w s22 s26 s30 s35 s37 s38 s39 s40 s9) (hv : v = .string d) : Reg3 k d w2 (listed.setIfInBounds 15 true) w s22 s26 s30 s35 v s38 s39 s40 s9 where
  bel := h.bel
  t := fun j hj => getD_set_up (h.t j hj)
  p0 := fun g => h.p0 (getD_set_of (by decide) g)
  p4 := fun g => h.p4 (getD_set_of (by decide) g)
  p8 := fun g => h.p8 (getD_set_of (by decide) g)
  p13 := fun g => h.p13 (getD_set_of (by decide) g)
  p15 := fun _ => hv
  p16 := fun g => h.p16 (getD_set_of (by decide) g)
  p17 := fun g => h.p17 (getD_set_of (by decide) g)
  p18 := fun g => h.p18 (getD_set_of (by decide) g)
  p19 := fun g => h.p19 (getD_set_of (by decide) g)
theorem Reg3.set16 {v : Value} (h : Reg3 k d w2 listed w s22 s26 s30 s35 s37 s38 s39 s40 s9) (hv : v = .agg #[.int .i64 k, .string d]) : Reg3 k d w2 (listed.setIfInBounds 16 true) w s22 s26 s30 s35 s37 v s39 s40 s9 where
  bel := h.bel
  t := fun j hj => getD_set_up (h.t j hj)
  p0 := fun g => h.p0 (getD_set_of (by decide) g)
  p4 := fun g => h.p4 (getD_set_of (by decide) g)
  p8 := fun g => h.p8 (getD_set_of (by decide) g)
  p13 := fun g => h.p13 (getD_set_of (by decide) g)
  p15 := fun g => h.p15 (getD_set_of (by decide) g)
  p16 := fun _ => hv
  p17 := fun g => h.p17 (getD_set_of (by decide) g)
  p18 := fun g => h.p18 (getD_set_of (by decide) g)
  p19 := fun g => h.p19 (getD_set_of (by decide) g)
theorem Reg3.set17 {v : Value} (h : Reg3 k d w2 listed w s22 s26 s30 s35 s37 s38 s39 s40 s9) (hv : WS w v (badW k d 4)) : Reg3 k d w2 (listed.setIfInBounds 17 true) w s22 s26 s30 s35 s37 s38 v s40 s9 where
  bel := h.bel
  t := fun j hj => getD_set_up (h.t j hj)
  p0 := fun g => h.p0 (getD_set_of (by decide) g)
  p4 := fun g => h.p4 (getD_set_of (by decide) g)
  p8 := fun g => h.p8 (getD_set_of (by decide) g)
  p13 := fun g => h.p13 (getD_set_of (by decide) g)
  p15 := fun g => h.p15 (getD_set_of (by decide) g)
  p16 := fun g => h.p16 (getD_set_of (by decide) g)
  p17 := fun _ => hv
  p18 := fun g => h.p18 (getD_set_of (by decide) g)
  p19 := fun g => h.p19 (getD_set_of (by decide) g)
theorem Reg3.set18 {v : Value} (h : Reg3 k d w2 listed w s22 s26 s30 s35 s37 s38 s39 s40 s9) (hv : Odd k d w v) : Reg3 k d w2 (listed.setIfInBounds 18 true) w s22 s26 s30 s35 s37 s38 s39 v s9 where
  bel := h.bel
  t := fun j hj => getD_set_up (h.t j hj)
  p0 := fun g => h.p0 (getD_set_of (by decide) g)
  p4 := fun g => h.p4 (getD_set_of (by decide) g)
  p8 := fun g => h.p8 (getD_set_of (by decide) g)
  p13 := fun g => h.p13 (getD_set_of (by decide) g)
  p15 := fun g => h.p15 (getD_set_of (by decide) g)
  p16 := fun g => h.p16 (getD_set_of (by decide) g)
  p17 := fun g => h.p17 (getD_set_of (by decide) g)
  p18 := fun _ => hv
  p19 := fun g => h.p19 (getD_set_of (by decide) g)
theorem Reg3.set19 {v : Value} (h : Reg3 k d w2 listed w s22 s26 s30 s35 s37 s38 s39 s40 s9) (hv : Odd k d w v) : Reg3 k d w2 (listed.setIfInBounds 19 true) w s22 s26 s30 s35 s37 s38 s39 s40 v where
  bel := h.bel
  t := fun j hj => getD_set_up (h.t j hj)
  p0 := fun g => h.p0 (getD_set_of (by decide) g)
  p4 := fun g => h.p4 (getD_set_of (by decide) g)
  p8 := fun g => h.p8 (getD_set_of (by decide) g)
  p13 := fun g => h.p13 (getD_set_of (by decide) g)
  p15 := fun g => h.p15 (getD_set_of (by decide) g)
  p16 := fun g => h.p16 (getD_set_of (by decide) g)
  p17 := fun g => h.p17 (getD_set_of (by decide) g)
  p18 := fun g => h.p18 (getD_set_of (by decide) g)
  p19 := fun _ => hv
theorem Reg3.start (hl : listed = #[false, true, true, true, false, true, true, true, false, true, true, true, true, false, true, false, false, false, false, false]) (hb : Below w2.heap.size w2 w) : Reg3 k d w2 listed w s22 s26 s30 s35 s37 s38 s39 s40 s9 := by
  subst hl
  exact { bel := hb, t := by decide, p0 := fun h => absurd (show false = true from h) (by decide), p4 := fun h => absurd (show false = true from h) (by decide), p8 := fun h => absurd (show false = true from h) (by decide), p13 := fun h => absurd (show false = true from h) (by decide), p15 := fun h => absurd (show false = true from h) (by decide), p16 := fun h => absurd (show false = true from h) (by decide), p17 := fun h => absurd (show false = true from h) (by decide), p18 := fun h => absurd (show false = true from h) (by decide), p19 := fun h => absurd (show false = true from h) (by decide) }
theorem Reg3.which {i : Nat} (h : Reg3 k d w2 listed w s22 s26 s30 s35 s37 s38 s39 s40 s9) (hi : i < 20) (hl : listed.getD i true = false) : i = 0 ∨ i = 4 ∨ i = 8 ∨ i = 13 ∨ i = 15 ∨ i = 16 ∨ i = 17 ∨ i = 18 ∨ i = 19 := by
  by_cases hm : i ∈ [1, 2, 3, 5, 6, 7, 9, 10, 11, 12, 14]
  · rw [h.t i hm] at hl; cases hl
  · simp only [List.mem_cons, List.not_mem_nil, or_false, not_or] at hm
    omega
end
end Go.Proofs.YtphbebcbbfbgpacDoor
