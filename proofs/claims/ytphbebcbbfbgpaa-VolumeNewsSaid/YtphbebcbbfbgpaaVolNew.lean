/- volume.New and saltcellarref.VolumeOf. -/
import Derived.Test.YtphbebcbbfbgpaaRepeat
import Derived.Test.YtphbebcbbfbgpaaMay
namespace Go.Proofs.Ytphbebcbbfbgpaa
open Go Go.RowKit

theorem flat_ints (bs : List Int) : flat intCell 1 bs = bs.map (fun b => Value.int .i64 b) := by
  induction bs with
  | nil => rfl
  | cons b bs ih => rw [flat_cons, ih]; rfl
theorem flat_blank (m : Nat) : flat intCell 1 (List.replicate m (-1)) = List.replicate m (.int .i64 (-1)) := by rw [flat_ints, List.map_replicate]

/-- P3.2: the blocks of a new volume, and the error's number -/
def newBs (k : Int) : List Int := if 1 ≤ k ∧ k ≤ 32 then List.replicate k.toNat (-1) else []
def newK (k : Int) : Int := if 1 ≤ k ∧ k ≤ 32 then 0 else 2
def NewPost (w : World) (bs : List Int) (k : Int) (e : Ending) (w' : World) : Prop :=
  ∃ B d, e = .returned (.tuple #[.agg #[.slice none 0 0, .slice B bs.length d], .int .i64 k]) ∧ w'.ownsRow w.heap.size 3 1 (.slice B bs.length d) bs.length (flat intCell 1 bs) ∧ Below w.heap.size w w'

/-- what stands in a block that holds a volume without items -/
structure NBoxF (w : World) (B : Nat) (v : Value) (W : World) : Prop where
  a0 : W.cell? ⟨B, 0, none⟩ = some (.slice none 0 0)
  a1 : W.cell? ⟨B, 1, none⟩ = some v
  z0 : W.frozen? ⟨B, 0, none⟩ = false
  z1 : W.frozen? ⟨B, 1, none⟩ = false
  sz : B < W.heap.size
theorem NBoxF.step {w W W' : World} {B C : Nat} {v : Value} (h : NBoxF w B v W) (hb : Below C W W') (hC : B < C) : NBoxF w B v W' where
  a0 := (hb.cell hC).trans h.a0
  a1 := (hb.cell hC).trans h.a1
  z0 := (hb.frozen hC).trans h.z0
  z1 := (hb.frozen hC).trans h.z1
  sz := Nat.lt_of_lt_of_le h.sz hb.size

theorem NBoxF.set {w W : World} {B : Nat} {v : Value} (h : NBoxF w B v W) (u : Value) : NBoxF w B u (W.setCell ⟨B, 1, none⟩ u) where
  a0 := (World.cell?_setCell_other _ _ _ _ (by intro e; simp at e)).trans h.a0
  a1 := World.cell?_setCell_same _ _ _ h.a1
  z0 := by simp [h.z0]
  z1 := by simp [h.z1]
  sz := by simpa [World.setCell] using h.sz
theorem NBoxF.far {w W : World} {B C : Nat} {v : Value} (h : NBoxF w B v W) (hC : C ≠ B) (u : Value) : NBoxF w B v (W.setCell ⟨C, 1, none⟩ u) where
  a0 := (World.cell?_setCell_other _ _ _ _ (by intro e; cases e)).trans h.a0
  a1 := (World.cell?_setCell_other _ _ _ _ (by intro e; cases e; exact hC rfl)).trans h.a1
  z0 := by simp [h.z0]
  z1 := by simp [h.z1]
  sz := by simpa [World.setCell] using h.sz

set_option maxHeartbeats 2000000 in
theorem new_any (k : Int) (w : World) : Calls Try.prog 24 #[.int .i64 k] w (NewPost w (newBs k) (newK k)) := by
  have hbx : NBoxF w w.heap.size (.slice none 0 0) (w.alloc (.cells #[.slice none 0 0, .slice none 0 0] 28)) := by
    refine ⟨?_, ?_, ?_, ?_, by simp⟩
    all_goals simp [go_sem]
  have hbe : Below w.heap.size w (w.alloc (.cells #[.slice none 0 0, .slice none 0 0] 28)) := (Below.refl _ _).alloc (Nat.le_refl _) _
  have HBX := Lib.hid hbx
  have HBE := Lib.hid hbe
  by_cases hk : 1 ≤ k ∧ k ≤ 32
  · obtain ⟨m, rfl⟩ : ∃ m : Nat, k = m := ⟨k.toNat, by omega⟩
    have hm1 : 1 ≤ m := by omega
    have hm : m ≤ 32 := by omega
    have e1 : newBs m = List.replicate m (-1) := by rw [newBs, if_pos hk, Int.toNat_natCast]
    have e2 : newK m = 0 := by rw [newK, if_pos hk]
    rw [e1, e2]
    have d1 : decide ((m : Int) < 1) = false := decide_eq_false (by omega)
    have d2 : decide ((m : Int) > 32) = false := decide_eq_false (by omega)
    obtain ⟨W, hW⟩ : ∃ W, W = (w.alloc (.cells #[.slice none 0 0, .slice none 0 0] 28)).alloc (.cells #[.int .i64 (-1)] 3) := ⟨_, rfl⟩
    have hrep : Calls Try.prog 37 #[.slice (some ⟨w.heap.size + 1, 0, none⟩) 1 1, .int .i64 m] W (OwnPost W 3 1 m (List.replicate m (.int .i64 (-1)))) :=
      repeat_any (w.heap.size + 1) m (-1) W hm1 hm (by rw [hW]; simp [go_sem]) (by rw [hW]; simp)
    have hbW : Below (w.heap.size + 1) (w.alloc (.cells #[.slice none 0 0, .slice none 0 0] 28)) W := by rw [hW]; exact (Below.refl _ _).alloc (by simp) _
    have HBW := Lib.hid hbW
    have hsW : W.heap.size = w.heap.size + 2 := by rw [hW]; simp
    rw [hW] at hrep
    have HREP := Lib.hid hrep
    have HW := Lib.hid hW
    have HSW := Lib.hid hsW
    clear hbx hbe hk e1 e2 hbW hW hrep hsW
    go_enter Try.func24, Try.ntmps24
    go_wp2_with fail
    refine HREP.out.mono ?_
    rintro e w2 ⟨A2, c2, rfl, hown, hb2, _, _, hn2⟩
    rw [← HW.out] at hown hb2
    have hbx2 := (HBX.out.step HBW.out (Nat.lt_succ_self _)).step hb2 (by rw [HSW.out]; omega)
    obtain ⟨a0, a1, z0, z1, hsz⟩ := hbx2
    have HB2 : Hid (Below w.heap.size w w2) := Lib.hid ((HBE.out.trans (HBW.out.mono (Nat.le_succ _))).trans (hb2.mono (by rw [HSW.out]; omega)))
    have ho := ownsRow_setCell_below (ownsRow_setCell_below hown (a := ⟨w.heap.size, 0, none⟩) (by rw [HSW.out]; dsimp only; omega) (.slice none 0 0)) (a := ⟨w.heap.size, 1, none⟩) (by rw [HSW.out]; dsimp only; omega) (.slice A2 m c2)
    have HO := Lib.hid (own_mono ho (base' := w.heap.size) (by rw [HSW.out]; omega))
    clear hown hb2 ho
    go_wp2
    refine bodyPost_ret (v := .tuple #[.agg #[.slice none 0 0, .slice A2 m c2], .int .i64 0]) (by simp [results, Try.results24, go_sem, a0, a1]) rfl ?_
    refine ⟨A2, c2, by rw [List.length_replicate], ?_, (HB2.out.setCell (p := ⟨w.heap.size, 0, none⟩) (Nat.le_refl _) _).setCell (p := ⟨w.heap.size, 1, none⟩) (Nat.le_refl _) _⟩
    rw [List.length_replicate, flat_blank]
    exact HO.out
  · have e1 : newBs k = [] := by rw [newBs, if_neg hk]
    have e2 : newK k = 2 := by rw [newK, if_neg hk]
    rw [e1, e2]
    by_cases h1 : k < 1
    · have d1 := decide_eq_true h1
      clear hbe hbx hk e1 e2
      go_enter Try.func24, Try.ntmps24
      go_wp2
      refine bodyPost_ret (v := .tuple #[.agg #[.slice none 0 0, .slice none 0 0], .int .i64 2]) (by simp [results, Try.results24, go_sem]) rfl ?_
      exact ⟨none, 0, rfl, World.ownsRow_nil _ _ _ _, HBE.out⟩
    · have d1 := decide_eq_false h1
      have d2 : decide (k > 32) = true := decide_eq_true (by omega)
      clear hbe hbx hk e1 e2
      go_enter Try.func24, Try.ntmps24
      go_wp2
      refine bodyPost_ret (v := .tuple #[.agg #[.slice none 0 0, .slice none 0 0], .int .i64 2]) (by simp [results, Try.results24, go_sem]) rfl ?_
      exact ⟨none, 0, rfl, World.ownsRow_nil _ _ _ _, HBE.out⟩

set_option maxRecDepth 20000 in
set_option maxHeartbeats 2000000 in
theorem volumeOf_any (k : Int) (w : World) (hi64 : i64Ok k) : Calls Try.prog 25 #[.int .i64 k] w (NewPost w (newBs k) (newK k)) := by
  have hbx : NBoxF w w.heap.size (.slice none 0 0) (w.alloc (.cells #[.slice none 0 0, .slice none 0 0] 28)) := by
    refine ⟨?_, ?_, ?_, ?_, by simp⟩
    all_goals simp [go_sem]
  have hbe : Below w.heap.size w (w.alloc (.cells #[.slice none 0 0, .slice none 0 0] 28)) := (Below.refl _ _).alloc (Nat.le_refl _) _
  have HBX := Lib.hid hbx
  have HBE := Lib.hid hbe
  by_cases hk : 1 ≤ k ∧ k ≤ 32
  · obtain ⟨m, rfl⟩ : ∃ m : Nat, k = m := ⟨k.toNat, by omega⟩
    have hm1 : 1 ≤ m := by omega
    have hm : m ≤ 32 := by omega
    have e1 : newBs m = List.replicate m (-1) := by rw [newBs, if_pos hk, Int.toNat_natCast]
    have e2 : newK m = 0 := by rw [newK, if_pos hk]
    rw [e1, e2]
    obtain ⟨i0, hi, hz0, hz1, hz2⟩ := info_parts infoInt
    have HI := Lib.hid hi
    have HZ0 := Lib.hid hz0
    have HZ1 := Lib.hid hz1
    have HZ2 := Lib.hid hz2
    have hbx2 : NBoxF w w.heap.size (.slice none 0 0) ((w.alloc (.cells #[.slice none 0 0, .slice none 0 0] 28)).alloc (.cells #[.slice none 0 0, .slice none 0 0] 28)) := hbx.step (C := w.heap.size + 1) ((Below.refl _ _).alloc (by simp) _) (by omega)
    have hbx3 : NBoxF w (w.heap.size + 1) (.slice none 0 0) ((w.alloc (.cells #[.slice none 0 0, .slice none 0 0] 28)).alloc (.cells #[.slice none 0 0, .slice none 0 0] 28)) := by
      refine ⟨?_, ?_, ?_, ?_, by simp⟩
      all_goals simp [go_sem]
    have hbe2 := hbe.alloc hbe.size (.cells #[.slice none 0 0, .slice none 0 0] 28)
    have HB2 := Lib.hid hbx2
    have HB3 := Lib.hid hbx3
    have HBE2 := Lib.hid hbe2
    clear hi hz0 hz1 hz2 hbx hbe hk e1 e2 hi64 hbx2 hbx3 hbe2
    go_enter Try.func25, Try.ntmps25
    go_wp2_with (go_at_call 31; (with_reducible refine (in_yes m 1 32 _ (by omega) (by omega)).mono ?_); rintro e w' ⟨rfl, rfl⟩)
    go_loopw [5] (fun t wr => ∃ (i : Nat) (v : Value), i ≤ m ∧ t = .int .i64 i ∧ NBoxF w w.heap.size (.slice none 0 0) wr ∧ NBoxF w (w.heap.size + 1) v wr ∧ wr.ownsRow (w.heap.size + 2) 3 1 v i (List.replicate i (.int .i64 (-1))) ∧ Below w.heap.size w wr) (fun t _ => m - (intOf t).toNat)
    case atStart => exact ⟨0, _, by omega, rfl, HB2.out, HB3.out, World.ownsRow_nil _ _ _ _, HBE2.out⟩
    case round =>
      obtain ⟨i, v, him, rfl, hr, hq, hown, hbel⟩ := hrel
      have HR := Lib.hid hr
      have HQ := Lib.hid hq
      have HO := Lib.hid hown
      have HB := Lib.hid hbel
      by_cases hlt : i < m
      · obtain ⟨q0, q1, y0, y1, hsz⟩ := hq
        clear hr hown hbel
        go_wp2_with (at_builtin; refine wpList_append_own _ rfl (.tmp 17) (.tmp 18) 24 rfl (w.heap.size + 2) 3 i0 _ 1 8 Try.underlying24 HI.out HZ0.out HZ1.out HZ2.out rfl (by decide) _ _ _ rfl (HO.out.alloc _) ⟨wr.heap.size, 0, none⟩ 1 1 [.int .i64 (-1)] rfl rfl (by exact cell_one_new _ _ _) (by simp [Value.oneCell']) (by unfold maxLen; omega) (by omega) (by have := HQ.out.sz; simp; omega) ?_; intro v' w2 hown2 hgr2 _; have hb2 : Below (w.heap.size + 2) wr w2 := ((Below.refl (w.heap.size + 2) wr).alloc (by have := HQ.out.sz; omega) (.cells #[.int .i64 (-1)] 3)).grown hgr2 (by have := HQ.out.sz; simp; omega) (fun j hj => (HO.out.lt j hj).1); have HR2 := Lib.hid (HR.out.step hb2 (by omega)); have hq2 := HQ.out.step hb2 (by omega); have HQ2 := Lib.hid hq2; obtain ⟨p0, p1, x0, x1, hsz2⟩ := hq2; have HB2 := Lib.hid (HB.out.trans (hb2.mono (by omega))); obtain ⟨A2, c2, rfl⟩ : ∃ A c, v' = .slice A (i + 1) c := (by obtain ⟨A, c, h, _⟩ := own_form hown2; exact ⟨A, c, h⟩); have HO2 := Lib.hid hown2; clear hgr2 hown2 hb2)
        have ho3 := ownsRow_setCell_below HO2.out (a := ⟨w.heap.size + 1, 1, none⟩) (Nat.lt_succ_self _) (.slice A2 (i + 1) c2)
        rw [← List.replicate_succ'] at ho3
        go_roundw
        case rel => exact ⟨i + 1, _, by omega, by go_num, HR2.out.far (by omega) _, HQ2.out.set _, ho3, HB2.out.setCell (p := ⟨w.heap.size + 1, 1, none⟩) (Nat.le_succ _) _⟩
        case measure => simp [intOf]; omega
      · obtain rfl : i = m := by omega
        obtain ⟨A, d, hv, _⟩ := own_form hown
        subst hv
        obtain ⟨q0, q1, y0, y1, hsz⟩ := hq
        obtain ⟨r0, r1, z0, z1, hsz2⟩ := hr
        have ho := ownsRow_setCell_below (ownsRow_setCell_below hown (a := ⟨w.heap.size, 0, none⟩) (by dsimp only; omega) (.slice none 0 0)) (a := ⟨w.heap.size, 1, none⟩) (by dsimp only; omega) (.slice A i d)
        have HO4 := Lib.hid (own_mono ho (base' := w.heap.size) (by omega))
        clear hown hbel ho
        go_wp2
        refine bodyPost_ret (v := .tuple #[.agg #[.slice none 0 0, .slice A i d], .int .i64 0]) (by simp [results, Try.results25, go_sem, r0, r1]) rfl ?_
        refine ⟨A, d, by rw [List.length_replicate], ?_, (HB.out.setCell (p := ⟨w.heap.size, 0, none⟩) (Nat.le_refl _) _).setCell (p := ⟨w.heap.size, 1, none⟩) (Nat.le_refl _) _⟩
        rw [List.length_replicate, flat_blank]
        exact HO4.out
  · have e1 : newBs k = [] := by rw [newBs, if_neg hk]
    have e2 : newK k = 2 := by rw [newK, if_neg hk]
    rw [e1, e2]
    have hlt : k < 1 ∨ 32 < k := by omega
    obtain ⟨a0, a1, z0, z1, hsz⟩ := hbx
    unfold i64Ok at hi64
    clear hbe hk e1 e2
    go_enter Try.func25, Try.ntmps25
    go_wp2_with (go_at_call 31; (with_reducible refine (in_no k 1 32 _ hlt).mono ?_); rintro e w' ⟨rfl, rfl⟩)
    refine bodyPost_ret (v := .tuple #[.agg #[.slice none 0 0, .slice none 0 0], .int .i64 2]) (by simp [results, Try.results25, go_sem]) rfl ?_
    exact ⟨none, 0, rfl, World.ownsRow_nil _ _ _ _, HBE.out⟩
end Go.Proofs.Ytphbebcbbfbgpaa
