/- math/bits.Mul at small numbers; slices.Repeat of one number. volume.New and saltcellarref.VolumeOf. -/
import Derived.Test.YtphbebcbbfbgpacDoorSame
import Derived.Laws.Bits64b
import Derived.Laws.IdiomCopy
import Derived.Laws.OwnMore
import Derived.OwnWalk
import Derived.Test.YtphbebcbbfbgpacDoorPressRun
namespace Go.Proofs.YtphbebcbbfbgpacDoor
open Go Go.RowKit

theorem mask_small (y : Nat) (hy : y ≤ 64) : bits .and .u64 (y : Int) 4294967295 = (y : Int) := by
  have h := bits_and_u64_nat y 4294967295 (by omega) (by omega)
  have e : y &&& 4294967295 = y := by
    have : y &&& 4294967295 = y % 4294967296 := Nat.and_two_pow_sub_one_eq_mod y 32
    rw [this]; omega
  rw [e] at h
  exact h

theorem mul64_small (y : Nat) (hy : y ≤ 64) (w : World) :
    Calls Tryd.prog 79 #[.int .u64 1, .int .u64 y] w fun e w' => e = .returned (.tuple #[.int .u64 0, .int .u64 y]) ∧ w = w' := by
  have m1 : bits .and .u64 1 4294967295 = 1 := mask_small 1 (by omega)
  have m0 : bits .and .u64 0 4294967295 = 0 := mask_small 0 (by omega)
  have my := mask_small y hy
  have dy : (y : Int) / 4294967296 = 0 := by omega
  go_enter Tryd.func79, Tryd.ntmps79
  go_wp2
  go_ret2
  exact ⟨rfl, rfl⟩

theorem mul_small (y : Nat) (hy : y ≤ 64) (w : World) :
    Calls Tryd.prog 54 #[.int .u64 1, .int .u64 y] w fun e w' => e = .returned (.tuple #[.int .u64 0, .int .u64 y]) ∧ w = w' := by
  have h := mul64_small y hy w
  go_enter Tryd.func54, Tryd.ntmps54
  go_wp2_with (go_at_call 79; refine h.mono ?_; rintro e w' ⟨rfl, rfl⟩)
  go_ret2
  exact ⟨rfl, rfl⟩

theorem own_setCells {w : World} {base : Nat} {e : TypeId} {n cap g : Nat} {xs : List Value} (h : w.ownsRow base e 1 (.slice (some ⟨g, 0, none⟩) n cap) n xs) (vs : List Value) (o : Nat) (ho : o + vs.length ≤ n) :
    (w.setCells g o vs).ownsRow base e 1 (.slice (some ⟨g, 0, none⟩) n cap) n (xs.take o ++ vs ++ xs.drop (o + vs.length)) ∧ w.grownBy (w.setCells g o vs) (some g) := by
  induction vs generalizing w o xs with
  | nil =>
    refine ⟨?_, ⟨rfl, rfl, rfl, Nat.le_refl _, fun _ _ _ => rfl⟩⟩
    rw [List.append_nil, List.length_nil, Nat.add_zero, List.take_append_drop]
    exact h
  | cons v vs ih =>
    have h1 := h.stored o v
    simp only [List.length_cons] at ho
    have hxl : o < xs.length := by have := h.1; omega
    have h2 := ih h1.1 (o + 1) (by omega)
    have e1 : (xs.set o v).take (o + 1) = xs.take o ++ [v] := by
      rw [List.take_succ_eq_append_getElem (by rw [List.length_set]; exact hxl), List.take_set_of_le (Nat.le_refl o), List.getElem_set_self]
    rw [e1, List.drop_set_of_lt (by omega)] at h2
    refine ⟨?_, ?_⟩
    · have := h2.1
      rw [List.length_cons, show o + (vs.length + 1) = o + 1 + vs.length from by omega, show xs.take o ++ v :: vs = xs.take o ++ [v] ++ vs from by simp]
      exact this
    · obtain ⟨a1, a2, a3, a4, a5⟩ := h1.2
      obtain ⟨c1, c2, c3, c4, c5⟩ := h2.2
      exact ⟨c1.trans a1, c2.trans a2, c3.trans a3, Nat.le_trans a4 c4, fun k hk hne => (c5 k (Nat.lt_of_lt_of_le hk a4) hne).trans (a5 k hk hne)⟩

theorem rep_cells (n k m : Nat) (x z : Value) (hn : n + k ≤ m) : (List.replicate n x ++ List.replicate (m - n) z).take n ++ List.replicate k x ++ (List.replicate n x ++ List.replicate (m - n) z).drop (n + (List.replicate k x).length) = List.replicate (n + k) x ++ List.replicate (m - (n + k)) z := by
  rw [List.length_replicate, List.take_left' (List.length_replicate), List.drop_append, List.length_replicate, List.drop_of_length_le (by rw [List.length_replicate]; omega), List.nil_append, List.drop_replicate, List.replicate_append_replicate]
  congr 2
  omega

/-- the first copy: of the one number into the new row -/
theorem repeat_first (b m : Nat) (x : Int) (w w2 : World) (hm1 : 1 ≤ m) (HS : (Tryd.prog.info? 3).map (·.size) = some 1) (hc : w.cell? ⟨b, 0, none⟩ = some (.int .i64 x)) (hb : b < w.heap.size)
    (hown2 : w2.ownsRow w.heap.size 3 1 (.slice (some ⟨w.heap.size, 0, none⟩) m m) m (madeCells (Value.int .i64 0).cells (m * 1)).toList) (hgr2 : w.grownBy w2 none) :
    (Builtin.copy_ #[28, 28] 3 #[.slice (some ⟨w.heap.size, 0, none⟩) m m, .slice (some ⟨b, 0, none⟩) 1 1]).run Tryd.prog w2 = .ok (goInt 1) (w2.setCells w.heap.size 0 [.int .i64 x]) ∧
    (w2.setCells w.heap.size 0 [.int .i64 x]).ownsRow w.heap.size 3 1 (.slice (some ⟨w.heap.size, 0, none⟩) m m) m (List.replicate 1 (.int .i64 x) ++ List.replicate (m - 1) (.int .i64 0)) ∧
    Below w.heap.size w (w2.setCells w.heap.size 0 [.int .i64 x]) := by
  have hb2 : Below w.heap.size w w2 := (Below.refl _ _).grown hgr2 (Nat.le_refl _) (by intro k hk; cases hk)
  have hmc : (madeCells (Value.int .i64 0).cells (m * 1)).toList = List.replicate m (.int .i64 0) := by rw [Nat.mul_one]; exact toList_madeCells_one _ _
  rw [hmc] at hown2
  have hown3 := own_setCells hown2 [.int .i64 x] 0 (by simp; omega)
  have hgr3 := hown3.2
  refine ⟨?_, ?_, hb2.grown hgr3 hb2.size (by intro j hj; cases hj; exact Nat.le_refl _)⟩
  · refine run_copy_cells (P := Tryd.prog) w2 28 28 3 3 w.heap.size 0 m m ⟨b, 0, none⟩ 1 1 [.int .i64 x] Tryd.underlying28 HS ?_ ?_ ?_ (fun j _ => hown2.frozenAt _) (by simp [Value.oneCell'])
    · show 1 = min 1 m
      omega
    · intro j v hj
      have hj0 : j = 0 := by have := (List.getElem?_eq_some_iff.1 hj).1; simp at this; exact this
      subst hj0
      simp only [List.getElem?_cons_zero, Option.some.injEq] at hj
      rw [Addr.add_lit, hb2.cell hb, ← hj]; exact hc
    · intro j hj
      simp only [List.length_cons, List.length_nil] at hj
      rw [hown2.cellAt _ (by omega), List.getElem?_eq_getElem (by rw [List.length_replicate]; omega)]; rfl
  · have := hown3.1
    rw [List.take_zero, List.nil_append, List.length_cons, List.length_nil, List.drop_replicate] at this
    exact this

set_option maxRecDepth 20000 in
set_option maxHeartbeats 2000000 in
theorem repeat_any (b m : Nat) (x : Int) (w : World) (hm1 : 1 ≤ m) (hm : m ≤ 32) (hc : w.cell? ⟨b, 0, none⟩ = some (.int .i64 x)) (hb : b < w.heap.size) :
    Calls Tryd.prog 69 #[.slice (some ⟨b, 0, none⟩) 1 1, .int .i64 m] w (OwnPost w 3 1 m (List.replicate m (.int .i64 x))) := by
  obtain ⟨i0, hi, hz0, hz1, hz2⟩ := info_parts infoInt
  have HI := Lib.hid hi
  have HZ0 := Lib.hid hz0
  have HZ1 := Lib.hid hz1
  have HZ2 := Lib.hid hz2
  have HC := Lib.hid hc
  have hneg : decide ((m : Int) < 0) = false := decide_eq_false (by omega)
  have hbig : decide ((m : Int) > 9223372036854775807) = false := decide_eq_false (by omega)
  have HS : (Tryd.prog.info? 3).map (·.size) = some 1 := by rw [HI.out]; simp [HZ1.out]
  have hmul := mul_small m (by omega) w
  clear hi hz0 hz1 hz2
  go_enter Tryd.func69, Tryd.ntmps69
  go_wp2_with (first
    | (go_at_call 54; refine hmul.mono ?_; rintro e w' ⟨rfl, rfl⟩)
    | (at_make; refine wpList_make_full _ rfl (.tmp 29) (.tmp 29) 28 rfl w.heap.size 3 i0 _ 1 Tryd.underlying28 HI.out HZ0.out HZ1.out .i64 .i64 _ _ m rfl rfl rfl rfl (by rw [HZ2.out]; omega) (by unfold maxLen; omega) (Nat.le_refl _) ?_; intro w2 hown2 hgr2
       obtain ⟨hcopy, hown3, hb3⟩ := repeat_first b m x w w2 hm1 HS HC.out hb hown2 hgr2
       have HO3 := Lib.hid hown3
       have HB3 := Lib.hid hb3
       clear hown2 hgr2 hown3 hb3))
  go_loopw [8] (fun t wr => ∃ n : Nat, 1 ≤ n ∧ n ≤ m ∧ t = .int .i64 n ∧ wr.ownsRow w.heap.size 3 1 (.slice (some ⟨w.heap.size, 0, none⟩) m m) m (List.replicate n (.int .i64 x) ++ List.replicate (m - n) (.int .i64 0)) ∧ Below w.heap.size w wr) (fun t _ => m - (intOf t).toNat)
  case atStart => exact ⟨1, Nat.le_refl _, hm1, rfl, HO3.out, HB3.out⟩
  case round =>
    obtain ⟨n, hn1, hnm, rfl, hown, hbel⟩ := hrel
    by_cases hlt : n < m
    · obtain ⟨k, hk⟩ : ∃ k, k = Nat.min n (m - n) := ⟨_, rfl⟩
      have hk1 : 1 ≤ k := by rw [hk]; simp [Nat.min_def]; split <;> omega
      have hkn : n + k ≤ m := by rw [hk]; simp [Nat.min_def]; split <;> omega
      have hkn' : k ≤ n := by rw [hk]; simp [Nat.min_def]; split <;> omega
      have hcopy : (Builtin.copy_ #[28, 28] 3 #[.slice (some ⟨w.heap.size, n, none⟩) (m - n) (m - n), .slice (some ⟨w.heap.size, 0, none⟩) n m]).run Tryd.prog wr.drew = .ok (goInt k) (wr.drew.setCells w.heap.size n (List.replicate k (.int .i64 x))) := by
        have := run_copy_cells (P := Tryd.prog) wr.drew 28 28 3 3 w.heap.size n (m - n) (m - n) ⟨w.heap.size, 0, none⟩ n m (List.replicate k (.int .i64 x)) Tryd.underlying28 HS (by rw [List.length_replicate]; exact hk)
          (fun j v hj => by
            have hjk : j < k := by have := (List.getElem?_eq_some_iff.1 hj).1; rwa [List.length_replicate] at this
            rw [Addr.add_lit, Nat.zero_add, hown.drew.cellAt _ (by omega), List.getElem?_append_left (by rw [List.length_replicate]; omega), ← hj, List.getElem?_replicate, List.getElem?_replicate, if_pos hjk, if_pos (by omega)])
          (fun j hj => by
            rw [List.length_replicate] at hj
            rw [hown.drew.cellAt _ (by omega), List.getElem?_eq_getElem (by rw [List.length_append, List.length_replicate, List.length_replicate]; omega)]; rfl)
          (fun j _ => hown.drew.frozenAt _) (by intro v hv; rw [List.eq_of_mem_replicate hv]; rfl)
        rwa [List.length_replicate] at this
      have hown3 := own_setCells hown.drew (List.replicate k (.int .i64 x)) n (by rw [List.length_replicate]; exact hkn)
      rw [rep_cells n k m _ _ hkn] at hown3
      have HO3 := Lib.hid hown3.1
      have HB3 := Lib.hid (hbel.drew.grown hown3.2 hbel.size (by intro j hj; cases hj; exact Nat.le_refl _))
      have HK := Lib.hid hk
      have b1 : (0 : Int) ≤ (n : Int) := by omega
      have b2 : (n : Int) ≤ (m : Int) := by omega
      have hne : (m = n) = False := by simp; omega
      have s1 : IntKind.i64.wrap ((n : Int) + (k : Int)) = (n : Int) + (k : Int) := IntWalk.i64_in _ (by omega)
      clear hown hbel hown3 hk
      go_wp2
      go_region
      go_wp2
      go_roundw
      case rel => exact ⟨n + k, by omega, hkn, by go_num, HO3.out, HB3.out⟩
      case measure => simp [intOf]; omega
    · obtain rfl : n = m := by omega
      have ho : wr.ownsRow w.heap.size 3 1 (.slice (some ⟨w.heap.size, 0, none⟩) n n) n (List.replicate n (.int .i64 x)) := by
        have := hown
        rwa [Nat.sub_self, List.replicate_zero, List.append_nil] at this
      have HO := Lib.hid ho
      have HB := Lib.hid hbel
      clear hown hbel ho
      go_wp2
      go_ret
      exact OwnPost.mk' HO.out HB.out
end Go.Proofs.YtphbebcbbfbgpacDoor

namespace Go.Proofs.YtphbebcbbfbgpacDoor
open Go Go.RowKit

theorem flat_ints (bs : List Int) : flat intCell 1 bs = bs.map (fun b => Value.int .i64 b) := by
  induction bs with
  | nil => rfl
  | cons b bs ih => rw [flat_cons, ih]; rfl
theorem flat_blank (m : Nat) : flat intCell 1 (List.replicate m (-1)) = List.replicate m (.int .i64 (-1)) := by rw [flat_ints, List.map_replicate]

/-- P3.2: the blocks of a new volume, and the error's number -/
def newBs (k : Int) : List Int := if 1 ≤ k ∧ k ≤ 32 then List.replicate k.toNat (-1) else []
def newK (k : Int) : Int := if 1 ≤ k ∧ k ≤ 32 then 0 else 2
def NewPost (w : World) (bs : List Int) (k : Int) (e : Ending) (w' : World) : Prop :=
  ∃ B d, e = .returned (.tuple #[.agg #[.slice none 0 0, .slice B bs.length d], .int .i64 k]) ∧ w'.ownsRow w.heap.size 3 1 (.slice B bs.length d) bs.length (flat intCell 1 bs) ∧ Below w.heap.size w w'

/-- what stands in a block that holds a volume without items -/
structure NBoxF (w : World) (B : Nat) (v : Value) (W : World) : Prop where
  a0 : W.cell? ⟨B, 0, none⟩ = some (.slice none 0 0)
  a1 : W.cell? ⟨B, 1, none⟩ = some v
  z0 : W.frozen? ⟨B, 0, none⟩ = false
  z1 : W.frozen? ⟨B, 1, none⟩ = false
  sz : B < W.heap.size
theorem NBoxF.step {w W W' : World} {B C : Nat} {v : Value} (h : NBoxF w B v W) (hb : Below C W W') (hC : B < C) : NBoxF w B v W' where
  a0 := (hb.cell hC).trans h.a0
  a1 := (hb.cell hC).trans h.a1
  z0 := (hb.frozen hC).trans h.z0
  z1 := (hb.frozen hC).trans h.z1
  sz := Nat.lt_of_lt_of_le h.sz hb.size

theorem NBoxF.set {w W : World} {B : Nat} {v : Value} (h : NBoxF w B v W) (u : Value) : NBoxF w B u (W.setCell ⟨B, 1, none⟩ u) where
  a0 := (World.cell?_setCell_other _ _ _ _ (by intro e; simp at e)).trans h.a0
  a1 := World.cell?_setCell_same _ _ _ h.a1
  z0 := by simp [h.z0]
  z1 := by simp [h.z1]
  sz := by simpa [World.setCell] using h.sz
theorem NBoxF.far {w W : World} {B C : Nat} {v : Value} (h : NBoxF w B v W) (hC : C ≠ B) (u : Value) : NBoxF w B v (W.setCell ⟨C, 1, none⟩ u) where
  a0 := (World.cell?_setCell_other _ _ _ _ (by intro e; cases e)).trans h.a0
  a1 := (World.cell?_setCell_other _ _ _ _ (by intro e; cases e; exact hC rfl)).trans h.a1
  z0 := by simp [h.z0]
  z1 := by simp [h.z1]
  sz := by simpa [World.setCell] using h.sz

set_option maxHeartbeats 2000000 in
theorem new_any (k : Int) (w : World) : Calls Tryd.prog 43 #[.int .i64 k] w (NewPost w (newBs k) (newK k)) := by
  have hbx : NBoxF w w.heap.size (.slice none 0 0) (w.alloc (.cells #[.slice none 0 0, .slice none 0 0] 30)) := by
    refine ⟨?_, ?_, ?_, ?_, by simp⟩
    all_goals simp [go_sem]
  have hbe : Below w.heap.size w (w.alloc (.cells #[.slice none 0 0, .slice none 0 0] 30)) := (Below.refl _ _).alloc (Nat.le_refl _) _
  have HBX := Lib.hid hbx
  have HBE := Lib.hid hbe
  by_cases hk : 1 ≤ k ∧ k ≤ 32
  · obtain ⟨m, rfl⟩ : ∃ m : Nat, k = m := ⟨k.toNat, by omega⟩
    have hm1 : 1 ≤ m := by omega
    have hm : m ≤ 32 := by omega
    have e1 : newBs m = List.replicate m (-1) := by rw [newBs, if_pos hk, Int.toNat_natCast]
    have e2 : newK m = 0 := by rw [newK, if_pos hk]
    rw [e1, e2]
    have d1 : decide ((m : Int) < 1) = false := decide_eq_false (by omega)
    have d2 : decide ((m : Int) > 32) = false := decide_eq_false (by omega)
    obtain ⟨W, hW⟩ : ∃ W, W = (w.alloc (.cells #[.slice none 0 0, .slice none 0 0] 30)).alloc (.cells #[.int .i64 (-1)] 3) := ⟨_, rfl⟩
    have hrep : Calls Tryd.prog 69 #[.slice (some ⟨w.heap.size + 1, 0, none⟩) 1 1, .int .i64 m] W (OwnPost W 3 1 m (List.replicate m (.int .i64 (-1)))) :=
      repeat_any (w.heap.size + 1) m (-1) W hm1 hm (by rw [hW]; simp [go_sem]) (by rw [hW]; simp)
    have hbW : Below (w.heap.size + 1) (w.alloc (.cells #[.slice none 0 0, .slice none 0 0] 30)) W := by rw [hW]; exact (Below.refl _ _).alloc (by simp) _
    have HBW := Lib.hid hbW
    have hsW : W.heap.size = w.heap.size + 2 := by rw [hW]; simp
    rw [hW] at hrep
    have HREP := Lib.hid hrep
    have HW := Lib.hid hW
    have HSW := Lib.hid hsW
    clear hbx hbe hk e1 e2 hbW hW hrep hsW
    go_enter Tryd.func43, Tryd.ntmps43
    go_wp2_with fail
    refine HREP.out.mono ?_
    rintro e w2 ⟨A2, c2, rfl, hown, hb2, _, _, hn2⟩
    rw [← HW.out] at hown hb2
    have hbx2 := (HBX.out.step HBW.out (Nat.lt_succ_self _)).step hb2 (by rw [HSW.out]; omega)
    obtain ⟨a0, a1, z0, z1, hsz⟩ := hbx2
    have HB2 : Hid (Below w.heap.size w w2) := Lib.hid ((HBE.out.trans (HBW.out.mono (Nat.le_succ _))).trans (hb2.mono (by rw [HSW.out]; omega)))
    have ho := ownsRow_setCell_below (ownsRow_setCell_below hown (a := ⟨w.heap.size, 0, none⟩) (by rw [HSW.out]; dsimp only; omega) (.slice none 0 0)) (a := ⟨w.heap.size, 1, none⟩) (by rw [HSW.out]; dsimp only; omega) (.slice A2 m c2)
    have HO := Lib.hid (own_mono ho (base' := w.heap.size) (by rw [HSW.out]; omega))
    clear hown hb2 ho
    go_wp2
    refine bodyPost_ret (v := .tuple #[.agg #[.slice none 0 0, .slice A2 m c2], .int .i64 0]) (by simp [results, Tryd.results43, go_sem, a0, a1]) rfl ?_
    refine ⟨A2, c2, by rw [List.length_replicate], ?_, (HB2.out.setCell (p := ⟨w.heap.size, 0, none⟩) (Nat.le_refl _) _).setCell (p := ⟨w.heap.size, 1, none⟩) (Nat.le_refl _) _⟩
    rw [List.length_replicate, flat_blank]
    exact HO.out
  · have e1 : newBs k = [] := by rw [newBs, if_neg hk]
    have e2 : newK k = 2 := by rw [newK, if_neg hk]
    rw [e1, e2]
    by_cases h1 : k < 1
    · have d1 := decide_eq_true h1
      clear hbe hbx hk e1 e2
      go_enter Tryd.func43, Tryd.ntmps43
      go_wp2
      refine bodyPost_ret (v := .tuple #[.agg #[.slice none 0 0, .slice none 0 0], .int .i64 2]) (by simp [results, Tryd.results43, go_sem]) rfl ?_
      exact ⟨none, 0, rfl, World.ownsRow_nil _ _ _ _, HBE.out⟩
    · have d1 := decide_eq_false h1
      have d2 : decide (k > 32) = true := decide_eq_true (by omega)
      clear hbe hbx hk e1 e2
      go_enter Tryd.func43, Tryd.ntmps43
      go_wp2
      refine bodyPost_ret (v := .tuple #[.agg #[.slice none 0 0, .slice none 0 0], .int .i64 2]) (by simp [results, Tryd.results43, go_sem]) rfl ?_
      exact ⟨none, 0, rfl, World.ownsRow_nil _ _ _ _, HBE.out⟩

end Go.Proofs.YtphbebcbbfbgpacDoor
