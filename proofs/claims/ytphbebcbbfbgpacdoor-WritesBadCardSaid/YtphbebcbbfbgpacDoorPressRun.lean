/- repo.Check answers 0 where the items are good, and 7 otherwise. saltcellarref.In and saltcellarref.ItemsMay. volume.CheckWrites and saltcellarref.WritesFault. press.run and saltcellarref.sames: the length of the run at a place. -/
import Derived.Test.YtphbebcbbfbgpacDoorProg
import Derived.Test.YtphbebcbbfbgpacDoorRepBlock
namespace Go.Proofs.YtphbebcbbfbgpacDoor
open Go Go.RowKit

theorem zeroBool (w : World) : (zeroValue 4).run Tryd.prog w = .ok (.bool false) w := by kernel_rfl

def CheckPost (ls : List Itm) (e : Ending) : Prop := e = .returned (.int .i64 (goodN ls))

theorem items_at {w : World} {B n k : Nat} {A : Option Addr} {ls : List Itm} (h : Rep w B 3 Itm.cell A n ls) (hk : k < n) :
    ∃ b off, A = some ⟨b, off, none⟩ ∧ b < B ∧ w.cell? ⟨b, off + k * 3, none⟩ = some (.int .i64 (ls[k]'(by have := h.1; omega)).id) ∧
      w.cell? ⟨b, off + k * 3 + 1, none⟩ = some (.string (ls[k]'(by have := h.1; omega)).data) ∧ w.cell? ⟨b, off + k * 3 + 2, none⟩ = some (.int .i64 (ls[k]'(by have := h.1; omega)).refs) := by
  obtain ⟨b, off, e, hb, hc⟩ := h.at_ hk
  exact ⟨b, off, e, hb, hc 0 (by omega), hc 1 (by omega), hc 2 (by omega)⟩

theorem items_of {w : World} {B n k b off : Nat} {ls : List Itm} (h : Rep w B 3 Itm.cell (some ⟨b, off, none⟩) n ls) (hk : k < n) :
    b < B ∧ w.cell? ⟨b, off + k * 3, none⟩ = some (.int .i64 (ls[k]'(by have := h.1; omega)).id) ∧
      w.cell? ⟨b, off + k * 3 + 1, none⟩ = some (.string (ls[k]'(by have := h.1; omega)).data) ∧ w.cell? ⟨b, off + k * 3 + 2, none⟩ = some (.int .i64 (ls[k]'(by have := h.1; omega)).refs) := by
  obtain ⟨b', off', e, hb, c0, c1, c2⟩ := items_at h hk
  simp only [Option.some.injEq, Addr.mk.injEq, and_true] at e
  obtain ⟨rfl, rfl⟩ := e
  exact ⟨hb, c0, c1, c2⟩

set_option maxHeartbeats 4000000 in
theorem check_any (A : Option Addr) (n c : Nat) (ls : List Itm) (w : World) (h : Rep w w.heap.size 3 Itm.cell A n ls) (_hn : n ≤ maxLen) :
    Calls Tryd.prog 29 #[.slice A n c] w fun e w' => CheckPost ls e ∧ Below w.heap.size w w' := by
  have hlen := h.1
  by_cases h24 : (24 : Int) < (n : Int)
  · have H := Lib.hid h
    have HL := Lib.hid hlen
    clear h hlen
    go_enter Tryd.func29, Tryd.ntmps29
    go_wp2
    go_ret
    exact ⟨by rw [CheckPost, goodN_long (by have := HL.out; omega)]; rfl, Below.refl _ _⟩
  · have H := Lib.hid h
    have HL := Lib.hid hlen
    clear h hlen
    have hmm := @run_makeMap Tryd.prog
    go_enter Tryd.func29, Tryd.ntmps29
    go_wp2
    go_loopw [12] (fun i wr => ∃ k : Nat, k ≤ n ∧ i = .int .i64 k ∧ Below w.heap.size w wr ∧ StrSet Tryd.prog 9 4 wr w.heap.size ((ls.take k).map (·.data)) ∧ Hid (GoodPre (ls.take k))) (fun i _ => n - (intOf i).toNat)
    case atStart => exact ⟨0, Nat.zero_le _, rfl, (Below.refl _ _).alloc (Nat.le_refl _) _, StrSet.made _ _ _ _, Lib.hid GoodPre.nil⟩
    case round =>
      obtain ⟨k, hk, rfl, hbel, hset, hgood⟩ := hrel
      by_cases hlt : k < n
      · obtain ⟨b, off, rfl, hb, c0, c1, c2⟩ := items_at (H.out.below hbel (Nat.le_refl _)) hlt
        have hkl : k < ls.length := by have := HL.out; omega
        obtain ⟨x, hx⟩ : ∃ x, ls[k]'hkl = x := ⟨_, rfl⟩
        rw [hx] at c0 c1 c2
        obtain ⟨xi, xd, xr⟩ := x
        dsimp only at c0 c1 c2
        have HX := Lib.hid hx
        have HB := Lib.hid hbel
        have HS := Lib.hid hset
        clear hx hbel hset
        go_wp2
        have hbad : (itmOk ⟨xi, xd, xr⟩ → (0 < k → (ls[k - 1]'(by omega)).id < xi) → xd ∉ (ls.take k).map (·.data) → False) → goodN ls = 7 := by
          intro hf
          refine goodN_no hkl ?_
          rw [HX.out]
          exact hf
        have HBAD := Lib.hid hbad
        have HBE : Below w.heap.size w (wr.alloc (.cells #[.int .i64 xi, .string xd, .int .i64 xr] 42)) := HB.out.alloc HB.out.size _
        have HBE' := Lib.hid HBE
        clear hbad HBE
        by_cases h1 : xi < 0
        · have d1 := decide_eq_true h1
          go_quiet (fail)
          go_wp2
          go_ret
          exact ⟨by rw [CheckPost, HBAD.out (fun h _ _ => by have := h.1; dsimp only at this; omega)]; rfl, below_drewN HBE'.out _⟩
        have d1 := decide_eq_false h1
        by_cases h2 : 24 ≤ xi
        · have d2 := decide_eq_true h2
          go_quiet (fail)
          go_wp2
          go_ret
          exact ⟨by rw [CheckPost, HBAD.out (fun h _ _ => by have := h.2.1; dsimp only at this; omega)]; rfl, below_drewN HBE'.out _⟩
        have d2 := decide_eq_false h2
        by_cases h3 : (48 : Int) < (xd.size : Int)
        · have d3 := decide_eq_true h3
          go_quiet (fail)
          go_wp2
          go_ret
          exact ⟨by rw [CheckPost, HBAD.out (fun h _ _ => by have := h.2.2.1; dsimp only at this; omega)]; rfl, below_drewN HBE'.out _⟩
        have d3 := decide_eq_false h3
        by_cases h4 : xr < 1
        · have d4 := decide_eq_true h4
          go_quiet (fail)
          go_wp2
          go_ret
          exact ⟨by rw [CheckPost, HBAD.out (fun h _ _ => by have := h.2.2.2.1; dsimp only at this; omega)]; rfl, below_drewN HBE'.out _⟩
        have d4 := decide_eq_false h4
        by_cases h5 : 32 < xr
        · have d5 := decide_eq_true h5
          go_quiet (fail)
          go_wp2
          go_ret
          exact ⟨by rw [CheckPost, HBAD.out (fun h _ _ => by have := h.2.2.2.2; dsimp only at this; omega)]; rfl, below_drewN HBE'.out _⟩
        have d5 := decide_eq_false h5
        have hok : itmOk ⟨xi, xd, xr⟩ := ⟨by dsimp only; omega, by dsimp only; omega, by dsimp only; omega, by dsimp only; omega, by dsimp only; omega⟩
        have HOK := Lib.hid hok
        have hxs : xd.size ≤ maxLen := by unfold maxLen; omega
        have hlook : ∀ nq, (Instr.lookup 67 (.map (some w.heap.size)) (.string xd) false).run Tryd.prog ((wr.alloc (.cells #[.int .i64 xi, .string xd, .int .i64 xr] 42)).drewN nq) =
            .ok (.bool (decide (xd ∈ (ls.take k).map (·.data)))) ((wr.alloc (.cells #[.int .i64 xi, .string xd, .int .i64 xr] 42)).drewN nq) := fun nq =>
          ((HS.out.alloc _).drewN nq).lookup Tryd.underlying9 Tryd.underlying4 Tryd.underlying67 (zeroBool _) hxs
        clear hok hxs
        by_cases h6 : xd ∈ (ls.take k).map (·.data)
        · rw [decide_eq_true h6] at hlook
          have H6 := Lib.hid h6
          clear h6
          go_quiet (fail)
          go_wp2
          go_ret
          exact ⟨by rw [CheckPost, HBAD.out (fun _ _ h => h H6.out)]; rfl, below_drewN HBE'.out _⟩
        rw [decide_eq_false h6] at hlook
        have H6 := Lib.hid h6
        clear h6
        have hstep : (0 < k → (ls[k - 1]'(by omega)).id < xi) → GoodPre (ls.take (k + 1)) := by
          intro hp
          refine hgood.out.takeSucc hkl ?_ ?_ ?_
          · rw [HX.out]; exact HOK.out
          · rw [HX.out]; exact hp
          · rw [HX.out]; exact H6.out
        have htk : (ls.take k).map (·.data) ++ [xd] = (ls.take (k + 1)).map (·.data) := by
          rw [take_snoc ls k hkl, List.map_append, HX.out]; rfl
        have hln : ((ls.take k).map (·.data)).length < maxLen := by rw [List.length_map, List.length_take]; unfold maxLen; omega
        have HSTEP := Lib.hid hstep
        have HTK := Lib.hid htk
        have HLN := Lib.hid hln
        clear hstep htk hln
        by_cases h7 : 0 < k
        · have d7 : decide ((0 : Int) < (k : Int)) = true := by simp; omega
          obtain ⟨b', off', hA', hb', cp, _, _⟩ := items_at (k := k - 1) (H.out.below HB.out (Nat.le_refl _)) (by omega)
          obtain ⟨rfl, rfl⟩ : b' = b ∧ off' = off := by simpa using hA'.symm
          clear hA' hb'
          obtain ⟨y, hy⟩ : ∃ y, (ls[k - 1]'(by omega)).id = y := ⟨_, rfl⟩
          rw [hy] at cp
          have HY := Lib.hid hy
          clear hy
          have hbw : b' < wr.heap.size := by have := HB.out.size; omega
          have cp' := World.cell?_alloc_lt wr (.cells #[.int .i64 xi, .string xd, .int .i64 xr] 42) (a := ⟨b', off' + (k - 1) * 3, none⟩) hbw
          rw [cp] at cp'
          clear cp hbw
          by_cases h8 : xi ≤ y
          · have d8 := decide_eq_true h8
            go_quiet (fail)
            go_wp2
            go_ret
            exact ⟨by rw [CheckPost, HBAD.out (fun _ h _ => by have := h h7; rw [HY.out] at this; omega)]; rfl, below_drewN HBE'.out _⟩
          · have d8 := decide_eq_false h8
            go_quiet (fail)
            go_wp2_with (at_mapUpdate; refine wpList_strSet_put (P := Tryd.prog) rfl _ _ _ 67 rfl Tryd.underlying9 Tryd.underlying4 Tryd.underlying67 xd rfl rfl rfl ((HS.out.alloc _).drewN _) (by unfold maxLen; omega) HLN.out ?_; intro w1 hset1 hg1)
            have hp := HSTEP.out (fun _ => by rw [HY.out]; omega)
            rw [HTK.out] at hset1
            go_wp2
            go_roundw
            case rel => exact ⟨k + 1, by omega, by go_num, (below_drewN HBE'.out _).grown hg1 HBE'.out.size (by intro j hj; cases hj; exact Nat.le_refl _), hset1, hp⟩
            case measure => simp [intOf]; omega
        · have d7 : decide ((0 : Int) < (k : Int)) = false := by simp; omega
          go_quiet (fail)
          go_wp2_with (at_mapUpdate; refine wpList_strSet_put (P := Tryd.prog) rfl _ _ _ 67 rfl Tryd.underlying9 Tryd.underlying4 Tryd.underlying67 xd rfl rfl rfl ((HS.out.alloc _).drewN _) (by unfold maxLen; omega) HLN.out ?_; intro w1 hset1 hg1)
          have hp := HSTEP.out (fun h => absurd h h7)
          rw [HTK.out] at hset1
          go_wp2
          go_roundw
          case rel => exact ⟨k + 1, by omega, by go_num, (below_drewN HBE'.out _).grown hg1 HBE'.out.size (by intro j hj; cases hj; exact Nat.le_refl _), hset1, hp⟩
          case measure => simp [intOf]; omega
      · have hkl : ls.take k = ls := List.take_of_length_le (by have := HL.out; omega)
        have hfin : goodN ls = 0 := goodN_yes (by have := HL.out; omega) (by rw [← hkl]; exact hgood.out)
        have HF := Lib.hid hfin
        clear hkl hfin
        go_wp2
        go_ret
        exact ⟨by rw [CheckPost, HF.out]; rfl, hbel⟩
#print axioms check_any
end Go.Proofs.YtphbebcbbfbgpacDoor

namespace Go.Proofs.YtphbebcbbfbgpacDoor
open Go Go.RowKit

def MayPost (ls : List Itm) (e : Ending) : Prop := e = .returned (.bool (goodB ls))
end Go.Proofs.YtphbebcbbfbgpacDoor

namespace Go.Proofs.YtphbebcbbfbgpacDoor
open Go Go.RowKit

theorem writes_at {w : World} {B n k : Nat} {A : Option Addr} {ls : List Wrt} (h : Rep w B 2 Wrt.cell A n ls) (hk : k < n) :
    ∃ b off, A = some ⟨b, off, none⟩ ∧ b < B ∧ w.cell? ⟨b, off + k * 2, none⟩ = some (.int .i64 (ls[k]'(by have := h.1; omega)).block) ∧
      w.cell? ⟨b, off + k * 2 + 1, none⟩ = some (.string (ls[k]'(by have := h.1; omega)).data) := by
  obtain ⟨b, off, e, hb, hc⟩ := h.at_ hk
  exact ⟨b, off, e, hb, hc 0 (by omega), hc 1 (by omega)⟩
theorem writes_of {w : World} {B n k b off : Nat} {ls : List Wrt} (h : Rep w B 2 Wrt.cell (some ⟨b, off, none⟩) n ls) (hk : k < n) :
    b < B ∧ w.cell? ⟨b, off + k * 2, none⟩ = some (.int .i64 (ls[k]'(by have := h.1; omega)).block) ∧ w.cell? ⟨b, off + k * 2 + 1, none⟩ = some (.string (ls[k]'(by have := h.1; omega)).data) := by
  obtain ⟨b', off', e, hb, c0, c1⟩ := writes_at h hk
  simp only [Option.some.injEq, Addr.mk.injEq, and_true] at e
  obtain ⟨rfl, rfl⟩ := e
  exact ⟨hb, c0, c1⟩

def FaultPost (ls : List Wrt) (b : Int) (e : Ending) : Prop := e = .returned (.int .i64 (writesK ls b))

set_option maxHeartbeats 4000000 in
theorem checkWrites_any (A : Option Addr) (n c : Nat) (b : Int) (ls : List Wrt) (w : World) (h : Rep w w.heap.size 2 Wrt.cell A n ls) (hn : n ≤ maxLen) :
    Calls Tryd.prog 60 #[.slice A n c, .int .i64 b] w fun e w' => FaultPost ls b e ∧ Below w.heap.size w w' := by
  have hlen := h.1
  by_cases h12 : (12 : Int) < (n : Int)
  · have H := Lib.hid h
    have HL := Lib.hid hlen
    clear h hlen
    unfold maxLen at hn
    go_enter Tryd.func60, Tryd.ntmps60
    go_wp2
    go_ret
    exact ⟨by rw [FaultPost, writesK, if_neg (by have := HL.out; omega)]; rfl, Below.refl _ _⟩
  · have hw : writesK ls b = faultL b none ls := by rw [writesK, if_pos (by omega)]
    have H := Lib.hid h
    have HL := Lib.hid hlen
    have HW := Lib.hid hw
    clear h hlen hw
    go_enter Tryd.func60, Tryd.ntmps60
    go_wp2
    go_loopw [12] (fun t wr => ∃ k : Nat, k ≤ n ∧ t = .int .i64 k ∧ Below w.heap.size w wr ∧ Hid (writesK ls b = faultL b (prevB ls k) (ls.drop k))) (fun t _ => n - (intOf t).toNat)
    case atStart => exact ⟨0, Nat.zero_le _, rfl, Below.refl _ _, Lib.hid (by rw [HW.out]; rfl)⟩
    case round =>
      obtain ⟨k, hk, rfl, hbel, hinv⟩ := hrel
      have HB := Lib.hid hbel
      by_cases hlt : k < n
      · obtain ⟨g, off, rfl, hb, c0, c1⟩ := writes_at (H.out.below hbel (Nat.le_refl _)) hlt
        have hkl : k < ls.length := by have := HL.out; omega
        have hstep := hinv.out
        rw [faultL_step ls b hkl] at hstep
        have hprev := fun h0 : 0 < k => prevB_lt hkl h0
        have hprev0 : ¬ 0 < k → (∀ q, prevB ls k = some q → q < ls[k].block) := fun h0 => by
          obtain rfl : k = 0 := by omega
          exact prevB_zero _
        have hcp : ∀ h0 : 0 < k, wr.cell? ⟨g, off + (k - 1) * 2, none⟩ = some (.int .i64 (ls[k - 1]'(by omega)).block) := fun h0 => (writes_of (H.out.below hbel (Nat.le_refl _)) (by omega)).2.1
        obtain ⟨x, hx⟩ : ∃ x, ls[k]'hkl = x := ⟨_, rfl⟩
        rw [hx] at c0 c1 hstep hprev hprev0
        obtain ⟨xb, xd⟩ := x
        dsimp only at c0 c1 hstep hprev hprev0
        have HSTEP := Lib.hid hstep
        have HPREV := Lib.hid hprev
        have HPREV0 := Lib.hid hprev0
        have HCP := Lib.hid hcp
        have HBE : Below w.heap.size w (wr.alloc (.cells #[.int .i64 xb, .string xd] 55)) := HB.out.alloc HB.out.size _
        have HBE' := Lib.hid HBE
        have hgl : g < wr.heap.size := by have := hbel.size; omega
        clear hx hbel hstep hprev hprev0 hcp HBE hb
        by_cases h1 : xb < 0
        · have d1 := decide_eq_true h1
          go_wp2
          go_ret
          exact ⟨by rw [FaultPost, HSTEP.out, if_neg (by omega)]; rfl, HBE'.out⟩
        have d1 := decide_eq_false h1
        by_cases h2 : xb ≥ b
        · have d2 := decide_eq_true h2
          go_wp2
          go_ret
          exact ⟨by rw [FaultPost, HSTEP.out, if_neg (by omega)]; rfl, HBE'.out⟩
        have d2 := decide_eq_false h2
        by_cases h3 : (xd.size : Int) > 48
        · have d3 := decide_eq_true h3
          go_wp2
          go_ret
          exact ⟨by rw [FaultPost, HSTEP.out, if_pos (by omega), if_neg (by omega)]; rfl, HBE'.out⟩
        have d3 := decide_eq_false h3
        have hrest : (∀ q, prevB ls k = some q → q < xb) → writesK ls b = faultL b (prevB ls (k + 1)) (ls.drop (k + 1)) := fun hp => by
          rw [HSTEP.out, if_pos (by omega), if_pos (by omega), if_pos hp]
        have HREST := Lib.hid hrest
        clear hrest
        by_cases h7 : 0 < k
        · have d7 : decide ((k : Int) > 0) = true := by simp; omega
          have cp := HCP.out h7
          obtain ⟨y, hy⟩ : ∃ y, (ls[k - 1]'(by omega)).block = y := ⟨_, rfl⟩
          rw [hy] at cp
          have HY := Lib.hid hy
          have cp' := World.cell?_alloc_lt wr (.cells #[.int .i64 xb, .string xd] 55) (a := ⟨g, off + (k - 1) * 2, none⟩) hgl
          rw [cp] at cp'
          clear cp hy
          by_cases h8 : y ≥ xb
          · have d8 := decide_eq_true h8
            go_wp2
            go_quiet (fail)
            go_wp2
            go_ret
            exact ⟨by rw [FaultPost, HSTEP.out, if_pos (by omega), if_pos (by omega), if_neg (fun h => by have := (HPREV.out h7).1 h; rw [HY.out] at this; omega)]; rfl, below_drewN HBE'.out _⟩
          · have d8 := decide_eq_false h8
            have HN := Lib.hid (HREST.out ((HPREV.out h7).2 (by rw [HY.out]; omega)))
            go_wp2
            go_quiet (fail)
            go_wp2
            go_roundw
            case rel => exact ⟨k + 1, by omega, by go_num, below_drewN HBE'.out _, HN⟩
            case measure => simp [intOf]; omega
        · have d7 : decide ((k : Int) > 0) = false := by simp; omega
          have HN := Lib.hid (HREST.out (HPREV0.out h7))
          go_wp2
          go_quiet (fail)
          go_wp2
          go_roundw
          case rel => exact ⟨k + 1, by omega, by go_num, below_drewN HBE'.out _, HN⟩
          case measure => simp [intOf]; omega
      · have hfin : writesK ls b = 0 := by rw [hinv.out]; exact faultL_end ls b (by have := HL.out; omega) _
        have HF := Lib.hid hfin
        clear hfin hbel
        go_wp2
        go_ret
        exact ⟨by rw [FaultPost, HF.out]; rfl, HB.out⟩
end Go.Proofs.YtphbebcbbfbgpacDoor

namespace Go.Proofs.YtphbebcbbfbgpacDoor
open Go Go.RowKit

theorem size_list (s : ByteArray) : s.size = s.data.toList.length := by simp

theorem get_list (s : ByteArray) (i : Nat) (h : i < s.size) : s.data.toList[i]? = some (s[i]'h) := by
  rw [List.getElem?_eq_getElem (by simpa using h)]
  rfl
theorem run_is {s : ByteArray} {i n : Nat} (hn : 1 ≤ n) (hin : i + n ≤ s.size) (hall : ∀ j, j < n → s.data.toList[i + j]? = s.data.toList[i]?) (hstop : i + n < s.size → s.data.toList[i + n]? ≠ s.data.toList[i]?) :
    runLen (s.data.toList.drop i) = n := by
  have hl := size_list s
  refine runLen_eq hn (by rw [List.length_drop]; omega) (fun j hj => ?_) (fun h e => ?_)
  · have := hall j hj
    rw [List.getElem?_eq_getElem (by omega), List.getElem?_eq_getElem (by omega)] at this
    simpa using this
  · rw [List.length_drop] at h
    refine hstop (by omega) ?_
    rw [List.getElem?_eq_getElem (by omega), List.getElem?_eq_getElem (by omega)]
    simpa using e

def RunPost (s : ByteArray) (i : Nat) (e : Ending) : Prop := e = .returned (.int .i64 (runLen (s.data.toList.drop i)))

set_option maxHeartbeats 1000000 in
theorem run_any (s : ByteArray) (i : Nat) (w : World) (hs : s.size ≤ 48) (hi : i < s.size) :
    Calls Tryd.prog 125 #[.string s, .int .i64 i] w fun e w' => RunPost s i e ∧ Below w.heap.size w w' := by
  go_enter Tryd.func125, Tryd.ntmps125
  go_wp2
  go_loopw [5] (fun t wr => ∃ n : Nat, 1 ≤ n ∧ i + n ≤ s.size ∧ t = .int .i64 n ∧ Below w.heap.size w wr ∧ Hid (∀ j, j < n → s.data.toList[i + j]? = s.data.toList[i]?)) (fun t _ => s.size - (intOf t).toNat)
  case atStart => exact ⟨1, Nat.le_refl _, by omega, rfl, Below.refl _ _, Lib.hid (fun j hj => by rw [show j = 0 from by omega]; rfl)⟩
  case round =>
    obtain ⟨n, hn, hin, rfl, hbel, hall⟩ := hrel
    have HB := Lib.hid hbel
    clear hbel
    have s1 : IntKind.i64.wrap ((i : Int) + (n : Int)) = (i : Int) + (n : Int) := IntWalk.i64_in _ (by omega)
    have s2 : (0 : Int) ≤ (i : Int) + (n : Int) := by omega
    have s3 : ((i : Int) + (n : Int)).toNat = i + n := by omega
    by_cases h1 : (i : Int) + (n : Int) < (s.size : Int)
    · have d1 := decide_eq_true h1
      have h1' : i + n < s.size := by omega
      have d2 : decide ((n : Int) < 130) = true := by simp; omega
      obtain ⟨a, ha⟩ : ∃ a, s[i + n]'h1' = a := ⟨_, rfl⟩
      obtain ⟨b, hb⟩ : ∃ b, s[i]'hi = b := ⟨_, rfl⟩
      by_cases h2 : a = b
      · have d3 : ((a.toNat : Int) == (b.toNat : Int)) = true := by simp [h2]
        rw [← ha, ← hb] at d3
        have hstep : ∀ j, j < n + 1 → s.data.toList[i + j]? = s.data.toList[i]? := by
          intro j hj
          by_cases hjn : j = n
          · subst hjn; rw [get_list s _ h1', get_list s _ hi, ha, hb, h2]
          · exact hall.out j (by omega)
        have HS := Lib.hid hstep
        clear ha hb h2 hstep
        go_wp2
        go_quiet (fail)
        clear s1
        go_wp2
        go_roundw
        case rel => exact ⟨n + 1, by omega, by omega, by go_num, below_drewN HB.out _, HS⟩
        case measure => simp [intOf]; omega
      · have d3 : ((a.toNat : Int) == (b.toNat : Int)) = false := by
          rw [beq_eq_false_iff_ne]
          intro e
          exact h2 (UInt8.toNat_inj.1 (by omega))
        rw [← ha, ← hb] at d3
        have hr := run_is hn hin hall.out (fun _ => by rw [get_list s _ h1', get_list s _ hi, ha, hb]; simpa using h2)
        have HR := Lib.hid hr
        clear ha hb h2 hr
        go_wp2
        go_quiet (fail)
        clear s1
        go_wp2
        go_ret
        exact ⟨by rw [RunPost, HR.out]; rfl, below_drewN HB.out _⟩
    · have d1 := decide_eq_false h1
      have hr := run_is hn hin hall.out (fun h => by omega)
      have HR := Lib.hid hr
      clear hr
      go_wp2
      go_quiet (fail)
      clear s1
      go_wp2
      go_ret
      exact ⟨by rw [RunPost, HR.out]; rfl, below_drewN HB.out _⟩

end Go.Proofs.YtphbebcbbfbgpacDoor
