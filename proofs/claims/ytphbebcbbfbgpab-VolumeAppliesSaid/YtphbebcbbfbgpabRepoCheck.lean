/- repo.Check answers 0 where the items are good, and 7 otherwise. -/
import Derived.Test.YtphbebcbbfbgpabProg
import Derived.Test.YtphbebcbbfbgpabMaps
import Derived.Test.YtphbebcbbfbgpabPlain
namespace Go.Proofs.Ytphbebcbbfbgpab
open Go Go.RowKit

theorem zeroBool (w : World) : (zeroValue 4).run Try.prog w = .ok (.bool false) w := by kernel_rfl

def CheckPost (ls : List Itm) (e : Ending) : Prop := e = .returned (.int .i64 (goodN ls))

theorem items_at {w : World} {B n k : Nat} {A : Option Addr} {ls : List Itm} (h : Rep w B 3 Itm.cell A n ls) (hk : k < n) :
    ∃ b off, A = some ⟨b, off, none⟩ ∧ b < B ∧ w.cell? ⟨b, off + k * 3, none⟩ = some (.int .i64 (ls[k]'(by have := h.1; omega)).id) ∧
      w.cell? ⟨b, off + k * 3 + 1, none⟩ = some (.string (ls[k]'(by have := h.1; omega)).data) ∧ w.cell? ⟨b, off + k * 3 + 2, none⟩ = some (.int .i64 (ls[k]'(by have := h.1; omega)).refs) := by
  obtain ⟨b, off, e, hb, hc⟩ := h.at_ hk
  exact ⟨b, off, e, hb, hc 0 (by omega), hc 1 (by omega), hc 2 (by omega)⟩

theorem items_of {w : World} {B n k b off : Nat} {ls : List Itm} (h : Rep w B 3 Itm.cell (some ⟨b, off, none⟩) n ls) (hk : k < n) :
    b < B ∧ w.cell? ⟨b, off + k * 3, none⟩ = some (.int .i64 (ls[k]'(by have := h.1; omega)).id) ∧
      w.cell? ⟨b, off + k * 3 + 1, none⟩ = some (.string (ls[k]'(by have := h.1; omega)).data) ∧ w.cell? ⟨b, off + k * 3 + 2, none⟩ = some (.int .i64 (ls[k]'(by have := h.1; omega)).refs) := by
  obtain ⟨b', off', e, hb, c0, c1, c2⟩ := items_at h hk
  simp only [Option.some.injEq, Addr.mk.injEq, and_true] at e
  obtain ⟨rfl, rfl⟩ := e
  exact ⟨hb, c0, c1, c2⟩

set_option maxHeartbeats 4000000 in
theorem check_any (A : Option Addr) (n c : Nat) (ls : List Itm) (w : World) (h : Rep w w.heap.size 3 Itm.cell A n ls) (_hn : n ≤ maxLen) :
    Calls Try.prog 43 #[.slice A n c] w fun e w' => CheckPost ls e ∧ Below w.heap.size w w' := by
  have hlen := h.1
  by_cases h24 : (24 : Int) < (n : Int)
  · have H := Lib.hid h
    have HL := Lib.hid hlen
    clear h hlen
    go_enter Try.func43, Try.ntmps43
    go_wp2
    go_ret
    exact ⟨by rw [CheckPost, goodN_long (by have := HL.out; omega)]; rfl, Below.refl _ _⟩
  · have H := Lib.hid h
    have HL := Lib.hid hlen
    clear h hlen
    have hmm := @run_makeMap Try.prog
    go_enter Try.func43, Try.ntmps43
    go_wp2
    go_loopw [12] (fun i wr => ∃ k : Nat, k ≤ n ∧ i = .int .i64 k ∧ Below w.heap.size w wr ∧ StrSet Try.prog 9 4 wr w.heap.size ((ls.take k).map (·.data)) ∧ Hid (GoodPre (ls.take k))) (fun i _ => n - (intOf i).toNat)
    case atStart => exact ⟨0, Nat.zero_le _, rfl, (Below.refl _ _).alloc (Nat.le_refl _) _, StrSet.made _ _ _ _, Lib.hid GoodPre.nil⟩
    case round =>
      obtain ⟨k, hk, rfl, hbel, hset, hgood⟩ := hrel
      by_cases hlt : k < n
      · obtain ⟨b, off, rfl, hb, c0, c1, c2⟩ := items_at (H.out.below hbel (Nat.le_refl _)) hlt
        have hkl : k < ls.length := by have := HL.out; omega
        obtain ⟨x, hx⟩ : ∃ x, ls[k]'hkl = x := ⟨_, rfl⟩
        rw [hx] at c0 c1 c2
        obtain ⟨xi, xd, xr⟩ := x
        dsimp only at c0 c1 c2
        have HX := Lib.hid hx
        have HB := Lib.hid hbel
        have HS := Lib.hid hset
        clear hx hbel hset
        go_wp2
        have hbad : (itmOk ⟨xi, xd, xr⟩ → (0 < k → (ls[k - 1]'(by omega)).id < xi) → xd ∉ (ls.take k).map (·.data) → False) → goodN ls = 7 := by
          intro hf
          refine goodN_no hkl ?_
          rw [HX.out]
          exact hf
        have HBAD := Lib.hid hbad
        have HBE : Below w.heap.size w (wr.alloc (.cells #[.int .i64 xi, .string xd, .int .i64 xr] 61)) := HB.out.alloc HB.out.size _
        have HBE' := Lib.hid HBE
        clear hbad HBE
        by_cases h1 : xi < 0
        · have d1 := decide_eq_true h1
          go_quiet (fail)
          go_wp2
          go_ret
          exact ⟨by rw [CheckPost, HBAD.out (fun h _ _ => by have := h.1; dsimp only at this; omega)]; rfl, below_drewN HBE'.out _⟩
        have d1 := decide_eq_false h1
        by_cases h2 : 24 ≤ xi
        · have d2 := decide_eq_true h2
          go_quiet (fail)
          go_wp2
          go_ret
          exact ⟨by rw [CheckPost, HBAD.out (fun h _ _ => by have := h.2.1; dsimp only at this; omega)]; rfl, below_drewN HBE'.out _⟩
        have d2 := decide_eq_false h2
        by_cases h3 : (48 : Int) < (xd.size : Int)
        · have d3 := decide_eq_true h3
          go_quiet (fail)
          go_wp2
          go_ret
          exact ⟨by rw [CheckPost, HBAD.out (fun h _ _ => by have := h.2.2.1; dsimp only at this; omega)]; rfl, below_drewN HBE'.out _⟩
        have d3 := decide_eq_false h3
        by_cases h4 : xr < 1
        · have d4 := decide_eq_true h4
          go_quiet (fail)
          go_wp2
          go_ret
          exact ⟨by rw [CheckPost, HBAD.out (fun h _ _ => by have := h.2.2.2.1; dsimp only at this; omega)]; rfl, below_drewN HBE'.out _⟩
        have d4 := decide_eq_false h4
        by_cases h5 : 32 < xr
        · have d5 := decide_eq_true h5
          go_quiet (fail)
          go_wp2
          go_ret
          exact ⟨by rw [CheckPost, HBAD.out (fun h _ _ => by have := h.2.2.2.2; dsimp only at this; omega)]; rfl, below_drewN HBE'.out _⟩
        have d5 := decide_eq_false h5
        have hok : itmOk ⟨xi, xd, xr⟩ := ⟨by dsimp only; omega, by dsimp only; omega, by dsimp only; omega, by dsimp only; omega, by dsimp only; omega⟩
        have HOK := Lib.hid hok
        have hxs : xd.size ≤ maxLen := by unfold maxLen; omega
        have hlook : ∀ nq, (Instr.lookup 121 (.map (some w.heap.size)) (.string xd) false).run Try.prog ((wr.alloc (.cells #[.int .i64 xi, .string xd, .int .i64 xr] 61)).drewN nq) =
            .ok (.bool (decide (xd ∈ (ls.take k).map (·.data)))) ((wr.alloc (.cells #[.int .i64 xi, .string xd, .int .i64 xr] 61)).drewN nq) := fun nq =>
          ((HS.out.alloc _).drewN nq).lookup Try.underlying9 Try.underlying4 Try.underlying121 (zeroBool _) hxs
        clear hok hxs
        by_cases h6 : xd ∈ (ls.take k).map (·.data)
        · rw [decide_eq_true h6] at hlook
          have H6 := Lib.hid h6
          clear h6
          go_quiet (fail)
          go_wp2
          go_ret
          exact ⟨by rw [CheckPost, HBAD.out (fun _ _ h => h H6.out)]; rfl, below_drewN HBE'.out _⟩
        rw [decide_eq_false h6] at hlook
        have H6 := Lib.hid h6
        clear h6
        have hstep : (0 < k → (ls[k - 1]'(by omega)).id < xi) → GoodPre (ls.take (k + 1)) := by
          intro hp
          refine hgood.out.takeSucc hkl ?_ ?_ ?_
          · rw [HX.out]; exact HOK.out
          · rw [HX.out]; exact hp
          · rw [HX.out]; exact H6.out
        have htk : (ls.take k).map (·.data) ++ [xd] = (ls.take (k + 1)).map (·.data) := by
          rw [take_snoc ls k hkl, List.map_append, HX.out]; rfl
        have hln : ((ls.take k).map (·.data)).length < maxLen := by rw [List.length_map, List.length_take]; unfold maxLen; omega
        have HSTEP := Lib.hid hstep
        have HTK := Lib.hid htk
        have HLN := Lib.hid hln
        clear hstep htk hln
        by_cases h7 : 0 < k
        · have d7 : decide ((0 : Int) < (k : Int)) = true := by simp; omega
          obtain ⟨b', off', hA', hb', cp, _, _⟩ := items_at (k := k - 1) (H.out.below HB.out (Nat.le_refl _)) (by omega)
          obtain ⟨rfl, rfl⟩ : b' = b ∧ off' = off := by simpa using hA'.symm
          clear hA' hb'
          obtain ⟨y, hy⟩ : ∃ y, (ls[k - 1]'(by omega)).id = y := ⟨_, rfl⟩
          rw [hy] at cp
          have HY := Lib.hid hy
          clear hy
          have hbw : b' < wr.heap.size := by have := HB.out.size; omega
          have cp' := World.cell?_alloc_lt wr (.cells #[.int .i64 xi, .string xd, .int .i64 xr] 61) (a := ⟨b', off' + (k - 1) * 3, none⟩) hbw
          rw [cp] at cp'
          clear cp hbw
          by_cases h8 : xi ≤ y
          · have d8 := decide_eq_true h8
            go_quiet (fail)
            go_wp2
            go_ret
            exact ⟨by rw [CheckPost, HBAD.out (fun _ h _ => by have := h h7; rw [HY.out] at this; omega)]; rfl, below_drewN HBE'.out _⟩
          · have d8 := decide_eq_false h8
            go_quiet (fail)
            go_wp2_with (at_mapUpdate; refine wpList_strSet_put (P := Try.prog) rfl _ _ _ 121 rfl Try.underlying9 Try.underlying4 Try.underlying121 xd rfl rfl rfl ((HS.out.alloc _).drewN _) (by unfold maxLen; omega) HLN.out ?_; intro w1 hset1 hg1)
            have hp := HSTEP.out (fun _ => by rw [HY.out]; omega)
            rw [HTK.out] at hset1
            go_wp2
            go_roundw
            case rel => exact ⟨k + 1, by omega, by go_num, (below_drewN HBE'.out _).grown hg1 HBE'.out.size (by intro j hj; cases hj; exact Nat.le_refl _), hset1, hp⟩
            case measure => simp [intOf]; omega
        · have d7 : decide ((0 : Int) < (k : Int)) = false := by simp; omega
          go_quiet (fail)
          go_wp2_with (at_mapUpdate; refine wpList_strSet_put (P := Try.prog) rfl _ _ _ 121 rfl Try.underlying9 Try.underlying4 Try.underlying121 xd rfl rfl rfl ((HS.out.alloc _).drewN _) (by unfold maxLen; omega) HLN.out ?_; intro w1 hset1 hg1)
          have hp := HSTEP.out (fun h => absurd h h7)
          rw [HTK.out] at hset1
          go_wp2
          go_roundw
          case rel => exact ⟨k + 1, by omega, by go_num, (below_drewN HBE'.out _).grown hg1 HBE'.out.size (by intro j hj; cases hj; exact Nat.le_refl _), hset1, hp⟩
          case measure => simp [intOf]; omega
      · have hkl : ls.take k = ls := List.take_of_length_le (by have := HL.out; omega)
        have hfin : goodN ls = 0 := goodN_yes (by have := HL.out; omega) (by rw [← hkl]; exact hgood.out)
        have HF := Lib.hid hfin
        clear hkl hfin
        go_wp2
        go_ret
        exact ⟨by rw [CheckPost, HF.out]; rfl, hbel⟩
#print axioms check_any
end Go.Proofs.Ytphbebcbbfbgpab
