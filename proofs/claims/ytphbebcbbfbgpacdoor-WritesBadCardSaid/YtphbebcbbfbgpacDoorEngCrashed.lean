/- The engine's crash: the walk. (and what it wants) -/
import Derived.Test.YtphbebcbbfbgpacDoorApply
import Derived.Test.YtphbebcbbfbgpacDoorLogFirstP
import Derived.Test.YtphbebcbbfbgpacDoorRepBlock
import Derived.Test.YtphbebcbbfbgpacDoorLogFirst
import Derived.Test.YtphbebcbbfbgpacDoorSearchW
import Derived.Test.YtphbebcbbfbgpacDoorKept
namespace Go.Proofs.YtphbebcbbfbgpacDoor
open Go Go.RowKit
set_option linter.unusedSimpArgs false
set_option linter.unusedVariables false

theorem wrt_one (ls : List Wrt) : ∀ u ∈ flat Wrt.cell 2 ls, u.oneCell' = true := by
  intro u hu
  obtain ⟨j, hj, rfl⟩ := List.getElem_of_mem hu
  obtain ⟨k, i, hk, hi, _, e⟩ := flat_split ls j _ (List.getElem?_eq_getElem hj)
  rw [e]
  match i, hi with
  | 0, _ => rfl
  | 1, _ => rfl

set_option maxRecDepth 20000 in
set_option maxHeartbeats 2000000 in
theorem insert_lastW (v0 : Value) (n b base : Nat) (ls : List Wrt) (x : Wrt) (w : World) (h : w.ownsRow base 55 2 v0 n (flat Wrt.cell 2 ls)) (_hn : n = ls.length) (h24 : n ≤ 24) (hbase : base ≤ w.heap.size)
    (hb : w.heap[b]? = some (.cells #[.int .i64 x.block, .string x.data] 55 (0, 0))) :
    Calls Tryd.prog 89 #[v0, .int .i64 n, .slice (some ⟨b, 0, none⟩) 1 1] w fun e w' =>
      ∃ A c, e = .returned (.slice A (n + 1) c) ∧ w'.ownsRow base 55 2 (.slice A (n + 1) c) (n + 1) (flat Wrt.cell 2 (ls ++ [x])) ∧ Touch (fun k => v0.ownBlock = some k) w w' := by
  obtain ⟨A, c, rfl, hnc, hcm, hnil⟩ := own_form h
  obtain ⟨i0, hi, hz0, hz1, hz2⟩ := info_parts infoWrite
  have HI := Lib.hid hi
  have HZ0 := Lib.hid hz0
  have HZ1 := Lib.hid hz1
  have HZ2 := Lib.hid hz2
  have HO := Lib.hid h
  have HBB := Lib.hid hb
  have HLT := Lib.hid (fun k hk => (h.lt k hk).1)
  have hc2 : c ≤ 9223372036854775807 := hcm
  clear hi hz0 hz1 hz2 h hb _hn hcm hnil
  go_enter Tryd.func89, Tryd.ntmps89
  go_wp2_with (at_builtin; refine wpList_append_own _ rfl (.tmp 23) (.tmp 24) 53 rfl base 55 i0 _ 2 24 Tryd.underlying53 HI.out HZ0.out HZ1.out HZ2.out rfl (by decide) _ _ _ rfl HO.out ⟨b, 0, none⟩ 1 1 [.int .i64 x.block, .string x.data] rfl rfl (World.news_of_block (cs := #[.int .i64 x.block, .string x.data]) HBB.out) (by simp [Value.oneCell']) (by unfold maxLen; omega) (by omega) hbase ?_; intro v' w2 hown2 hgr2 _)
  all_goals
    go_ret
    obtain ⟨A2, c2, rfl, _⟩ := own_form hown2
    exact ⟨A2, c2, rfl, by rw [flat_append, wrt_flat1]; exact hown2, Touch.grown hgr2 (fun k hk => (ownBlock_len A n n _ _).trans hk)⟩
set_option maxRecDepth 20000 in
set_option maxHeartbeats 2000000 in
theorem insert_growW (g n cap i b base : Nat) (ls : List Wrt) (x : Wrt) (w : World) (h : w.ownsRow base 55 2 (.slice (some ⟨g, 0, none⟩) n cap) n (flat Wrt.cell 2 ls)) (hn : n = ls.length) (h24 : n ≤ 24) (hi : i < n) (hcap : cap < n + 1) (hcap2 : n ≤ cap) (hbase : base ≤ w.heap.size)
    (hb : w.heap[b]? = some (.cells #[.int .i64 x.block, .string x.data] 55 (0, 0))) :
    Calls Tryd.prog 89 #[.slice (some ⟨g, 0, none⟩) n cap, .int .i64 i, .slice (some ⟨b, 0, none⟩) 1 1] w fun e w' =>
      ∃ A c, e = .returned (.slice A (n + 1) c) ∧ w'.ownsRow base 55 2 (.slice A (n + 1) c) (n + 1) (flat Wrt.cell 2 (ls.take i ++ [x] ++ ls.drop i)) ∧ Touch (fun k => (Value.slice (some ⟨g, 0, none⟩) n cap).ownBlock = some k) w w' := by
  obtain ⟨i0, hi0, hz0, hz1, hz2⟩ := info_parts infoWrite
  have hsh := own_shorter h (Nat.le_of_lt hi)
  obtain ⟨c', w2, hrun, hown2, hgr2⟩ := run_append_make (P := Tryd.prog) (ty := 53) (tn := 3) (kk := .i64) (k := n + 1 - i) Tryd.underlying53 Tryd.underlying3 hi0 hz0 hz1 rfl (by decide) hsh hbase (by omega) (by omega) (by omega) (by rw [hz2]; omega)
  rw [show ((n + 1 - i : Nat) : Int) = (n : Int) + 1 - (i : Int) from by omega] at hrun
  have hcge : i + (n + 1 - i) ≤ c' := by
    obtain ⟨_, _, hce, hle, _, _⟩ := own_form hown2
    simp only [Value.slice.injEq, true_and] at hce
    obtain ⟨_, rfl⟩ := hce
    exact hle
  have hsum : i + (n + 1 - i) = n + 1 := by omega
  rw [hsum] at hrun hown2 hcge
  have hb2 : Below w.heap.size w w2 := (Below.refl _ _).grown hgr2 (Nat.le_refl _) (by intro k hk; cases hk)
  have hblt : b < w.heap.size := (Array.getElem?_eq_some_iff.1 hb).1
  have hb3 : w2.heap[b]? = some (.cells #[.int .i64 x.block, .string x.data] 55 (0, 0)) := by rw [← hb]; exact hb2.block b hblt
  obtain ⟨w3, hcp1, hown3, hgr3⟩ := copy_own (P := Tryd.prog) (dT := 53) (sT := 53) (ty := 3) hown2 (i * 2) (n + 1 - i) (c' - i) ⟨b, 0, none⟩ 1 1 [.int .i64 x.block, .string x.data] 1 Tryd.underlying53 hi0 hz1 (by show 1 = min 1 (n + 1 - i); omega) rfl
    (World.news_of_block (cs := #[.int .i64 x.block, .string x.data]) hb3) (by simp; omega) (by simp [Value.oneCell'])
  have hl0 : ((flat Wrt.cell 2 ls).take (i * 2)).length = i * 2 := by rw [List.length_take, flat_length]; omega
  have hb4 : Below w.heap.size w w3 := hb2.grown hgr3 hb2.size (by intro j hj; cases hj; exact Nat.le_refl _)
  have hglt : g < w.heap.size := (h.lt g rfl).2
  obtain ⟨w4, hcp2, hown4, hgr4⟩ := copy_own (P := Tryd.prog) (w := w3.drew) (dT := 53) (sT := 53) (ty := 3) hown3.drew ((i + 1) * 2) (n - i) (c' - (i + 1)) ⟨g, i * 2, none⟩ (n - i) (cap - i) (flat Wrt.cell 2 (ls.drop i)) (n - i) Tryd.underlying53 hi0 hz1
    (by show n - i = min (n - i) (n - i); omega) (by rw [flat_length, List.length_drop, hn])
    (by
      intro j u hj
      have hjl := (List.getElem?_eq_some_iff.1 hj).1
      rw [flat_length, List.length_drop] at hjl
      rw [Addr.add_lit]
      have e := (hb4.cell (p := ⟨g, i * 2 + j, none⟩) hglt)
      show w3.cell? ⟨g, i * 2 + j, none⟩ = some u
      rw [e, h.cellAt _ (by omega), ← hj, ← flat_drop, List.getElem?_drop])
    (by rw [flat_length, List.length_drop]; omega) (wrt_one _)
  have hne1 : ¬ c' = i := by omega
  have hne2 : ¬ cap = i := by omega
  have hne3 : ¬ c' = i + 1 := by omega
  have HRUN := Lib.hid hrun
  have HO3 := Lib.hid hown3
  have HGR3 := Lib.hid hgr3
  have HO4 := Lib.hid hown4
  have HL0 := Lib.hid hl0
  have HN := Lib.hid hn
  have HB4 := Lib.hid hb4
  have HGR4 := Lib.hid hgr4
  have HO := Lib.hid h
  have HBB := Lib.hid hb
  have HO2 := Lib.hid hown2
  have HGR2 := Lib.hid hgr2
  have HLT := Lib.hid (fun k hk => (h.lt k hk).1)
  have d1 : ((i : Int) == (n : Int)) = false := by rw [beq_eq_false_iff_ne]; omega
  have d2 : decide ((n : Int) + 1 > (cap : Int)) = true := decide_eq_true (by omega)
  clear h hb hn hrun hown2 hgr2 hsh hi0 hz0 hz1 hz2 hsum hb2 hblt hb3 hown3 hgr3 hl0 hb4 hglt hown4 hgr4
  go_enter Tryd.func89, Tryd.ntmps89
  go_wp2_with (at_builtin; refine Lib.wpList_append_run _ rfl (.tmp 34) (.tmp 39) 53 3 rfl _ _ rfl rfl _ _ HRUN.out ?_)
  go_wp2
  have b1 : (0 : Int) ≤ (i : Int) := by omega
  have b2 : (i : Int) ≤ (n : Int) := by omega
  have b3 : (0 : Int) ≤ (i : Int) + 1 := by omega
  have b4 : (i : Int) + 1 ≤ (n : Int) + 1 := by omega
  go_region
  go_wp2
  go_ret
  have ho := HO4.out
  have hl3 := HO3.out.1
  have ht0 : ((flat Wrt.cell 2 ls).take (i * 2) ++ (Builtin.zeroCells (Value.agg #[.int .i64 0, .string ByteArray.empty]).cells (n + 1 - i)).toList).take (i * 2) = (flat Wrt.cell 2 ls).take (i * 2) := List.take_left' HL0.out
  rw [ht0] at ho hl3
  rw [ins_list _ _ _ _ _ (by rw [HL0.out]; simp; omega) (by rw [hl3, flat_length, List.length_drop]; have := HN.out; omega), flat_take] at ho
  refine ⟨_, c', rfl, ?_, ?_⟩
  · rw [flat_append, flat_append, wrt_flat1]; exact ho
  · exact Touch.below (((((Below.refl _ _).grown HGR2.out (Nat.le_refl _) (by intro k hk; cases hk)).grown HGR3.out HGR2.out.size (by intro k hk; cases hk; exact Nat.le_refl _)).drew).grown HGR4.out (by have := HGR2.out.size; have := HGR3.out.size; simp; omega) (by intro k hk; cases hk; exact Nat.le_refl _))
set_option maxRecDepth 20000 in
set_option maxHeartbeats 2000000 in
theorem insert_roomW (g n cap i b base : Nat) (ls : List Wrt) (x : Wrt) (w : World) (h : w.ownsRow base 55 2 (.slice (some ⟨g, 0, none⟩) n cap) n (flat Wrt.cell 2 ls)) (hn : n = ls.length) (h24 : n ≤ 24) (hi : i < n) (hcap : n + 1 ≤ cap) (hbase : base ≤ w.heap.size) (hgb : g ≠ b)
    (hb : w.heap[b]? = some (.cells #[.int .i64 x.block, .string x.data] 55 (0, 0))) :
    Calls Tryd.prog 89 #[.slice (some ⟨g, 0, none⟩) n cap, .int .i64 i, .slice (some ⟨b, 0, none⟩) 1 1] w fun e w' =>
      ∃ A c, e = .returned (.slice A (n + 1) c) ∧ w'.ownsRow base 55 2 (.slice A (n + 1) c) (n + 1) (flat Wrt.cell 2 (ls.take i ++ [x] ++ ls.drop i)) ∧ Touch (fun k => (Value.slice (some ⟨g, 0, none⟩) n cap).ownBlock = some k) w w' := by
  have hov : (callFunc 108 #[.slice (some ⟨b, 0, none⟩) 1 1, .slice (some ⟨g, (i + 1) * 2, none⟩) (n - i) (cap - (i + 1))]).run Tryd.prog w = .ok (.value (.bool false)) w := by
    rw [run_callFunc_extern Tryd.func108 (by kernel_rfl) (by kernel_rfl) (by kernel_rfl) (e := Extern.SlicesOverlaps.overlaps #[53, 53] #[4]) (by kernel_rfl)]
    obtain ⟨cur, hg⟩ : ∃ cur, w.heap[g]? = some (.cells cur 55 (0, 0)) ∧ cur.size ≠ 0 := by
      rcases h.2 with ⟨h', _⟩ | ⟨g', cap', cur, h', _, hg, hnc, _, hcs, _⟩
      · simp at h'
      · simp only [Value.slice.injEq, Option.some.injEq, Addr.mk.injEq, and_true, true_and] at h'
        obtain ⟨rfl, rfl⟩ := h'
        exact ⟨cur, hg, by omega⟩
    rw [Lib.run_overlaps_apart w 53 4 55 Tryd.underlying53 2 Tryd.sizeOf55 ⟨b, 0, none⟩ ⟨g, (i + 1) * 2, none⟩ 1 1 (n - i) (cap - (i + 1)) (fun e => hgb e.symm) 55 55 2 cur.size (by simp [World.shape?, hb]) (by simp [World.shape?, hg.1]) hg.2 (by simp [World.frozen?, hb]) (by simp [World.frozen?, hb])]
    rfl
  obtain ⟨i0, hi0, hz0, hz1, hz2⟩ := info_parts infoWrite
  have hl0 : (flat Wrt.cell 2 ls).length = n * 2 := by rw [flat_length, hn]
  have hdl : (flat Wrt.cell 2 (ls.drop i)).length = (n - i) * 2 := by rw [flat_length, List.length_drop, hn]
  obtain ⟨ys, hys, hlong⟩ := own_longer h (n' := n + 1) (by omega) hcap
  have hyl := hlong.1
  obtain ⟨w2, hcp1, hown2, hgr2⟩ := copy_own (P := Tryd.prog) (w := w.drew) (dT := 53) (sT := 53) (ty := 3) hlong.drew ((i + 1) * 2) (n - i) (cap - (i + 1)) ⟨g, i * 2, none⟩ (n + 1 - i) (cap - i) (flat Wrt.cell 2 (ls.drop i)) (n - i) Tryd.underlying53 hi0 hz1
    (by show n - i = min (n + 1 - i) (n - i); omega) hdl
    (by
      intro j u hj
      have hjl := (List.getElem?_eq_some_iff.1 hj).1
      rw [hdl] at hjl
      rw [Addr.add_lit]
      show w.cell? ⟨g, i * 2 + j, none⟩ = some u
      rw [h.cellAt _ (by omega), ← hj, ← flat_drop, List.getElem?_drop])
    (by rw [hdl]; omega) (wrt_one _)
  have hb3 : w2.heap[b]? = some (.cells #[.int .i64 x.block, .string x.data] 55 (0, 0)) := by
    obtain ⟨_, _, _, _, a5⟩ := hgr2
    rw [← hb]; exact a5 b (Array.getElem?_eq_some_iff.1 hb).1 (by simp; exact fun e => hgb e.symm)
  obtain ⟨w3, hcp2, hown3, hgr3⟩ := copy_own (P := Tryd.prog) (dT := 53) (sT := 53) (ty := 3) hown2 (i * 2) (n + 1 - i) (cap - i) ⟨b, 0, none⟩ 1 1 [.int .i64 x.block, .string x.data] 1 Tryd.underlying53 hi0 hz1 (by show 1 = min 1 (n + 1 - i); omega) rfl
    (World.news_of_block (cs := #[.int .i64 x.block, .string x.data]) hb3) (by simp; omega) (by simp [Value.oneCell'])
  have hlist := room_list ys (flat Wrt.cell 2 ls) (flat Wrt.cell 2 (ls.drop i)) [.int .i64 x.block, .string x.data] (i * 2) (n * 2) 2 hys (by rw [hdl]; omega) (by omega) (by omega) rfl (by omega)
  rw [show i * 2 + 2 = (i + 1) * 2 from by omega, flat_take] at hlist
  rw [hlist] at hown3
  have HO3 := Lib.hid hown3
  have HGR2 := Lib.hid hgr2
  have HGR3 := Lib.hid hgr3
  have HLO := Lib.hid (h.lt g rfl).1
  have d1 : ((i : Int) == (n : Int)) = false := by rw [beq_eq_false_iff_ne]; omega
  have d2 : decide ((n : Int) + 1 > (cap : Int)) = false := decide_eq_false (by omega)
  have hcm2 : cap ≤ 9223372036854775807 := by
    obtain ⟨_, _, he, _, hcm, _⟩ := own_form h
    simp only [Value.slice.injEq, true_and] at he
    obtain ⟨_, rfl⟩ := he
    exact hcm
  have hne1 : ¬ cap = i := by omega
  have hne2 : ¬ cap = i + 1 := by omega
  have b1 : (0 : Int) ≤ (i : Int) := by omega
  have b2 : (i : Int) ≤ (n : Int) := by omega
  have b3 : (0 : Int) ≤ (i : Int) + 1 := by omega
  have b4 : (i : Int) + 1 ≤ (n : Int) + 1 := by omega
  clear h hb hn hlong hys hown2 hgr2 hb3 hown3 hgr3 hlist hl0 hdl hyl hi0 hz0 hz1 hz2
  go_enter Tryd.func89, Tryd.ntmps89
  go_wp2
  go_region
  go_wp2
  go_ret
  refine ⟨_, cap, rfl, ?_, ?_⟩
  · rw [flat_append, flat_append, wrt_flat1]; exact HO3.out
  · exact (Touch.drew.trans (Touch.grown HGR2.out (fun k hk => hk))).trans (Touch.grown HGR3.out (fun k hk => hk))
theorem insert_anyW (v0 : Value) (n i b base : Nat) (ls : List Wrt) (x : Wrt) (w : World) (h : w.ownsRow base 55 2 v0 n (flat Wrt.cell 2 ls)) (hn : n = ls.length) (h24 : n ≤ 24) (hi : i ≤ n) (hbase : base ≤ w.heap.size)
    (hgb : ∀ g cap, v0 = .slice (some ⟨g, 0, none⟩) n cap → g ≠ b) (hb : w.heap[b]? = some (.cells #[.int .i64 x.block, .string x.data] 55 (0, 0))) :
    Calls Tryd.prog 89 #[v0, .int .i64 i, .slice (some ⟨b, 0, none⟩) 1 1] w fun e w' =>
      ∃ A c, e = .returned (.slice A (n + 1) c) ∧ w'.ownsRow base 55 2 (.slice A (n + 1) c) (n + 1) (flat Wrt.cell 2 (ls.take i ++ [x] ++ ls.drop i)) ∧ Touch (fun k => v0.ownBlock = some k) w w' := by
  by_cases hin : i = n
  · subst hin
    refine (insert_lastW v0 i b base ls x w h hn h24 hbase hb).mono ?_
    rintro e w' ⟨A, c, he, ho, hbe⟩
    refine ⟨A, c, he, ?_, hbe⟩
    rw [List.take_of_length_le (by omega), List.drop_of_length_le (by omega), List.append_nil]
    exact ho
  · have hlt : i < n := by omega
    obtain ⟨g, cap, rfl, _, _⟩ := h.form (by omega)
    have hnc : n ≤ cap := by
      obtain ⟨_, _, he, hle, _⟩ := own_form h
      simp only [Value.slice.injEq] at he
      obtain ⟨_, _, rfl⟩ := he
      exact hle
    by_cases hc : cap < n + 1
    · exact insert_growW g n cap i b base ls x w h hn h24 hlt hc hnc hbase hb
    · exact insert_roomW g n cap i b base ls x w h hn h24 hlt (by omega) hbase (hgb g cap rfl) hb

end Go.Proofs.YtphbebcbbfbgpacDoor

namespace Go.Proofs.YtphbebcbbfbgpacDoor
open Go Go.RowKit

theorem infoWrites : (Tryd.prog.info? 53).map (fun i => (i.zero, i.size, i.bytes)) = some (some (.slice none 0 0), 1, 24) := by kernel_rfl

/-- Slices of the call's own, each of which holds the writes of a transaction. -/
def DealsIn (w : World) (base : Nat) (vs : List Value) (ds : List (List Wrt)) : Prop :=
  vs.length = ds.length ∧ ∀ i (h : i < ds.length), ∃ A c, vs[i]? = some (.slice A ds[i].length c) ∧ w.ownsRow base 55 2 (.slice A ds[i].length c) ds[i].length (flat Wrt.cell 2 ds[i])
theorem DealsIn.nil (w : World) (base : Nat) : DealsIn w base [] [] := ⟨rfl, fun i h => absurd h (by simp)⟩
theorem DealsIn.below {w w' : World} {base : Nat} {vs : List Value} {ds : List (List Wrt)} (h : DealsIn w base vs ds) (hb : Below w.heap.size w w') : DealsIn w' base vs ds :=
  ⟨h.1, fun i hi => by obtain ⟨A, c, e, ho⟩ := h.2 i hi; exact ⟨A, c, e, own_below ho hb⟩⟩
theorem DealsIn.mono {w : World} {base base' : Nat} {vs : List Value} {ds : List (List Wrt)} (h : DealsIn w base vs ds) (hb : base' ≤ base) : DealsIn w base' vs ds :=
  ⟨h.1, fun i hi => by obtain ⟨A, c, e, ho⟩ := h.2 i hi; exact ⟨A, c, e, own_mono ho hb⟩⟩
theorem DealsIn.grown {w w' : World} {base b2 n s2 : Nat} {T : TypeId} {v : Value} {xs : List Value} {vs : List Value} {ds : List (List Wrt)} (h : DealsIn w base vs ds) (ho : w.ownsRow b2 T s2 v n xs) (hT : 55 ≠ T) (hg : w.grownBy w' v.ownBlock) : DealsIn w' base vs ds :=
  ⟨h.1, fun i hi => by
    obtain ⟨A, c, e, hi'⟩ := h.2 i hi
    refine ⟨A, c, e, hi'.kept hg ?_⟩
    cases hb : (Value.slice A ds[i].length c).ownBlock with
    | none => exact .inl rfl
    | some g1 =>
      cases hb2 : v.ownBlock with
      | none => exact .inr (by simp)
      | some g2 => exact .inr (fun e => own_apart hi' ho hT g1 g2 hb hb2 (by simpa using e))⟩
theorem DealsIn.snoc {w : World} {base : Nat} {vs : List Value} {ds : List (List Wrt)} {ws : List Wrt} {A : Option Addr} {c : Nat} (h : DealsIn w base vs ds) (ho : w.ownsRow base 55 2 (.slice A ws.length c) ws.length (flat Wrt.cell 2 ws)) : DealsIn w base (vs ++ [.slice A ws.length c]) (ds ++ [ws]) := by
  refine ⟨by simp [h.1], fun i hi => ?_⟩
  by_cases hid : i < ds.length
  · obtain ⟨A', c', e, ho'⟩ := h.2 i hid
    have e1 : (ds ++ [ws])[i]'hi = ds[i] := List.getElem_append_left hid
    rw [e1]
    exact ⟨A', c', by rw [List.getElem?_append_left (by rw [h.1]; exact hid)]; exact e, ho'⟩
  · have hie : i = ds.length := by simp at hi; omega
    subst hie
    have e1 : (ds ++ [ws])[ds.length]'hi = ws := by simp
    rw [e1]
    exact ⟨A, c, by rw [← h.1]; simp, ho⟩

def ScanPost (w : World) (r : List (List Wrt) × Nat) (e : Ending) (w' : World) : Prop :=
  ∃ A c vs, e = .returned (.tuple #[.slice A r.1.length c, .int .i64 r.2]) ∧ w'.ownsRow w.heap.size 53 1 (.slice A r.1.length c) r.1.length vs ∧ DealsIn w' w.heap.size vs r.1 ∧ Below w.heap.size w w'
theorem ScanPost.mk' {w w' : World} {r : List (List Wrt) × Nat} {ds : List (List Wrt)} {n u : Nat} {v : Value} {vs : List Value} (h : r = (ds, u)) (hn : n = ds.length) (ho : w'.ownsRow w.heap.size 53 1 v n vs) (hd : DealsIn w' w.heap.size vs ds) (hb : Below w.heap.size w w') :
    ScanPost w r (.returned (.tuple #[v, .int .i64 u])) w' := by
  subst h hn
  obtain ⟨A, c, rfl, _⟩ := own_form ho
  exact ⟨A, c, vs, rfl, ho, hd, hb⟩

set_option maxRecDepth 20000 in
set_option maxHeartbeats 4000000 in
theorem scan_big (s : ByteArray) (b : Int) (w : World) (hs : s.size ≤ 140737488355328) (hc : (scanL s.data.toList b).1.length ≤ 5800000000000) :
    Calls Tryd.prog 91 #[.string s, .int .i64 b] w (ScanPost w (scanL s.data.toList b)) := by
  obtain ⟨i0, hi, hz0, hz1, hz2⟩ := info_parts infoWrites
  have HI := Lib.hid hi
  have HZ0 := Lib.hid hz0
  have HZ1 := Lib.hid hz1
  have HZ2 := Lib.hid hz2
  have HC := Lib.hid hc
  clear hi hz0 hz1 hz2 hc
  go_enter Tryd.func91, Tryd.ntmps91
  go_wp2
  go_loopw [6, 7] (fun v t wr => ∃ (u n : Nat) (ds : List (List Wrt)) (vs : List Value), u ≤ s.size ∧ n ≤ u ∧ t = .int .i64 u ∧ n = ds.length ∧ wr.ownsRow w.heap.size 53 1 v n vs ∧ Hid (DealsIn wr w.heap.size vs ds) ∧ Below w.heap.size w wr ∧ Hid (scanL s.data.toList b = (ds ++ (scanL (s.data.toList.drop u) b).1, u + (scanL (s.data.toList.drop u) b).2))) (fun _ t _ => s.size - (intOf t).toNat)
  case atStart => exact ⟨0, 0, [], [], Nat.zero_le _, Nat.zero_le _, rfl, rfl, World.ownsRow_nil _ _ _ _, Lib.hid (DealsIn.nil _ _), Below.refl _ _, Lib.hid (by simp)⟩
  case round =>
    obtain ⟨u, n, ds, vs, hus, hnu, rfl, hn, hown, hdl, hbel, hinv⟩ := hrel
    have hn58 : n ≤ 5800000000000 := by
      have h1 := HC.out
      rw [hinv.out] at h1
      simp only [List.length_append] at h1
      omega
    have HO := Lib.hid hown
    have HB := Lib.hid hbel
    have HN := Lib.hid hn
    have hTl : (s.extract u s.size).data.toList = s.data.toList.drop u := by
      rw [extract_list, List.take_of_length_le (by rw [List.length_drop, ← size_list]; exact Nat.le_refl _)]
    have hTs : (s.extract u s.size).size = s.size - u := by rw [size_list, hTl, List.length_drop, ← size_list]
    have hfi : ∀ W, Calls Tryd.prog 113 #[.string (s.extract u s.size), .int .i64 b] W (FirstPost W (firstL (s.data.toList.drop u) b)) := fun W => by
      rw [← hTl]; exact first_any _ b W (by omega)
    have hTs2 : (s.data.toList.drop u).length = s.size - u := by rw [← hTl, ← size_list]; exact hTs
    obtain ⟨r, hr⟩ : ∃ r, firstL (s.data.toList.drop u) b = r := ⟨_, rfl⟩
    rw [hr] at hfi
    have HFI := Lib.hid hfi
    have b1 : (0 : Int) ≤ (u : Int) := by omega
    have b2 : (u : Int) ≤ (s.size : Int) := by omega
    cases r with
    | none =>
      have hfin : scanL s.data.toList b = (ds, u) := by rw [hinv.out, scanL_none hr]; simp
      have HF := Lib.hid hfin
      clear hfin hown hbel hn hTl hTs hfi hTs2 hr
      go_wp2_with fail
      refine (HFI.out _).mono ?_
      rintro e w2 ⟨rfl, hb2⟩
      have HB2 := Lib.hid (HB.out.trans (hb2.mono HB.out.size))
      have HO2 := Lib.hid (own_below HO.out hb2)
      have HD2 := Lib.hid (hdl.out.below hb2)
      clear hb2
      go_wp2
      go_ret2
      exact ScanPost.mk' HF.out HN.out HO2.out HD2.out HB2.out
    | some x =>
      obtain ⟨ws, m⟩ := x
      have hpos := firstL_pos hr
      rw [hTs2] at hpos
      have hnew : scanL s.data.toList b = ((ds ++ [ws]) ++ (scanL (s.data.toList.drop (u + m)) b).1, (u + m) + (scanL (s.data.toList.drop (u + m)) b).2) := by
        rw [hinv.out, scanL_some hr, List.drop_drop]
        simp only [List.append_assoc, List.singleton_append, Prod.mk.injEq, true_and]
        omega
      have HNEW := Lib.hid hnew
      obtain ⟨hm7, hmu, hgw⟩ := hpos
      obtain ⟨k, hk⟩ : ∃ k, ws.length = k := ⟨_, rfl⟩
      have HK := Lib.hid hk
      have dm : ((m : Int) == 0) = false := by rw [beq_eq_false_iff_ne]; omega
      clear hnew hown hbel hn hTl hTs hfi hTs2 hr hgw hk
      go_wp2_with fail
      refine (HFI.out _).mono ?_
      rintro e w2 ⟨A2, c2, rfl, hown2, hb2⟩
      dsimp only at hown2 ⊢
      have hd2 := (hdl.out.below hb2)
      have HDS := Lib.hid (hd2.snoc (own_mono hown2 HB.out.size))
      rw [HK.out] at hown2 ⊢
      have HB2 := Lib.hid (HB.out.trans (hb2.mono HB.out.size))
      have HO2 := Lib.hid (own_below HO.out hb2)
      clear hb2 hd2 hown2
      go_wp2_with (at_builtin; refine wpList_append_own _ rfl (.tmp 22) (.tmp 24) 57 rfl w.heap.size 53 i0 _ 1 24 Tryd.underlying57 HI.out HZ0.out HZ1.out HZ2.out rfl (by decide) _ _ _ rfl (HO2.out.alloc _) ⟨w2.heap.size, 0, none⟩ 1 1 [.slice A2 k c2] rfl rfl (World.news_of_block (cs := #[.slice A2 k c2]) (t := 53) (fr := (0, 0)) (heap_alloc_new w2 _)) (by simp [Value.oneCell']) (by unfold maxLen; omega) (by omega) (by have := HB2.out.size; simp; omega) ?_; intro v' w3 hown3 hgr3 _)
      have HB3 := Lib.hid ((HB2.out.alloc HB2.out.size _).grown hgr3 (by have := HB2.out.size; simp; omega) (fun k hk => (HO.out.lt k hk).1))
      have hd3 := (HDS.out.below ((Below.refl _ _).alloc (Nat.le_refl _) (.cells #[.slice A2 k c2] 53))).grown (HO2.out.alloc _) (by decide) hgr3
      rw [HK.out] at hd3
      have HD3 := Lib.hid hd3
      have HO3 := Lib.hid hown3
      clear hgr3 hown3 hd3
      go_wp2
      go_roundw
      case rel => exact ⟨u + m, n + 1, _, _, by omega, by omega, by go_num, by rw [List.length_append, ← HN.out]; rfl, HO3.out, HD3, HB3.out, HNEW⟩
      case measure => simp [intOf]; omega
theorem scanF_len (b : Int) : ∀ (f : Nat) (s : Bs), (scanF f s b).1.length ≤ f
  | 0, _ => Nat.le_refl _
  | f + 1, s => by
    rw [scanF]
    cases h : firstL s b with
    | none => exact Nat.zero_le _
    | some x =>
      have := scanF_len b f (s.drop x.2)
      simp only [List.length_cons]; omega
theorem scan_any (s : ByteArray) (b : Int) (w : World) (hs : s.size ≤ 100000) :
    Calls Tryd.prog 91 #[.string s, .int .i64 b] w (ScanPost w (scanL s.data.toList b)) :=
  scan_big s b w (by omega) (by have := scanF_len b s.data.toList.length s.data.toList; rw [← size_list] at this; unfold scanL; rw [← size_list]; omega)
end Go.Proofs.YtphbebcbbfbgpacDoor

namespace Go.Proofs.YtphbebcbbfbgpacDoor
open Go Go.RowKit

/-- where the slices of an engine lie -/
structure SlotsE where
  A0 : Option Addr
  c0 : Nat
  A1 : Option Addr
  c1 : Nat
  A2 : Option Addr
  c2 : Nat
  A3 : Option Addr
  c3 : Nat
  A7 : Option Addr
  c7 : Nat
structure EngF (B g : Nat) (E : Eng) (S : SlotsE) (W : World) : Prop where
  k0 : W.cell? ⟨g, 0, none⟩ = some (.slice S.A0 E.v.1.length S.c0)
  k1 : W.cell? ⟨g, 1, none⟩ = some (.slice S.A1 E.v.2.length S.c1)
  k2 : W.cell? ⟨g, 2, none⟩ = some (.slice S.A2 E.base.1.length S.c2)
  k3 : W.cell? ⟨g, 3, none⟩ = some (.slice S.A3 E.base.2.length S.c3)
  k4 : W.cell? ⟨g, 4, none⟩ = some (.string (bstr E.log))
  k5 : W.cell? ⟨g, 5, none⟩ = some (.string (bstr E.pend))
  k6 : W.cell? ⟨g, 6, none⟩ = some (.bool E.opened)
  k7 : W.cell? ⟨g, 7, none⟩ = some (.slice S.A7 E.ws.length S.c7)
  fz : ∀ i, W.frozen? ⟨g, i, none⟩ = false
  tg : IsCells W g 88
  gb : B ≤ g
  gs : g < W.heap.size
  o0 : W.ownsRow B 42 3 (.slice S.A0 E.v.1.length S.c0) E.v.1.length (flat Itm.cell 3 E.v.1)
  o1 : W.ownsRow B 3 1 (.slice S.A1 E.v.2.length S.c1) E.v.2.length (flat intCell 1 E.v.2)
  o2 : W.ownsRow B 42 3 (.slice S.A2 E.base.1.length S.c2) E.base.1.length (flat Itm.cell 3 E.base.1)
  o3 : W.ownsRow B 3 1 (.slice S.A3 E.base.2.length S.c3) E.base.2.length (flat intCell 1 E.base.2)
  o7 : W.ownsRow B 55 2 (.slice S.A7 E.ws.length S.c7) E.ws.length (flat Wrt.cell 2 E.ws)
  n0 : ∀ r, (Value.slice S.A0 E.v.1.length S.c0).ownBlock = some r → r ≠ g
  n1 : ∀ r, (Value.slice S.A1 E.v.2.length S.c1).ownBlock = some r → r ≠ g
  n2 : ∀ r, (Value.slice S.A2 E.base.1.length S.c2).ownBlock = some r → r ≠ g
  n3 : ∀ r, (Value.slice S.A3 E.base.2.length S.c3).ownBlock = some r → r ≠ g
  n7 : ∀ r, (Value.slice S.A7 E.ws.length S.c7).ownBlock = some r → r ≠ g
/-- the blocks that an engine's call may change -/
def engR (g : Nat) (S : SlotsE) (k : Nat) : Prop := k = g ∨ (Value.slice S.A7 0 S.c7).ownBlock = some k
section
variable {B g : Nat} {E E' : Eng} {S S' : SlotsE} {W W' : World}
/-- other calls' blocks: all stands -/
theorem EngF.step (h : EngF B g E S W) (hb : Below W.heap.size W W') : EngF B g E S W' where
  k0 := (hb.cell h.gs).trans h.k0
  k1 := (hb.cell h.gs).trans h.k1
  k2 := (hb.cell h.gs).trans h.k2
  k3 := (hb.cell h.gs).trans h.k3
  k4 := (hb.cell h.gs).trans h.k4
  k5 := (hb.cell h.gs).trans h.k5
  k6 := (hb.cell h.gs).trans h.k6
  k7 := (hb.cell h.gs).trans h.k7
  fz := fun i => (hb.frozen h.gs).trans (h.fz i)
  tg := h.tg.below hb
  gb := h.gb
  gs := Nat.lt_of_lt_of_le h.gs hb.size
  o0 := own_below h.o0 hb
  o1 := own_below h.o1 hb
  o2 := own_below h.o2 hb
  o3 := own_below h.o3 hb
  o7 := own_below h.o7 hb
  n0 := h.n0
  n1 := h.n1
  n2 := h.n2
  n3 := h.n3
  n7 := h.n7
/-- the block itself was written: its cells, and rows that stand elsewhere -/
theorem EngF.set (h : EngF B g E S W) (hT : Touch (fun k => k = g) W W')
    (k0 : W'.cell? ⟨g, 0, none⟩ = some (.slice S'.A0 E'.v.1.length S'.c0)) (k1 : W'.cell? ⟨g, 1, none⟩ = some (.slice S'.A1 E'.v.2.length S'.c1))
    (k2 : W'.cell? ⟨g, 2, none⟩ = some (.slice S'.A2 E'.base.1.length S'.c2)) (k3 : W'.cell? ⟨g, 3, none⟩ = some (.slice S'.A3 E'.base.2.length S'.c3))
    (k4 : W'.cell? ⟨g, 4, none⟩ = some (.string (bstr E'.log))) (k5 : W'.cell? ⟨g, 5, none⟩ = some (.string (bstr E'.pend))) (k6 : W'.cell? ⟨g, 6, none⟩ = some (.bool E'.opened)) (k7 : W'.cell? ⟨g, 7, none⟩ = some (.slice S'.A7 E'.ws.length S'.c7))
    (fz : ∀ i, W'.frozen? ⟨g, i, none⟩ = W.frozen? ⟨g, i, none⟩) (tg : IsCells W' g 88)
    (o0 : W.ownsRow B 42 3 (.slice S'.A0 E'.v.1.length S'.c0) E'.v.1.length (flat Itm.cell 3 E'.v.1)) (o1 : W.ownsRow B 3 1 (.slice S'.A1 E'.v.2.length S'.c1) E'.v.2.length (flat intCell 1 E'.v.2))
    (o2 : W.ownsRow B 42 3 (.slice S'.A2 E'.base.1.length S'.c2) E'.base.1.length (flat Itm.cell 3 E'.base.1)) (o3 : W.ownsRow B 3 1 (.slice S'.A3 E'.base.2.length S'.c3) E'.base.2.length (flat intCell 1 E'.base.2))
    (o7 : W.ownsRow B 55 2 (.slice S'.A7 E'.ws.length S'.c7) E'.ws.length (flat Wrt.cell 2 E'.ws)) : EngF B g E' S' W' where
  k0 := k0
  k1 := k1
  k2 := k2
  k3 := k3
  k4 := k4
  k5 := k5
  k6 := k6
  k7 := k7
  fz := fun i => (fz i).trans (h.fz i)
  tg := tg
  gb := h.gb
  gs := Nat.lt_of_lt_of_le h.gs hT.size
  o0 := own_touch o0 hT (own_not o0 h.tg (by decide))
  o1 := own_touch o1 hT (own_not o1 h.tg (by decide))
  o2 := own_touch o2 hT (own_not o2 h.tg (by decide))
  o3 := own_touch o3 hT (own_not o3 h.tg (by decide))
  o7 := own_touch o7 hT (own_not o7 h.tg (by decide))
  n0 := own_not o0 h.tg (by decide)
  n1 := own_not o1 h.tg (by decide)
  n2 := own_not o2 h.tg (by decide)
  n3 := own_not o3 h.tg (by decide)
  n7 := own_not o7 h.tg (by decide)
theorem EngF.repV (h : EngF B g E S W) : Rep W W.heap.size 3 Itm.cell S.A0 E.v.1.length E.v.1 := Rep.of_own rfl h.o0 (Nat.le_refl _)
theorem EngF.repVB (h : EngF B g E S W) : Rep W W.heap.size 1 intCell S.A1 E.v.2.length E.v.2 := Rep.of_own rfl h.o1 (Nat.le_refl _)
theorem EngF.repB (h : EngF B g E S W) : Rep W W.heap.size 3 Itm.cell S.A2 E.base.1.length E.base.1 := Rep.of_own rfl h.o2 (Nat.le_refl _)
theorem EngF.repBB (h : EngF B g E S W) : Rep W W.heap.size 1 intCell S.A3 E.base.2.length E.base.2 := Rep.of_own rfl h.o3 (Nat.le_refl _)
theorem EngF.repW (h : EngF B g E S W) : Rep W W.heap.size 2 Wrt.cell S.A7 E.ws.length E.ws := Rep.of_own rfl h.o7 (Nat.le_refl _)
end
theorem own_nil {w : World} {base : Nat} {e : TypeId} {size n c : Nat} {A : Option Addr} {xs : List Value} (h : w.ownsRow base e size (.slice A n c) n xs) : n ≤ maxLen ∧ (A = none → n = 0 ∧ c = 0) := by
  obtain ⟨_, _, he, h1, h2, h3⟩ := own_form h
  simp only [Value.slice.injEq] at he
  obtain ⟨rfl, _, rfl⟩ := he
  exact ⟨by omega, h3⟩

/-- A method's answer, and the engine behind it. -/
def EngPost (B g : Nat) (E' : Eng) (S : SlotsE) (w : World) (v : Value) (e : Ending) (w' : World) : Prop := e = .returned v ∧ ∃ S', EngF B g E' S' w' ∧ Touch (engR g S) w w'

set_option maxHeartbeats 2000000 in
theorem find_any (B g : Nat) (E : Eng) (S : SlotsE) (b : Int) (w : World) (h : EngF B g E S w) (hG : GoodE E) (hb : i64Ok b) :
    Calls Tryd.prog 88 #[.pointer (some ⟨g, 0, none⟩), .int .i64 b] w fun e w' => FindPost E.ws b e ∧ Below w.heap.size w w' := by
  have hbb := hb.bounds
  have hn : E.ws.length ≤ 24 := by have := hG.ws.len; omega
  have hr : ∀ x ∈ E.ws, 0 ≤ x.block ∧ x.block < 1000 := fun x hx => by
    have h1 := hG.ws.lo x hx
    have h2 := hG.ws.hi x hx
    have h3 := hG.vol.hi
    omega
  have hs := search_anyW 107 (cmpW b) S.A7 E.ws.length S.c7 b E.ws w h.repW hn (enters_of Tryd.func107 rfl rfl) (fun x _ W' _ => find1_any x b W')
  have HS := Lib.hid hs
  have k7 := h.k7
  have HA := Lib.hid hG.ws.asc
  have HR := Lib.hid hr
  clear hs h hG hr hb hn
  go_enter Tryd.func88, Tryd.ntmps88
  go_wp2_with fail
  refine HS.out.mono ?_
  rintro e w1 ⟨he, hb1⟩
  have hp := find_of hbb.1 hbb.2 HA.out HR.out he
  obtain ⟨q, rfl, hq⟩ := hp
  have HQ := Lib.hid hq
  have HB := Lib.hid hb1
  clear he hq hb1
  go_wp2
  go_ret2
  exact ⟨⟨q, rfl, HQ.out⟩, HB.out⟩
end Go.Proofs.YtphbebcbbfbgpacDoor

namespace Go.Proofs.YtphbebcbbfbgpacDoor
open Go Go.RowKit

theorem wrt_flat_set (ws : List Wrt) (k : Nat) (hk : k < ws.length) (d : ByteArray) {b : Int} (hb : ws[k].block = b) : (flat Wrt.cell 2 ws).set (k * 2 + 1) (.string d) = flat Wrt.cell 2 (ws.set k ⟨b, d⟩) := by
  subst hb
  induction ws generalizing k with
  | nil => simp at hk
  | cons x ws ih =>
    cases k with
    | zero => rfl
    | succ k =>
      have hk' : k < ws.length := by simpa using hk
      have := ih k hk'
      rw [List.set_cons_succ, flat_cons, flat_cons, List.getElem_cons_succ, ← this, List.set_append]
      rw [if_neg (by rw [List.length_map, List.length_range]; omega), List.length_map, List.length_range, show (k + 1) * 2 + 1 - 2 = k * 2 + 1 from by omega]
theorem putW_there {ws : List Wrt} {b : Int} {d : ByteArray} (h : thereB ws b = true) : putW ws b d = ws.set (lowIx ws b) ⟨b, d⟩ := by
  obtain ⟨hl, he⟩ := there_mem h
  rw [putW, if_pos h, List.set_eq_take_append_cons_drop, if_pos hl, List.append_assoc]
  rfl
theorem lowIx_le (ws : List Wrt) (b : Int) : lowIx ws b ≤ ws.length := by
  unfold lowIx
  exact (List.takeWhile_sublist _).length_le

theorem EngF.wsSet {B g : Nat} {E : Eng} {S : SlotsE} {W W' : World} {us : List Wrt} (h : EngF B g E S W) (hT : Touch (fun k => (Value.slice S.A7 0 S.c7).ownBlock = some k) W W') (hl : us.length = E.ws.length)
    (ho : W'.ownsRow B 55 2 (.slice S.A7 us.length S.c7) us.length (flat Wrt.cell 2 us)) : EngF B g { E with ws := us } S W' := by
  have hng : ¬ (Value.slice S.A7 0 S.c7).ownBlock = some g := fun e => h.n7 g ((ownBlock_len _ _ _ _ _).trans e) rfl
  have ap : ∀ {b2 s2 n2 : Nat} {T : TypeId} {v : Value} {xs : List Value}, W.ownsRow b2 T s2 v n2 xs → T ≠ 55 → ∀ r, v.ownBlock = some r → ¬ (Value.slice S.A7 0 S.c7).ownBlock = some r := fun ho' hT' r h1 h2 =>
    own_apart ho' h.o7 hT' r r h1 ((ownBlock_len _ _ _ _ _).trans h2) rfl
  exact {
    k0 := (hT.cell h.gs hng).trans h.k0
    k1 := (hT.cell h.gs hng).trans h.k1
    k2 := (hT.cell h.gs hng).trans h.k2
    k3 := (hT.cell h.gs hng).trans h.k3
    k4 := (hT.cell h.gs hng).trans h.k4
    k5 := (hT.cell h.gs hng).trans h.k5
    k6 := (hT.cell h.gs hng).trans h.k6
    k7 := ((hT.cell h.gs hng).trans h.k7).trans (by rw [hl])
    fz := fun i => (hT.frozen h.gs hng).trans (h.fz i)
    tg := h.tg.touch hT hng
    gb := h.gb
    gs := Nat.lt_of_lt_of_le h.gs hT.size
    o0 := own_touch h.o0 hT (ap h.o0 (by decide))
    o1 := own_touch h.o1 hT (ap h.o1 (by decide))
    o2 := own_touch h.o2 hT (ap h.o2 (by decide))
    o3 := own_touch h.o3 hT (ap h.o3 (by decide))
    o7 := ho
    n0 := h.n0
    n1 := h.n1
    n2 := h.n2
    n3 := h.n3
    n7 := fun r hr => h.n7 r ((ownBlock_len _ _ _ _ _).trans hr) }
theorem EngF.wsNew {B g : Nat} {E : Eng} {S : SlotsE} {W W' : World} {us : List Wrt} {A : Option Addr} {c : Nat} (h : EngF B g E S W) (hT : Touch (fun k => (Value.slice S.A7 0 S.c7).ownBlock = some k) W W')
    (ho : W'.ownsRow B 55 2 (.slice A us.length c) us.length (flat Wrt.cell 2 us)) (hn : ∀ r, (Value.slice A us.length c).ownBlock = some r → r ≠ g) :
    EngF B g { E with ws := us } { S with A7 := A, c7 := c } (W'.setCell ⟨g, 7, none⟩ (.slice A us.length c)) := by
  have hng : ¬ (Value.slice S.A7 0 S.c7).ownBlock = some g := fun e => h.n7 g ((ownBlock_len _ _ _ _ _).trans e) rfl
  have ap : ∀ {b2 s2 n2 : Nat} {T : TypeId} {v : Value} {xs : List Value}, W.ownsRow b2 T s2 v n2 xs → T ≠ 55 → ∀ r, v.ownBlock = some r → ¬ (Value.slice S.A7 0 S.c7).ownBlock = some r := fun ho' hT' r h1 h2 =>
    own_apart ho' h.o7 hT' r r h1 ((ownBlock_len _ _ _ _ _).trans h2) rfl
  have hS : Touch (fun k => k = g) W' (W'.setCell ⟨g, 7, none⟩ (.slice A us.length c)) := Touch.setCell (R := fun k => k = g) ⟨g, 7, none⟩ rfl _
  have k7 : W'.cell? ⟨g, 7, none⟩ = some (.slice S.A7 E.ws.length S.c7) := (hT.cell h.gs hng).trans h.k7
  have oth : ∀ i, i ≠ 7 → (W'.setCell ⟨g, 7, none⟩ (.slice A us.length c)).cell? ⟨g, i, none⟩ = W.cell? ⟨g, i, none⟩ := fun i hi =>
    (World.cell?_setCell_other _ _ _ _ (by intro e; cases e; exact hi rfl)).trans (hT.cell h.gs hng)
  exact {
    k0 := (oth 0 (by omega)).trans h.k0
    k1 := (oth 1 (by omega)).trans h.k1
    k2 := (oth 2 (by omega)).trans h.k2
    k3 := (oth 3 (by omega)).trans h.k3
    k4 := (oth 4 (by omega)).trans h.k4
    k5 := (oth 5 (by omega)).trans h.k5
    k6 := (oth 6 (by omega)).trans h.k6
    k7 := World.cell?_setCell_same _ _ _ k7
    fz := fun i => (World.frozen?_setCell _ _ _ _).trans ((hT.frozen h.gs hng).trans (h.fz i))
    tg := (h.tg.touch hT hng).setCell _ _
    gb := h.gb
    gs := Nat.lt_of_lt_of_le h.gs (Nat.le_trans hT.size hS.size)
    o0 := own_touch (own_touch h.o0 hT (ap h.o0 (by decide))) hS h.n0
    o1 := own_touch (own_touch h.o1 hT (ap h.o1 (by decide))) hS h.n1
    o2 := own_touch (own_touch h.o2 hT (ap h.o2 (by decide))) hS h.n2
    o3 := own_touch (own_touch h.o3 hT (ap h.o3 (by decide))) hS h.n3
    o7 := own_touch ho hS hn
    n0 := h.n0
    n1 := h.n1
    n2 := h.n2
    n3 := h.n3
    n7 := hn }

set_option maxRecDepth 100000 in
set_option maxHeartbeats 4000000 in
theorem put_any (B g : Nat) (E : Eng) (S : SlotsE) (b : Int) (d : ByteArray) (w : World) (h : EngF B g E S w) (hG : GoodE E) (hb : i64Ok b) (hd : d.size ≤ maxLen) :
    Calls Tryd.prog 71 #[.pointer (some ⟨g, 0, none⟩), .int .i64 b, .string d] w (EngPost B g (putE E b d).1 S w (.int .i64 (putE E b d).2)) := by
  obtain ⟨A0, c0, A1, c1, A2, c2, A3, c3, A7, c7⟩ := S
  have hf := find_any B g E _ b w h hG hb
  have HF := Lib.hid hf
  have H := Lib.hid h
  have HG := Lib.hid hG
  have k1 := h.k1
  have k6 := h.k6
  have k7 := h.k7
  dsimp only at k1 k7
  have hd0 : d.size ≤ 9223372036854775807 := hd
  have hm32 : E.v.2.length ≤ 32 := hG.vol.hi
  obtain ⟨m, hm⟩ : ∃ m, E.v.2.length = m := ⟨_, rfl⟩
  obtain ⟨n, hn⟩ : ∃ n, E.ws.length = n := ⟨_, rfl⟩
  have hn12 : n ≤ 12 := by rw [← hn]; exact hG.ws.len
  rw [hm] at k1 hm32
  rw [hn] at k7
  have HM := Lib.hid hm
  have HN := Lib.hid hn
  clear hf h hm hn hd hG
  cases ho : E.opened with
  | false =>
    have e : putE E b d = (E, 7) := by rw [putE, ho]; rfl
    rw [ho] at k6
    rw [e]
    clear e ho
    go_enter Tryd.func71, Tryd.ntmps71
    go_wp2
    go_ret
    exact ⟨rfl, _, H.out, Touch.refl _ _⟩
  | true =>
    rw [ho] at k6
    by_cases hr : 0 ≤ b ∧ b < (m : Int)
    · obtain ⟨hr0, hr1⟩ := hr
      have d1 : decide (b < 0) = false := decide_eq_false (by omega)
      have d2 : decide (b ≥ (m : Int)) = false := decide_eq_false (by omega)
      by_cases h48 : d.size ≤ 48
      · have d3 : decide ((d.size : Int) > 48) = false := decide_eq_false (by omega)
        have hE : putE E b d = if thereB E.ws b = true ∨ E.ws.length ≠ 12 then ({ E with ws := putW E.ws b d }, 0) else (E, 1) := by
          have hr' : 0 ≤ b ∧ b < (E.v.2.length : Int) := by rw [HM.out]; exact ⟨hr0, hr1⟩
          rw [putE, if_pos ho, if_pos hr', if_pos h48]
        cases ht : thereB E.ws b with
        | true =>
          have e : putE E b d = ({ E with ws := putW E.ws b d }, 0) := by rw [hE, if_pos (.inl ht)]
          have hput := putW_there (d := d) ht
          obtain ⟨hl, hle⟩ := there_mem ht
          have HPUT := Lib.hid hput
          rw [e]
          obtain ⟨q, hq⟩ : ∃ q, lowIx E.ws b = q := ⟨_, rfl⟩
          have hqn : q < n := by rw [← hq, ← HN.out]; exact hl
          have hqb : (E.ws[q]'(by rw [HN.out]; exact hqn)).block = b := by subst hq; exact hle
          have HQB := Lib.hid hqb
          have HQ := Lib.hid hq
          have HT := Lib.hid ht
          clear hE e hput hle hqb ht hq ho hl
          go_enter Tryd.func71, Tryd.ntmps71
          go_wp2_with fail
          refine HF.out.mono ?_
          rintro e w1 ⟨⟨q', rfl, hq'⟩, hb1⟩
          obtain rfl : q' = q := (hq' hr0 (by omega)).trans HQ.out
          rw [HT.out]
          have h1 := H.out.step hb1
          have H1 := Lib.hid h1
          have k7' := h1.k7
          rw [HN.out] at k7'
          have ho7 := h1.o7
          obtain ⟨r, cap, hA, _, _⟩ := h1.o7.form (by have := HN.out; omega)
          simp only [Value.slice.injEq] at hA
          obtain ⟨rfl, _, rfl⟩ := hA
          dsimp only at k7' ho7
          obtain ⟨y, x1⟩ : ∃ y, w1.cell? ⟨r, q' * 2 + 1, none⟩ = some (.string y) := by
            obtain ⟨_, x0, x1⟩ := writes_of (k := q') (Rep.of_own rfl ho7 (Nat.le_refl _)) (by rw [HN.out]; exact hqn)
            rw [Nat.zero_add] at x1
            exact ⟨_, x1⟩
          have z1 := ho7.frozenAt (q' * 2 + 1)
          have hst := ho7.stored (q' * 2 + 1) (.string d)
          rw [wrt_flat_set _ _ (by rw [HN.out]; exact hqn) d HQB.out] at hst
          have HST := Lib.hid hst
          clear h1 hq' ho7 hst k1 k6
          go_wp2
          go_ret
          have hfin := HPUT.out
          simp only [HQ.out] at hfin
          refine ⟨rfl, ⟨A0, c0, A1, c1, A2, c2, A3, c3, some ⟨r, 0, none⟩, c7⟩, ?_, ?_⟩
          · rw [hfin]
            exact H1.out.wsSet (Touch.grown HST.out.2 (fun k hk => hk)) (by rw [List.length_set]) (by rw [List.length_set]; exact HST.out.1)
          · exact (Touch.below hb1).trans (Touch.grown HST.out.2 (fun k hk => .inr hk))
        | false =>
          by_cases h12 : n = 12
          · have e : putE E b d = (E, 1) := by rw [hE, ht, if_neg (by rw [HN.out]; simp [h12])]
            rw [e]
            have HT := Lib.hid ht
            subst h12
            clear hE e ht ho
            go_enter Tryd.func71, Tryd.ntmps71
            go_wp2_with fail
            refine HF.out.mono ?_
            rintro e w1 ⟨⟨q', rfl, hq'⟩, hb1⟩
            rw [HT.out]
            have H1 := Lib.hid (H.out.step hb1)
            have k7' := H1.out.k7
            rw [HN.out] at k7'
            have HB1 := Lib.hid hb1
            clear hq' k1 k6 k7 hb1
            go_wp2
            go_ret
            exact ⟨rfl, _, H1.out, Touch.below HB1.out⟩
          · have e : putE E b d = ({ E with ws := putW E.ws b d }, 0) := by rw [hE, if_pos (.inr (by rw [HN.out]; exact h12))]
            rw [e]
            have hpl : (putW E.ws b d).length = n + 1 := by rw [(putW_asc (b := b) (d := d) HG.out.ws.asc).2.2, ht, HN.out]; rfl
            have hpe : putW E.ws b d = E.ws.take (lowIx E.ws b) ++ [⟨b, d⟩] ++ E.ws.drop (lowIx E.ws b) := by rw [putW, ht]; rfl
            obtain ⟨q, hq⟩ : ∃ q, lowIx E.ws b = q := ⟨_, rfl⟩
            have hqn : q ≤ n := by rw [← hq, ← HN.out]; exact lowIx_le _ _
            rw [hq] at hpe
            have d12 : ((n : Int) == 12) = false := by rw [beq_eq_false_iff_ne]; omega
            have HQ := Lib.hid hq
            have HT := Lib.hid ht
            have HPL := Lib.hid hpl
            have HPE := Lib.hid hpe
            clear hE e ht ho hq hpl hpe h12
            go_enter Tryd.func71, Tryd.ntmps71
            go_wp2_with fail
            refine HF.out.mono ?_
            rintro e w1 ⟨⟨q', rfl, hq'⟩, hb1⟩
            obtain rfl : q' = q := (hq' hr0 (by omega)).trans HQ.out
            rw [HT.out]
            have h1 := H.out.step hb1
            have H1 := Lib.hid (h1.step ((Below.refl _ _).alloc (Nat.le_refl _) (.cells #[.int .i64 b, .string d] 55)))
            have k7' := h1.k7
            have ho7 := h1.o7.alloc (.cells #[.int .i64 b, .string d] 55)
            rw [HN.out] at k7' ho7
            have hne : ∀ g' cap, (Value.slice A7 n c7) = .slice (some ⟨g', 0, none⟩) n cap → g' ≠ w1.heap.size := fun g' cap e1 => by
              have := (h1.o7.lt g' (by rw [HN.out, e1]; rfl)).2
              omega
            have hins := insert_anyW (.slice A7 n c7) n q' w1.heap.size B E.ws ⟨b, d⟩ (w1.alloc (.cells #[.int .i64 b, .string d] 55)) ho7 HN.out.symm (by omega) hqn (by have := h1.gb; have := h1.gs; simp; omega) hne (heap_alloc_new w1 _)
            rw [← HPE.out] at hins
            have HINS := Lib.hid hins
            have HB1 := Lib.hid hb1
            clear h1 hq' ho7 hins hne k1 k6 k7 hb1
            go_wp2_with fail
            refine HINS.out.mono ?_
            rintro e w2 ⟨A4, c4, rfl, hown, ht2⟩
            have k7'' : ∃ v, w2.cell? ⟨g, 7, none⟩ = some v := ⟨_, (ht2.cell H1.out.gs (fun e => H1.out.n7 g ((ownBlock_len _ _ _ _ _).trans e) rfl)).trans H1.out.k7⟩
            obtain ⟨v7, k7''⟩ := k7''
            have z7 : w2.frozen? ⟨g, 7, none⟩ = false := (ht2.frozen H1.out.gs (fun e => H1.out.n7 g ((ownBlock_len _ _ _ _ _).trans e) rfl)).trans (H1.out.fz 7)
            have HO := Lib.hid hown
            have HT2 := Lib.hid ht2
            clear hown ht2 k7'
            go_wp2
            go_ret
            have ht7 : Touch (fun k => (Value.slice A7 0 c7).ownBlock = some k) (w1.alloc (.cells #[.int .i64 b, .string d] 55)) w2 := HT2.out.mono (fun k _ hk => (ownBlock_len _ _ _ _ _).trans hk)
            have hng := own_not HO.out (H1.out.tg.touch ht7 (fun e => H1.out.n7 g ((ownBlock_len _ _ _ _ _).trans e) rfl)) (by decide)
            refine ⟨rfl, ⟨A0, c0, A1, c1, A2, c2, A3, c3, A4, c4⟩, ?_, ?_⟩
            · have := H1.out.wsNew (us := putW E.ws b d) (A := A4) (c := c4) ht7 (by rw [HPL.out]; exact HO.out) (by rw [HPL.out]; exact hng)
              rw [HPL.out] at this
              exact this
            · refine ((Touch.below (HB1.out.alloc HB1.out.size _)).trans (ht7.mono (fun k _ hk => .inr hk))).trans (Touch.setCell _ (.inl rfl) _)
      · have d3 : decide ((d.size : Int) > 48) = true := decide_eq_true (by omega)
        have e : putE E b d = (E, 1) := by
          have hr' : 0 ≤ b ∧ b < (E.v.2.length : Int) := by rw [HM.out]; exact ⟨hr0, hr1⟩
          rw [putE, if_pos ho, if_pos hr', if_neg h48]
        rw [e]
        clear e ho
        go_enter Tryd.func71, Tryd.ntmps71
        go_wp2
        go_ret
        exact ⟨rfl, _, H.out, Touch.refl _ _⟩
    · have e : putE E b d = (E, 6) := by
        have hr' : ¬ (0 ≤ b ∧ b < (E.v.2.length : Int)) := by rw [HM.out]; exact hr
        rw [putE, if_pos ho, if_neg hr']
      rw [e]
      by_cases hb0 : b < 0
      · have d1 : decide (b < 0) = true := decide_eq_true hb0
        clear e ho hr
        go_enter Tryd.func71, Tryd.ntmps71
        go_wp2
        go_ret
        exact ⟨rfl, _, H.out, Touch.refl _ _⟩
      · have d1 : decide (b < 0) = false := decide_eq_false hb0
        have d2 : decide (b ≥ (m : Int)) = true := decide_eq_true (by omega)
        clear e ho hr
        go_enter Tryd.func71, Tryd.ntmps71
        go_wp2
        go_ret
        exact ⟨rfl, _, H.out, Touch.refl _ _⟩
end Go.Proofs.YtphbebcbbfbgpacDoor

namespace Go.Proofs.YtphbebcbbfbgpacDoor
open Go Go.RowKit

set_option maxRecDepth 100000 in
set_option maxHeartbeats 4000000 in
theorem engRead_any (B g : Nat) (E : Eng) (S : SlotsE) (b : Int) (w : World) (h : EngF B g E S w) (hG : GoodE E) (hb : i64Ok b) :
    Calls Tryd.prog 72 #[.pointer (some ⟨g, 0, none⟩), .int .i64 b] w (EngPost B g E S w (.tuple #[.string (readE E b).1, .int .i64 (readE E b).2])) := by
  obtain ⟨A0, c0, A1, c1, A2, c2, A3, c3, A7, c7⟩ := S
  have hf := find_any B g E _ b w h hG hb
  have HF := Lib.hid hf
  have H := Lib.hid h
  have HG := Lib.hid hG
  obtain ⟨n, hn⟩ : ∃ n, E.ws.length = n := ⟨_, rfl⟩
  have hn12 : n ≤ 12 := by rw [← hn]; exact hG.ws.len
  have HN := Lib.hid hn
  clear hf h hn hG
  cases ht : thereB E.ws b with
  | true =>
    obtain ⟨hl, hle⟩ := there_mem ht
    have hrg : 0 ≤ b ∧ b ≤ 1000 := by
      have h0 := HG.out.ws.lo _ (List.getElem_mem hl)
      have h1 := HG.out.ws.hi _ (List.getElem_mem hl)
      have := HG.out.vol.hi
      omega
    have e : readE E b = ((E.ws[lowIx E.ws b]'hl).data, 0) := by
      rw [readE, if_pos ht, List.getD_eq_getElem?_getD, List.getElem?_eq_getElem hl]; rfl
    obtain ⟨q, hq⟩ : ∃ q, lowIx E.ws b = q := ⟨_, rfl⟩
    have hqn : q < n := by rw [← hq, ← HN.out]; exact hl
    obtain ⟨y, hy⟩ : ∃ y, (E.ws[lowIx E.ws b]'hl).data = y := ⟨_, rfl⟩
    have hy2 : (E.ws[q]'(by rw [HN.out]; exact hqn)).data = y := by subst hq; exact hy
    rw [e, hy]
    have HY := Lib.hid hy2
    have HQ := Lib.hid hq
    have HT := Lib.hid ht
    clear e hle ht hq hl hy hy2
    go_enter Tryd.func72, Tryd.ntmps72
    go_wp2_with fail
    refine HF.out.mono ?_
    rintro e w1 ⟨⟨q', rfl, hq'⟩, hb1⟩
    obtain rfl : q' = q := (hq' hrg.1 hrg.2).trans HQ.out
    rw [HT.out]
    have h1 := H.out.step hb1
    have H1 := Lib.hid h1
    have k7' := h1.k7
    rw [HN.out] at k7'
    obtain ⟨r, cap, hA, _, _⟩ := h1.o7.form (by have := HN.out; omega)
    simp only [Value.slice.injEq] at hA
    obtain ⟨rfl, _, rfl⟩ := hA
    dsimp only at k7'
    have x1 : w1.cell? ⟨r, q' * 2 + 1, none⟩ = some (.string y) := by
      obtain ⟨_, x0, x1⟩ := writes_of (k := q') h1.repW (by rw [HN.out]; exact hqn)
      rw [Nat.zero_add] at x1
      rw [x1, HY.out]
    have HB1 := Lib.hid hb1
    clear h1 hq' hb1
    go_wp2
    go_ret2
    exact ⟨rfl, _, H1.out, Touch.below HB1.out⟩
  | false =>
    have e : readE E b = readR E.v.1 E.v.2 b := by rw [readE, ht]; rfl
    rw [e]
    have HT := Lib.hid ht
    clear e ht
    have hok : ∀ x ∈ E.v.2, i64Ok x := fun x hx => by
      have h1 := HG.out.vol.ge x hx
      have h2 : x ≤ 1000 := by
        by_cases h0 : 0 ≤ x
        · obtain ⟨y, hy, rfl⟩ := HG.out.vol.ids x hx h0
          have := (HG.out.vol.good.2.ok y hy).2.1
          omega
        · omega
      simp [i64Ok, Lit.wf, IntKind.min, IntKind.max, IntKind.signed, IntKind.bits]; omega
    have HOK := Lib.hid hok
    clear hok
    go_enter Tryd.func72, Tryd.ntmps72
    go_wp2_with fail
    refine HF.out.mono ?_
    rintro e w1 ⟨⟨q', rfl, hq'⟩, hb1⟩
    rw [HT.out]
    have h1 := H.out.step hb1
    have H1 := Lib.hid h1
    have HB1 := Lib.hid hb1
    have hrd := volRead_any A0 A1 E.v.1.length c0 E.v.2.length c1 b E.v.1 E.v.2 w1 h1.repV h1.repVB (own_nil h1.o0).1 (own_nil h1.o1).1 HOK.out
    have HRD := Lib.hid hrd
    have k0' := h1.k0
    have k1' := h1.k1
    dsimp only at k0' k1'
    clear h1 hq' hrd hb1
    go_wp2_with fail
    refine HRD.out.mono ?_
    rintro e w2 ⟨he, hb2⟩
    rw [ReadPost] at he
    subst he
    have HB2 := Lib.hid hb2
    have H2 := Lib.hid (H1.out.step hb2)
    clear hb2
    go_wp2
    go_ret2
    exact ⟨rfl, _, H2.out, (Touch.below HB1.out).trans (Touch.below HB2.out)⟩
end Go.Proofs.YtphbebcbbfbgpacDoor

namespace Go.Proofs.YtphbebcbbfbgpacDoor
open Go Go.RowKit

/-- the transaction ends -/
theorem EngF.closed {B g : Nat} {E : Eng} {A0 A1 A2 A3 A7 : Option Addr} {c0 c1 c2 c3 c7 : Nat} {w : World} (h : EngF B g E ⟨A0, c0, A1, c1, A2, c2, A3, c3, A7, c7⟩ w) :
    EngF B g { E with opened := false, ws := [] } ⟨A0, c0, A1, c1, A2, c2, A3, c3, none, 0⟩ ((w.setCell ⟨g, 6, none⟩ (.bool false)).setCell ⟨g, 7, none⟩ (.slice none 0 0)) := by
  obtain ⟨k0, k1, k2, k3, k4, k5, k6, k7, fz, tg, gb, gs, o0, o1, o2, o3, o7, n0, n1, n2, n3, n7⟩ := h
  dsimp only at k0 k1 k2 k3 k4 k5 k6 k7
  have h : EngF B g E ⟨A0, c0, A1, c1, A2, c2, A3, c3, A7, c7⟩ w := ⟨k0, k1, k2, k3, k4, k5, k6, k7, fz, tg, gb, gs, o0, o1, o2, o3, o7, n0, n1, n2, n3, n7⟩
  refine h.set ((Touch.setCell (R := fun k => k = g) ⟨g, 6, none⟩ rfl _).trans (Touch.setCell (R := fun k => k = g) ⟨g, 7, none⟩ rfl _)) ?_ ?_ ?_ ?_ ?_ ?_ ?_ ?_ ?_ ?_ o0 o1 o2 o3 (World.ownsRow_nil _ _ _ _)
  all_goals first
    | exact (tg.setCell _ _).setCell _ _
    | (intro i; simp)
    | simp [go_sem, k0, k1, k2, k3, k4, k5, k6, k7]

set_option maxRecDepth 100000 in
set_option maxHeartbeats 4000000 in
theorem commit_any (B g : Nat) (E : Eng) (S : SlotsE) (w : World) (h : EngF B g E S w) (hG : GoodE E) :
    Calls Tryd.prog 73 #[.pointer (some ⟨g, 0, none⟩)] w (EngPost B g (commitE E).1 S w (.int .i64 (commitE E).2)) := by
  obtain ⟨A0, c0, A1, c1, A2, c2, A3, c3, A7, c7⟩ := S
  have H := Lib.hid h
  have HG := Lib.hid hG
  have k6 := h.k6
  cases ho : E.opened with
  | false =>
    have e : commitE E = (E, 7) := by rw [commitE, ho]; rfl
    rw [ho] at k6
    rw [e]
    clear e ho h hG
    go_enter Tryd.func73, Tryd.ntmps73
    go_wp2
    go_ret
    exact ⟨rfl, _, H.out, Touch.refl _ _⟩
  | true =>
    rw [ho] at k6
    have k7 := h.k7
    dsimp only at k7
    have z6 := h.fz 6
    have z7 := h.fz 7
    have HC := Lib.hid h.closed
    have hok : ∀ x ∈ E.v.2, i64Ok x := fun x hx => by
      have h1 := hG.vol.ge x hx
      have h2 : x ≤ 1000 := by
        by_cases h0 : 0 ≤ x
        · obtain ⟨y, hy, rfl⟩ := hG.vol.ids x hx h0
          have := (hG.vol.good.2.ok y hy).2.1
          omega
        · omega
      simp [i64Ok, Lit.wf, IntKind.min, IntKind.max, IntKind.signed, IntKind.bits]; omega
    have hTc : Touch (fun k => k = g) w ((w.setCell ⟨g, 6, none⟩ (.bool false)).setCell ⟨g, 7, none⟩ (.slice none 0 0)) := (Touch.setCell (R := fun k => k = g) ⟨g, 6, none⟩ rfl _).trans (Touch.setCell (R := fun k => k = g) ⟨g, 7, none⟩ rfl _)
    have ho7 := own_touch h.o7 hTc h.n7
    have hap := apply_any A0 A1 A7 E.v.1.length c0 E.v.2.length c1 E.ws.length c7 E.v.1 E.v.2 E.ws _ HC.out.repV HC.out.repVB (Rep.of_own rfl ho7 (Nat.le_refl _)) (own_nil HC.out.o0).2 (own_nil HC.out.o1).2 (own_nil HC.out.o0).1 (own_nil HC.out.o1).1 (own_nil ho7).1 hok
    have HO7 := Lib.hid ho7
    have HTC := Lib.hid hTc
    have k0' := HC.out.k0
    have k1' := HC.out.k1
    dsimp only at k0' k1'
    obtain ⟨r, hr⟩ : ∃ r, appliedR E.v.1 E.v.2 E.ws = r := ⟨_, rfl⟩
    rw [hr] at hap
    have HR := Lib.hid hr
    have HAP := Lib.hid hap
    obtain ⟨n, hn⟩ : ∃ n, E.ws.length = n := ⟨_, rfl⟩
    obtain ⟨m, hm⟩ : ∃ m, E.v.2.length = m := ⟨_, rfl⟩
    obtain ⟨l, hl⟩ : ∃ l, E.v.1.length = l := ⟨_, rfl⟩
    have hm32 : m ≤ 32 := by rw [← hm]; exact hG.vol.hi
    rw [hn] at k7
    have HN := Lib.hid hn
    have HM := Lib.hid hm
    have HL := Lib.hid hl
    rw [hl] at k0'
    rw [hm] at k1'
    rw [hn, hm, hl] at HAP
    have hO := Lib.hid ho
    clear h hG hok hTc ho7 hap hr hn hm hl ho
    obtain ⟨us, cs, e⟩ := r
    obtain ⟨u, hu⟩ : ∃ u, us.length = u := ⟨_, rfl⟩
    obtain ⟨v, hv⟩ : ∃ v, cs.length = v := ⟨_, rfl⟩
    have HU := Lib.hid hu
    have HV := Lib.hid hv
    clear hu hv
    by_cases he : e = 0
    · subst he
      have hgd := applied_good' (v := E.v) (ws := E.ws) (by rw [HR.out])
      have WK := Lib.hid (show writesK E.ws m = 0 by rw [← HM.out]; exact writesK_zero.2 hgd.2.1)
      obtain ⟨R, hRd⟩ : ∃ R, bstr (recL E.ws) = R := ⟨_, rfl⟩
      have RR := Lib.hid (show recR E.ws m = R by rw [recR, if_pos WK.out, hRd])
      obtain ⟨L, hL⟩ : ∃ L, bstr E.log = L := ⟨_, rfl⟩
      obtain ⟨D, hD⟩ : ∃ D, bstr E.pend = D := ⟨_, rfl⟩
      have hLs : L.size = E.log.length := by rw [← hL, bstr_size]
      have hDs : D.size = E.pend.length := by rw [← hD, bstr_size]
      have hRs : R.size = (recL E.ws).length := by rw [← hRd, bstr_size]
      have hlg := HG.out.log
      have hLD : L.size + D.size ≤ 4000 := by omega
      have hR620 : R.size ≤ 620 := by rw [hRs]; exact recL_le hgd.2.1
      have HLG := Lib.hid hL
      have HPD := Lib.hid hD
      have HRD := Lib.hid hRd
      have HREP7 := Lib.hid (Rep.of_own HN.out.symm (by have := HO7.out; rwa [HN.out] at this) (Nat.le_refl _))
      have HN7 := Lib.hid (show n ≤ maxLen by have := HG.out.ws.len; have := HN.out; unfold maxLen; omega)
      by_cases h4 : L.size + D.size + R.size ≤ 4000
      · have hE : commitE E = ({ E with v := (us, cs), pend := E.pend ++ recL E.ws, opened := false, ws := [] }, 0) := by
          rw [commitE, if_pos hO.out, HR.out]
          simp only [if_true]
          rw [if_pos (by omega)]
        rw [hE]
        have d4 : decide ((L.size : Int) + (D.size : Int) + (R.size : Int) > 4000) = false := decide_eq_false (by omega)
        have hfinD : D ++ R = bstr (E.pend ++ recL E.ws) := by rw [← HPD.out, ← HRD.out, bstr_append]
        have HFD := Lib.hid hfinD
        clear hE hgd hRd hL hD hLs hDs hRs hlg hfinD
        go_enter Tryd.func73, Tryd.ntmps73
        go_wp2_with fail
        refine HAP.out.mono ?_
        rintro e' w1 ⟨A4, c4, A5, c5, rfl, hp1, hp2, hb1⟩
        dsimp only at hp1 hp2 ⊢
        rw [HU.out] at hp1 ⊢
        rw [HV.out] at hp2 ⊢
        have al := (Below.refl w1.heap.size w1).alloc (Nat.le_refl _) (.cells #[.slice A4 u c4, .slice A5 v c5] 30)
        have h1 := (HC.out.step hb1).step al
        have H1 := Lib.hid h1
        have hT1 : Touch (engR g ⟨A0, c0, A1, c1, A2, c2, A3, c3, A7, c7⟩) w (w1.alloc (.cells #[.slice A4 u c4, .slice A5 v c5] 30)) := (HTC.out.mono (fun k _ hk => .inl hk)).trans (Touch.below (hb1.alloc hb1.size _))
        have HT1 := Lib.hid hT1
        have hgw1 : g < w1.heap.size := Nat.lt_of_lt_of_le HC.out.gs hb1.size
        have hgP : ¬ g = w1.heap.size := by omega
        have hPg : ¬ w1.heap.size = g := by omega
        have hP1 := Lib.hid (own_mono (hp1.alloc (.cells #[.slice A4 u c4, .slice A5 v c5] 30)) (base' := B) (by have := HC.out.gs; have := HC.out.gb; omega))
        have hP2 := Lib.hid (own_mono (hp2.alloc (.cells #[.slice A4 u c4, .slice A5 v c5] 30)) (base' := B) (by have := HC.out.gs; have := HC.out.gb; omega))
        have hrep7 := (HREP7.out.below hb1 (Nat.le_refl _)).mono hb1.size
        have hrep8 := (hrep7.below al (Nat.le_refl _)).mono al.size
        have hrc := record_any A7 n c7 m E.ws _ hrep8 HN7.out (by omega)
        have HRC := Lib.hid hrc
        have kk1 := h1.k1
        dsimp only at kk1
        rw [HM.out] at kk1
        have pp0 : (w1.alloc (.cells #[.slice A4 u c4, .slice A5 v c5] 30)).cell? ⟨w1.heap.size, 0, none⟩ = some (.slice A4 u c4) := by simp [go_sem]
        have pp1 : (w1.alloc (.cells #[.slice A4 u c4, .slice A5 v c5] 30)).cell? ⟨w1.heap.size, 1, none⟩ = some (.slice A5 v c5) := by simp [go_sem]
        have hszP : w1.heap.size < (w1.alloc (.cells #[.slice A4 u c4, .slice A5 v c5] 30)).heap.size := by simp
        have PP0 := Lib.hid pp0
        have PP1 := Lib.hid pp1
        have HSZP := Lib.hid hszP
        clear h1 hp1 hp2 hb1 hT1 al hrep7 hrep8 hrc pp0 pp1 hszP hgw1
        go_wp2_with fail
        refine HRC.out.mono ?_
        rintro e' w2 ⟨he, hb2⟩
        rw [RecPost, WK.out, RR.out] at he
        subst he
        have h2 := H1.out.step hb2
        have H2 := Lib.hid h2
        have HT2 := Lib.hid (HT1.out.trans (Touch.below hb2))
        have HP1 := Lib.hid (own_below hP1.out hb2)
        have HP2 := Lib.hid (own_below hP2.out hb2)
        have p0 := (hb2.cell (p := ⟨w1.heap.size, 0, none⟩) HSZP.out).trans PP0.out
        have p1 := (hb2.cell (p := ⟨w1.heap.size, 1, none⟩) HSZP.out).trans PP1.out
        have q0 := h2.k0
        have q1 := h2.k1
        have q4 := h2.k4
        have q5 := h2.k5
        dsimp only at q0 q1 q4 q5
        rw [HLG.out] at q4
        rw [HPD.out] at q5
        have f0 := h2.fz 0
        have f1 := h2.fz 1
        have f5 := h2.fz 5
        clear hb2 h2 kk1
        go_wp2
        go_quiet (fail)
        go_wp2
        go_region
        go_wp2
        go_ret
        have q2 := H2.out.k2
        have q3 := H2.out.k3
        have q6 := H2.out.k6
        have q7 := H2.out.k7
        have tg := H2.out.tg
        dsimp only at q2 q3 q6 q7
        have hu := HU.out
        have hv := HV.out
        subst hu hv
        have hg4 := HLG.out
        have hfd := HFD.out
        refine ⟨rfl, ⟨A4, c4, A5, c5, A2, c2, A3, c3, none, 0⟩, ?_, ?_⟩
        · refine (H2.out.step (below_drewN (Below.refl _ _) (nq + 1))).set (((Touch.setCell (R := fun k => k = g) ⟨g, 0, none⟩ rfl _).trans (Touch.setCell (R := fun k => k = g) ⟨g, 1, none⟩ rfl _)).trans (Touch.setCell (R := fun k => k = g) ⟨g, 5, none⟩ rfl _)) ?_ ?_ ?_ ?_ ?_ ?_ ?_ ?_ ?_ ?_ HP1.out HP2.out (H2.out.step (below_drewN (Below.refl _ _) (nq + 1))).o2 (H2.out.step (below_drewN (Below.refl _ _) (nq + 1))).o3 (World.ownsRow_nil _ _ _ _)
          all_goals first
            | exact ((tg.setCell _ _).setCell _ _).setCell _ _
            | (intro i; simp)
            | simp [go_sem, q0, q1, q2, q3, q4, q5, q6, q7, hg4, hfd]
        · exact (((HT2.out.trans (Touch.below (below_drewN (Below.refl _ _) (nq + 1)))).trans (Touch.setCell _ (.inl rfl) _)).trans (Touch.setCell _ (.inl rfl) _)).trans (Touch.setCell _ (.inl rfl) _)
      · have hE : commitE E = ({ E with opened := false, ws := [] }, 1) := by
          rw [commitE, if_pos hO.out, HR.out]
          simp only [if_true]
          rw [if_neg (by omega)]
        rw [hE]
        have d4 : decide ((L.size : Int) + (D.size : Int) + (R.size : Int) > 4000) = true := decide_eq_true (by omega)
        clear hE hgd hRd hL hD hLs hDs hRs hlg
        go_enter Tryd.func73, Tryd.ntmps73
        go_wp2_with fail
        refine HAP.out.mono ?_
        rintro e' w1 ⟨A4, c4, A5, c5, rfl, hp1, hp2, hb1⟩
        dsimp only at hp1 hp2 ⊢
        rw [HU.out] at hp1 ⊢
        rw [HV.out] at hp2 ⊢
        have al := (Below.refl w1.heap.size w1).alloc (Nat.le_refl _) (.cells #[.slice A4 u c4, .slice A5 v c5] 30)
        have h1 := (HC.out.step hb1).step al
        have H1 := Lib.hid h1
        have hT1 : Touch (engR g ⟨A0, c0, A1, c1, A2, c2, A3, c3, A7, c7⟩) w (w1.alloc (.cells #[.slice A4 u c4, .slice A5 v c5] 30)) := (HTC.out.mono (fun k _ hk => .inl hk)).trans (Touch.below (hb1.alloc hb1.size _))
        have HT1 := Lib.hid hT1
        have hgw1 : g < w1.heap.size := Nat.lt_of_lt_of_le HC.out.gs hb1.size
        have hgP : ¬ g = w1.heap.size := by omega
        have hPg : ¬ w1.heap.size = g := by omega
        have hP1 := Lib.hid (own_mono (hp1.alloc (.cells #[.slice A4 u c4, .slice A5 v c5] 30)) (base' := B) (by have := HC.out.gs; have := HC.out.gb; omega))
        have hP2 := Lib.hid (own_mono (hp2.alloc (.cells #[.slice A4 u c4, .slice A5 v c5] 30)) (base' := B) (by have := HC.out.gs; have := HC.out.gb; omega))
        have hrep7 := (HREP7.out.below hb1 (Nat.le_refl _)).mono hb1.size
        have hrep8 := (hrep7.below al (Nat.le_refl _)).mono al.size
        have hrc := record_any A7 n c7 m E.ws _ hrep8 HN7.out (by omega)
        have HRC := Lib.hid hrc
        have kk1 := h1.k1
        dsimp only at kk1
        rw [HM.out] at kk1
        have pp0 : (w1.alloc (.cells #[.slice A4 u c4, .slice A5 v c5] 30)).cell? ⟨w1.heap.size, 0, none⟩ = some (.slice A4 u c4) := by simp [go_sem]
        have pp1 : (w1.alloc (.cells #[.slice A4 u c4, .slice A5 v c5] 30)).cell? ⟨w1.heap.size, 1, none⟩ = some (.slice A5 v c5) := by simp [go_sem]
        have hszP : w1.heap.size < (w1.alloc (.cells #[.slice A4 u c4, .slice A5 v c5] 30)).heap.size := by simp
        have PP0 := Lib.hid pp0
        have PP1 := Lib.hid pp1
        have HSZP := Lib.hid hszP
        clear h1 hp1 hp2 hb1 hT1 al hrep7 hrep8 hrc pp0 pp1 hszP hgw1
        go_wp2_with fail
        refine HRC.out.mono ?_
        rintro e' w2 ⟨he, hb2⟩
        rw [RecPost, WK.out, RR.out] at he
        subst he
        have h2 := H1.out.step hb2
        have H2 := Lib.hid h2
        have HT2 := Lib.hid (HT1.out.trans (Touch.below hb2))
        have HP1 := Lib.hid (own_below hP1.out hb2)
        have HP2 := Lib.hid (own_below hP2.out hb2)
        have p0 := (hb2.cell (p := ⟨w1.heap.size, 0, none⟩) HSZP.out).trans PP0.out
        have p1 := (hb2.cell (p := ⟨w1.heap.size, 1, none⟩) HSZP.out).trans PP1.out
        have q0 := h2.k0
        have q1 := h2.k1
        have q4 := h2.k4
        have q5 := h2.k5
        dsimp only at q0 q1 q4 q5
        rw [HLG.out] at q4
        rw [HPD.out] at q5
        have f0 := h2.fz 0
        have f1 := h2.fz 1
        have f5 := h2.fz 5
        clear hb2 h2 kk1
        go_wp2
        go_quiet (fail)
        go_wp2
        go_ret
        exact ⟨rfl, _, H2.out.step (below_drewN (Below.refl _ _) _), HT2.out.trans (Touch.below (below_drewN (Below.refl _ _) _))⟩
    · have hE : commitE E = ({ E with opened := false, ws := [] }, e) := by
        rw [commitE, if_pos hO.out, HR.out, if_neg he]
      rw [hE]
      have de : (e != 0) = true := by simp [he]
      clear hE he
      go_enter Tryd.func73, Tryd.ntmps73
      go_wp2_with fail
      refine HAP.out.mono ?_
      rintro e' w1 ⟨A4, c4, A5, c5, rfl, hp1, hp2, hb1⟩
      dsimp only at hp1 hp2 ⊢
      rw [HU.out] at hp1 ⊢
      rw [HV.out] at hp2 ⊢
      have al := (Below.refl w1.heap.size w1).alloc (Nat.le_refl _) (.cells #[.slice A4 u c4, .slice A5 v c5] 30)
      have h1 := (HC.out.step hb1).step al
      have H1 := Lib.hid h1
      have hT1 : Touch (engR g ⟨A0, c0, A1, c1, A2, c2, A3, c3, A7, c7⟩) w (w1.alloc (.cells #[.slice A4 u c4, .slice A5 v c5] 30)) := (HTC.out.mono (fun k _ hk => .inl hk)).trans (Touch.below (hb1.alloc hb1.size _))
      have HT1 := Lib.hid hT1
      clear h1 hp1 hp2 hb1 hT1 al
      go_wp2
      go_ret
      exact ⟨rfl, _, H1.out, HT1.out⟩
end Go.Proofs.YtphbebcbbfbgpacDoor

namespace Go.Proofs.YtphbebcbbfbgpacDoor
open Go Go.RowKit

theorem scanF_le (b : Int) : ∀ (f : Nat) (s : Bs), (scanF f s b).2 ≤ s.length
  | 0, _ => Nat.zero_le _
  | f + 1, s => by
    rw [scanF]
    cases h : firstL s b with
    | none => exact Nat.zero_le _
    | some x =>
      obtain ⟨ws, n⟩ := x
      have hp := firstL_pos h
      have := scanF_le b f (s.drop n)
      rw [List.length_drop] at this
      simp only
      omega
theorem scanL_le (s : Bs) (b : Int) : (scanL s b).2 ≤ s.length := scanF_le b _ s
theorem scanF_num (b : Int) : ∀ (f : Nat) (s : Bs), (scanF f s b).1.length ≤ f
  | 0, _ => Nat.le_refl _
  | f + 1, s => by
    rw [scanF]
    cases h : firstL s b with
    | none => exact Nat.zero_le _
    | some x =>
      obtain ⟨ws, n⟩ := x
      have := scanF_num b f (s.drop n)
      simp only [List.length_cons]
      omega
theorem scanL_num (s : Bs) (b : Int) : (scanL s b).1.length ≤ s.length := scanF_num b _ s
theorem Touch.setNew {R : Nat → Prop} {w W : World} (h : Touch R w W) (p : Addr) (hp : w.heap.size ≤ p.block) (u : Value) : Touch R w (W.setCell p u) :=
  ⟨h.os, h.tape, h.output, Nat.le_trans h.size (by simp [World.setCell]), fun k hk hn => (Below.heap_setCell _ _ _ _ (by omega)).trans (h.block k hk hn)⟩
theorem vol_ok {ls : List Itm} {bs : List Int} (g : GoodVol ls bs) : ∀ x ∈ bs, i64Ok x := fun x hx => by
  have h1 := g.ge x hx
  have h2 : x ≤ 1000 := by
    by_cases h0 : 0 ≤ x
    · obtain ⟨y, hy, rfl⟩ := g.ids x hx h0
      have := (g.good.2.ok y hy).2.1
      omega
    · omega
  simp [i64Ok, Lit.wf, IntKind.min, IntKind.max, IntKind.signed, IntKind.bits]; omega

/-- What stands in the loop that does it all again. -/
structure CrF (B g : Nat) (E : Eng) (S : SlotsE) (P : Nat) (A : Option Addr) (c : Nat) (A' : Option Addr) (c' : Nat) (cur : Vol) (Ad : Option Addr) (cd : Nat) (vs : List Value) (ds : List (List Wrt)) (w W : World) : Prop where
  ef : EngF B g E S W
  p0 : W.cell? ⟨P, 0, none⟩ = some (.slice A cur.1.length c)
  p1 : W.cell? ⟨P, 1, none⟩ = some (.slice A' cur.2.length c')
  f0 : W.frozen? ⟨P, 0, none⟩ = false
  f1 : W.frozen? ⟨P, 1, none⟩ = false
  pw : w.heap.size ≤ P
  ps : P < W.heap.size
  tp : IsCells W P 30
  oi : W.ownsRow B 42 3 (.slice A cur.1.length c) cur.1.length (flat Itm.cell 3 cur.1)
  ob : W.ownsRow B 3 1 (.slice A' cur.2.length c') cur.2.length (flat intCell 1 cur.2)
  od : W.ownsRow B 53 1 (.slice Ad ds.length cd) ds.length vs
  dl : DealsIn W B vs ds
  th : Touch (engR g S) w W
section
variable {B g : Nat} {E : Eng} {S : SlotsE} {P : Nat} {A : Option Addr} {c : Nat} {A' : Option Addr} {c' : Nat} {cur : Vol} {Ad : Option Addr} {cd : Nat} {vs : List Value} {ds : List (List Wrt)} {w W W' : World}
theorem CrF.step (h : CrF B g E S P A c A' c' cur Ad cd vs ds w W) (hb : Below W.heap.size W W') : CrF B g E S P A c A' c' cur Ad cd vs ds w W' where
  ef := h.ef.step hb
  p0 := (hb.cell h.ps).trans h.p0
  p1 := (hb.cell h.ps).trans h.p1
  f0 := (hb.frozen h.ps).trans h.f0
  f1 := (hb.frozen h.ps).trans h.f1
  pw := h.pw
  ps := Nat.lt_of_lt_of_le h.ps hb.size
  tp := h.tp.below hb
  oi := own_below h.oi hb
  ob := own_below h.ob hb
  od := own_below h.od hb
  dl := h.dl.below hb
  th := h.th.trans (Touch.below hb)
theorem CrF.ne (h : CrF B g E S P A c A' c' cur Ad cd vs ds w W) : g ≠ P := fun e => by
  obtain ⟨cs, hc⟩ := h.tp
  obtain ⟨ds', hd⟩ := h.ef.tg
  rw [e, hc] at hd
  simp only [Option.some.injEq, Obj.cells.injEq] at hd
  exact absurd hd.2.1 (by decide)
theorem EngF.far (h : EngF B g E S W) (hne : g ≠ P) (h0 : ∀ r, (Value.slice S.A0 0 S.c0).ownBlock = some r → r ≠ P) (h1 : ∀ r, (Value.slice S.A1 0 S.c1).ownBlock = some r → r ≠ P) (h2 : ∀ r, (Value.slice S.A2 0 S.c2).ownBlock = some r → r ≠ P)
    (h3 : ∀ r, (Value.slice S.A3 0 S.c3).ownBlock = some r → r ≠ P) (h7 : ∀ r, (Value.slice S.A7 0 S.c7).ownBlock = some r → r ≠ P) (hT : Touch (fun k => k = P) W W') : EngF B g E S W' where
  k0 := (hT.cell h.gs hne).trans h.k0
  k1 := (hT.cell h.gs hne).trans h.k1
  k2 := (hT.cell h.gs hne).trans h.k2
  k3 := (hT.cell h.gs hne).trans h.k3
  k4 := (hT.cell h.gs hne).trans h.k4
  k5 := (hT.cell h.gs hne).trans h.k5
  k6 := (hT.cell h.gs hne).trans h.k6
  k7 := (hT.cell h.gs hne).trans h.k7
  fz := fun i => (hT.frozen h.gs hne).trans (h.fz i)
  tg := h.tg.touch hT hne
  gb := h.gb
  gs := Nat.lt_of_lt_of_le h.gs hT.size
  o0 := own_touch h.o0 hT (fun r hr => h0 r ((ownBlock_len _ _ _ _ _).trans hr))
  o1 := own_touch h.o1 hT (fun r hr => h1 r ((ownBlock_len _ _ _ _ _).trans hr))
  o2 := own_touch h.o2 hT (fun r hr => h2 r ((ownBlock_len _ _ _ _ _).trans hr))
  o3 := own_touch h.o3 hT (fun r hr => h3 r ((ownBlock_len _ _ _ _ _).trans hr))
  o7 := own_touch h.o7 hT (fun r hr => h7 r ((ownBlock_len _ _ _ _ _).trans hr))
  n0 := h.n0
  n1 := h.n1
  n2 := h.n2
  n3 := h.n3
  n7 := h.n7
/-- a block of volumes is written: the engine stands -/
theorem EngF.farT (h : EngF B g E S W) (tp : IsCells W P 30) (hne : g ≠ P) (hT : Touch (fun k => k = P) W W') : EngF B g E S W' :=
  h.far hne (fun r hr => own_not h.o0 tp (by decide) r ((ownBlock_len _ _ _ _ _).trans hr)) (fun r hr => own_not h.o1 tp (by decide) r ((ownBlock_len _ _ _ _ _).trans hr)) (fun r hr => own_not h.o2 tp (by decide) r ((ownBlock_len _ _ _ _ _).trans hr))
    (fun r hr => own_not h.o3 tp (by decide) r ((ownBlock_len _ _ _ _ _).trans hr)) (fun r hr => own_not h.o7 tp (by decide) r ((ownBlock_len _ _ _ _ _).trans hr)) hT
/-- another volume is the current one -/
theorem CrF.next {A2 A2' : Option Addr} {c2 c2' : Nat} {nxt : Vol} (h : CrF B g E S P A c A' c' cur Ad cd vs ds w W) (oi : W.ownsRow B 42 3 (.slice A2 nxt.1.length c2) nxt.1.length (flat Itm.cell 3 nxt.1))
    (ob : W.ownsRow B 3 1 (.slice A2' nxt.2.length c2') nxt.2.length (flat intCell 1 nxt.2)) :
    CrF B g E S P A2 c2 A2' c2' nxt Ad cd vs ds w ((W.setCell ⟨P, 0, none⟩ (.slice A2 nxt.1.length c2)).setCell ⟨P, 1, none⟩ (.slice A2' nxt.2.length c2')) := by
  have hT : Touch (fun k => k = P) W ((W.setCell ⟨P, 0, none⟩ (.slice A2 nxt.1.length c2)).setCell ⟨P, 1, none⟩ (.slice A2' nxt.2.length c2')) :=
    (Touch.setCell (R := fun k => k = P) ⟨P, 0, none⟩ rfl _).trans (Touch.setCell (R := fun k => k = P) ⟨P, 1, none⟩ rfl _)
  have p0 := h.p0
  have p1 := h.p1
  exact {
    ef := h.ef.farT h.tp h.ne hT
    p0 := by simp [go_sem, p0]
    p1 := by simp [go_sem, p1]
    f0 := by simp [h.f0]
    f1 := by simp [h.f1]
    pw := h.pw
    ps := Nat.lt_of_lt_of_le h.ps hT.size
    tp := (h.tp.setCell _ _).setCell _ _
    oi := own_touch oi hT (own_not oi h.tp (by decide))
    ob := own_touch ob hT (own_not ob h.tp (by decide))
    od := own_touch h.od hT (own_not h.od h.tp (by decide))
    dl := ⟨h.dl.1, fun i hi => by
      obtain ⟨A, c, e, ho⟩ := h.dl.2 i hi
      exact ⟨A, c, e, own_touch ho hT (own_not ho h.tp (by decide))⟩⟩
    th := (h.th.setNew _ h.pw _).setNew _ h.pw _ }
end
end Go.Proofs.YtphbebcbbfbgpacDoor

namespace Go.Proofs.YtphbebcbbfbgpacDoor
open Go Go.RowKit
set_option linter.unusedSimpArgs false
set_option linter.unusedVariables false

theorem crash_neg (B g : Nat) (E : Eng) (S : SlotsE) (keep : Int) (w : World) (h : EngF B g E S w) (hneg : keep < 0) :
    Calls Tryd.prog 74 #[.pointer (some ⟨g, 0, none⟩), .int .i64 keep] w (EngPost B g (crashE E keep).1 S w (.tuple #[.int .i64 (crashE E keep).2.1, .int .i64 (crashE E keep).2.2])) := by
  have H := Lib.hid h
  have e : crashE E keep = (E, 0, 2) := by rw [crashE, if_pos hneg]
  rw [e]
  have d1 := decide_eq_true hneg
  clear e h
  go_enter Tryd.func74, Tryd.ntmps74
  go_wp2
  go_ret2
  exact ⟨rfl, _, H.out, Touch.refl _ _⟩

set_option maxRecDepth 100000 in
set_option maxHeartbeats 4000000 in
theorem crash_small (B g : Nat) (E : Eng) (S : SlotsE) (k : Nat) (w : World) (h : EngF B g E S w) (hG : GoodE E) (hkb : (k : Int) ≤ 9223372036854775807) (hkd : k ≤ E.pend.length) :
    Calls Tryd.prog 74 #[.pointer (some ⟨g, 0, none⟩), .int .i64 k] w (EngPost B g (crashE E k).1 S w (.tuple #[.int .i64 (crashE E k).2.1, .int .i64 (crashE E k).2.2])) := by
  have H := Lib.hid h
  have HG := Lib.hid hG
  have d1 : decide ((k : Int) < 0) = false := decide_eq_false (by omega)
  obtain ⟨A0, c0, A1, c1, A2, c2, A3, c3, A7, c7⟩ := S
  obtain ⟨L, hL⟩ : ∃ L, bstr E.log = L := ⟨_, rfl⟩
  obtain ⟨D, hD⟩ : ∃ D, bstr E.pend = D := ⟨_, rfl⟩
  have hLs : L.size = E.log.length := by rw [← hL, bstr_size]
  have hDs : D.size = E.pend.length := by rw [← hD, bstr_size]
  have hLD : L.size + D.size ≤ 4000 := by have := hG.log; omega
  have k1 := h.k1
  have k4 := h.k4
  have k5 := h.k5
  dsimp only at k1 k4 k5
  rw [hL] at k4
  rw [hD] at k5
  obtain ⟨m, hm⟩ : ∃ m, E.v.2.length = m := ⟨_, rfl⟩
  have hm32 : m ≤ 32 := by rw [← hm]; exact hG.vol.hi
  rw [hm] at k1
  have HM := Lib.hid hm
  have HL := Lib.hid hL
  have HD := Lib.hid hD
  have HLS := Lib.hid hLs
  have HDS := Lib.hid hDs
  clear h hG hm hL hD hLs hDs
  obtain ⟨x, hx⟩ : ∃ x, crashE E k = x := ⟨_, rfl⟩
  rw [hx]
  obtain ⟨E', cnt, code⟩ := x
  have HX := Lib.hid hx
  clear hx
  dsimp only
  rw [← HDS.out] at hkd
  have dk : decide ((k : Int) ≤ (D.size : Int)) = true := decide_eq_true (by omega)
  have dk2 : decide ((D.size : Int) < (k : Int)) = false := decide_eq_false (by omega)
  have hmin : min (k : Int) (D.size : Int) = (k : Int) := by omega
  obtain ⟨T, hT⟩ : ∃ T, L ++ D.extract 0 k = T := ⟨_, rfl⟩
  have hTl : T.data.toList = cutS E k := by
    rw [← hT, append_list, extract_list, List.drop_zero, Nat.sub_zero, ← HL.out, ← HD.out, bstr_list, bstr_list, cutS, Int.toNat_natCast]
  have hTs : T.size ≤ 4000 := by rw [size_list, hTl, cutS, List.length_append, List.length_take]; have := HLS.out; have := HDS.out; omega
  have hsc : ∀ W, Calls Tryd.prog 91 #[.string T, .int .i64 m] W (ScanPost W (scanL (cutS E k) m)) := fun W => by
    have := scan_any T m W (by omega)
    rwa [hTl] at this
  have hused := scanL_le (cutS E k) m
  have hnum := scanL_num (cutS E k) m
  rw [← hTl, ← size_list, hTl] at hused hnum
  obtain ⟨r, hr⟩ : ∃ r, scanL (cutS E k) m = r := ⟨_, rfl⟩
  rw [hr] at hsc hused hnum
  obtain ⟨ds, u⟩ := r
  dsimp only at hused hnum
  have HR := Lib.hid hr
  have HSC := Lib.hid hsc
  have HTL := Lib.hid hTl
  have HT := Lib.hid hT
  have HNEG := Lib.hid (show ¬ (k : Int) < 0 by omega)
  have hcE : crashE E k = if (redo E.base ds).2 = 0 then (⟨(redo E.base ds).1, E.base, (cutS E k).take u, [], false, []⟩, (ds.length : Int), 0) else (E, 0, (redo E.base ds).2) := by
    rw [crashE, if_neg HNEG.out, HM.out, HR.out]
  have HCE := Lib.hid hcE
  clear hsc hr hTl hcE
  go_enter Tryd.func74, Tryd.ntmps74
  go_wp2
  go_quiet (fail)
  go_wp2_with fail
  refine (HSC.out _).mono ?_
  rintro e w1 ⟨Ad, cd, vs, rfl, hod, hdl, hb1⟩
  dsimp only at hod hdl ⊢
  have h0 := H.out.step (below_drewN (Below.refl w.heap.size w) nq)
  have h1 := h0.step hb1
  have hcp := copy_any A2 A3 E.base.1.length c2 E.base.2.length c3 E.base.1 E.base.2 w1 h1.repB h1.repBB (own_nil h1.o2).2 (own_nil h1.o3).2 (by have := HG.out.base.good.1; omega) (by have := HG.out.base.hi; omega)
  have HCP := Lib.hid hcp
  have H1 := Lib.hid h1
  have HT1 := Lib.hid ((Touch.below (below_drewN (Below.refl w.heap.size w) nq) : Touch (engR g ⟨A0, c0, A1, c1, A2, c2, A3, c3, A7, c7⟩) w (w.drewN nq)).trans (Touch.below hb1))
  have HOD := Lib.hid (own_mono hod (base' := B) (by have h1 : (w.drewN nq).heap.size = w.heap.size := rfl; have := H.out.gb; have := H.out.gs; omega))
  have HDL := Lib.hid (hdl.mono (base' := B) (by have h1 : (w.drewN nq).heap.size = w.heap.size := rfl; have := H.out.gb; have := H.out.gs; omega))
  have k2' := h1.k2
  have k3' := h1.k3
  dsimp only at k2' k3'
  clear h0 h1 hcp hod hdl hb1 hT
  go_wp2_with fail
  refine HCP.out.mono ?_
  rintro e w2 ⟨A4, c4, A5, c5, rfl, ho1, ho2, hb2, _, _, _, _, _, _⟩
  have hgs1 := H1.out.gs
  have hgb1 := H1.out.gb
  have hw1 : w.heap.size ≤ w1.heap.size := HT1.out.size
  have hcr : CrF B g E ⟨A0, c0, A1, c1, A2, c2, A3, c3, A7, c7⟩ w2.heap.size A4 c4 A5 c5 E.base Ad cd vs ds w (w2.alloc (.cells #[.slice A4 E.base.1.length c4, .slice A5 E.base.2.length c5] 30)) := by
    have al := (Below.refl w2.heap.size w2).alloc (Nat.le_refl _) (.cells #[.slice A4 E.base.1.length c4, .slice A5 E.base.2.length c5] 30)
    refine ⟨(H1.out.step hb2).step al, ?_, ?_, ?_, ?_, by have := hb2.size; omega, by simp, IsCells.new _ _ _, own_mono (ho1.alloc _) (by omega), own_mono (ho2.alloc _) (by omega), own_below (own_below HOD.out hb2) al, (HDL.out.below hb2).below al, (HT1.out.trans (Touch.below hb2)).trans (Touch.below al)⟩
    all_goals simp [go_sem]
  have HCR := Lib.hid hcr
  have HGV0 := Lib.hid HG.out.base
  clear hcr ho1 ho2 hb2 hgs1 hgb1 hw1 k2' k3'
  obtain ⟨P, hP⟩ : ∃ P, w2.heap.size = P := ⟨_, rfl⟩
  rw [hP] at HCR
  go_wp2
  clear hP
  go_loopw [51] (fun t wr => ∃ (i : Nat) (A : Option Addr) (c : Nat) (A' : Option Addr) (c' : Nat) (cur : Vol), i ≤ ds.length ∧ t = .int .i64 i ∧ CrF B g E ⟨A0, c0, A1, c1, A2, c2, A3, c3, A7, c7⟩ P A c A' c' cur Ad cd vs ds w wr ∧ Hid (GoodVol cur.1 cur.2) ∧ Hid (redo cur (ds.drop i) = redo E.base ds)) (fun t _ => ds.length - (intOf t).toNat)
  case atStart => exact ⟨0, A4, c4, A5, c5, E.base, Nat.zero_le _, rfl, HCR.out, HGV0, Lib.hid (by rw [List.drop_zero])⟩
  case round =>
    obtain ⟨i, A, c, A', c', cur, hi, rfl, hcr, hgv, hinv⟩ := hrel
    have HC := Lib.hid hcr
    by_cases hlt : i < ds.length
    · obtain ⟨Aw, cw, hv, how⟩ := hcr.dl.2 i hlt
      obtain ⟨rd, cap, hA, _, _⟩ := hcr.od.form (by omega)
      simp only [Value.slice.injEq] at hA
      obtain ⟨rfl, _, rfl⟩ := hA
      have x0 : wr.cell? ⟨rd, i, none⟩ = some (.slice Aw ds[i].length cw) := by rw [hcr.od.cellAt _ (by omega), hv]
      have hap := apply_any A A' Aw cur.1.length c cur.2.length c' ds[i].length cw cur.1 cur.2 ds[i] wr (Rep.of_own rfl hcr.oi (Nat.le_refl _)) (Rep.of_own rfl hcr.ob (Nat.le_refl _)) (Rep.of_own rfl how (Nat.le_refl _)) (own_nil hcr.oi).2 (own_nil hcr.ob).2 (own_nil hcr.oi).1 (own_nil hcr.ob).1 (own_nil how).1 (vol_ok hgv.out)
      have hstep := hinv.out
      rw [List.drop_eq_getElem_cons hlt, redo] at hstep
      have hgood : (appliedR cur.1 cur.2 ds[i]).2.2 = 0 → GoodVol (appliedR cur.1 cur.2 ds[i]).1 (appliedR cur.1 cur.2 ds[i]).2.1 := fun h => (applied_good' h).2.2.1
      obtain ⟨d, hd⟩ : ∃ d, ds[i] = d := ⟨_, rfl⟩
      rw [hd] at hap hstep hgood x0
      obtain ⟨r, hr⟩ : ∃ r, appliedR cur.1 cur.2 d = r := ⟨_, rfl⟩
      rw [hr] at hap hstep hgood
      obtain ⟨us, cs, e⟩ := r
      dsimp only at hstep hgood
      have HAP := Lib.hid hap
      have HSTEP := Lib.hid hstep
      have HGOOD := Lib.hid hgood
      have p0 := hcr.p0
      have p1 := hcr.p1
      clear hd hr hap hstep hgood hcr hv how
      by_cases he : e = 0
      · subst he
        have HN : Hid (redo (us, cs) (ds.drop (i + 1)) = redo E.base ds) := Lib.hid (by have := HSTEP.out; rwa [if_pos rfl] at this)
        go_wp2_with fail
        refine HAP.out.mono ?_
        rintro e' w3 ⟨A8, c8, A9, c9, rfl, hp1, hp2, hb3⟩
        dsimp only at hp1 hp2 ⊢
        have al := (Below.refl w3.heap.size w3).alloc (Nat.le_refl _) (.cells #[.slice A8 us.length c8, .slice A9 cs.length c9] 30)
        have h3 := HC.out.step hb3
        have hB3 : B ≤ wr.heap.size := by have := HC.out.ef.gb; have := HC.out.ef.gs; omega
        have HNX := Lib.hid (h3.next (nxt := (us, cs)) (own_mono hp1 hB3) (own_mono hp2 hB3))
        have p0' := h3.p0
        have p1' := h3.p1
        have f0' := h3.f0
        have f1' := h3.f1
        have hPl : P < w3.heap.size := Nat.lt_of_lt_of_le HC.out.ps hb3.size
        have hne1 : ¬ w3.heap.size = P := by omega
        have hne2 : ¬ P = w3.heap.size := by omega
        clear p0 p1 h3 hp1 hp2 hb3 al hB3
        go_wp2
        go_roundw
        case rel => exact ⟨i + 1, A8, c8, A9, c9, (us, cs), by omega, by go_num, HNX.out.step ((Below.refl _ _).alloc (Nat.le_refl _) _), Lib.hid (HGOOD.out (by trivial)), HN⟩
        case measure => simp [intOf]; omega
      · have HF : Hid ((E', cnt, code) = (E, (0 : Int), e)) := Lib.hid (by
          have e1 : redo E.base ds = (cur, e) := by have := HSTEP.out; rw [if_neg he] at this; exact this.symm
          rw [← HX.out, HCE.out, e1, if_neg he])
        have de : (e != 0) = true := by simp [he]
        clear he
        go_wp2_with fail
        refine HAP.out.mono ?_
        rintro e' w3 ⟨A8, c8, A9, c9, rfl, hp1, hp2, hb3⟩
        dsimp only at hp1 hp2 ⊢
        have al := (Below.refl w3.heap.size w3).alloc (Nat.le_refl _) (.cells #[.slice A8 us.length c8, .slice A9 cs.length c9] 30)
        have H3 := Lib.hid ((HC.out.step hb3).step al)
        clear p0 p1 hp1 hp2 hb3 al
        go_wp2
        go_ret2
        have hf := HF.out
        simp only [Prod.mk.injEq] at hf
        obtain ⟨rfl, rfl, rfl⟩ := hf
        exact ⟨rfl, _, H3.out.ef, H3.out.th⟩
    · have HF : Hid ((E', cnt, code) = ((⟨cur, E.base, (cutS E k).take u, [], false, []⟩ : Eng), (ds.length : Int), (0 : Int))) := Lib.hid (by
        have e1 : redo E.base ds = (cur, 0) := by rw [← hinv.out, List.drop_of_length_le (by omega)]; rfl
        rw [← HX.out, HCE.out, e1]; rfl)
      have p0 := hcr.p0
      have p1 := hcr.p1
      have q0 := hcr.ef.k0
      have q1 := hcr.ef.k1
      have q2 := hcr.ef.k2
      have q3 := hcr.ef.k3
      have q4 := hcr.ef.k4
      have q5 := hcr.ef.k5
      have q6 := hcr.ef.k6
      have q7 := hcr.ef.k7
      have f0 := hcr.ef.fz 0
      have f1 := hcr.ef.fz 1
      have f2 := hcr.ef.fz 2
      have f3 := hcr.ef.fz 3
      have f4 := hcr.ef.fz 4
      have f5 := hcr.ef.fz 5
      have f6 := hcr.ef.fz 6
      have f7 := hcr.ef.fz 7
      dsimp only at q0 q1 q2 q3 q4 q5 q6 q7
      have b1 : (0 : Int) ≤ (u : Int) := by omega
      have b2 : (u : Int) ≤ (T.size : Int) := by omega
      have hgP : ¬ g = P := hcr.ne
      have hPg : ¬ P = g := fun e => hgP e.symm
      clear hcr hgv hinv
      go_wp2
      go_region
      go_wp2
      go_ret2
      have hf := HF.out
      simp only [Prod.mk.injEq] at hf
      obtain ⟨rfl, rfl, rfl⟩ := hf
      have tg := HC.out.ef.tg
      have hTu : T.extract 0 u = bstr ((cutS E k).take u) := by
        apply str_ext
        rw [extract_list, bstr_list, List.drop_zero, Nat.sub_zero, HTL.out]
      have hTc : ∀ {R : Nat → Prop}, R g → Touch R wr ((((((((wr.setCell ⟨g, 0, none⟩ (.slice A cur.1.length c)).setCell ⟨g, 1, none⟩ (.slice A' cur.2.length c')).setCell ⟨g, 2, none⟩ (.slice A2 E.base.1.length c2)).setCell ⟨g, 3, none⟩ (.slice A3 E.base.2.length c3)).setCell ⟨g, 4, none⟩ (.string (T.extract 0 u))).setCell ⟨g, 5, none⟩ (.string ⟨#[]⟩)).setCell ⟨g, 6, none⟩ (.bool false)).setCell ⟨g, 7, none⟩ (.slice none 0 0)).drew := fun hR =>
        ((((((((Touch.setCell ⟨g, 0, none⟩ hR _).trans (Touch.setCell ⟨g, 1, none⟩ hR _)).trans (Touch.setCell ⟨g, 2, none⟩ hR _)).trans (Touch.setCell ⟨g, 3, none⟩ hR _)).trans (Touch.setCell ⟨g, 4, none⟩ hR _)).trans (Touch.setCell ⟨g, 5, none⟩ hR _)).trans (Touch.setCell ⟨g, 6, none⟩ hR _)).trans (Touch.setCell ⟨g, 7, none⟩ hR _)).trans Touch.drew
      refine ⟨rfl, ⟨A, c, A', c', A2, c2, A3, c3, none, 0⟩, ?_, HC.out.th.trans (hTc (.inl rfl))⟩
      refine HC.out.ef.set (hTc (R := fun k => k = g) rfl) ?_ ?_ ?_ ?_ ?_ ?_ ?_ ?_ ?_ ?_ HC.out.oi HC.out.ob HC.out.ef.o2 HC.out.ef.o3 (World.ownsRow_nil _ _ _ _)
      all_goals first
        | exact (((((((((tg.setCell _ _).setCell _ _).setCell _ _).setCell _ _).setCell _ _).setCell _ _).setCell _ _).setCell _ _)).drew
        | (intro i; simp)
        | (simp [go_sem, q0, q1, q2, q3, q4, q5, q6, q7, hTu]; done)
        | (simp [go_sem, q0, q1, q2, q3, q4, q5, q6, q7]; rfl)

set_option maxRecDepth 100000 in
set_option maxHeartbeats 4000000 in
theorem crash_big (B g : Nat) (E : Eng) (S : SlotsE) (k : Nat) (w : World) (h : EngF B g E S w) (hG : GoodE E) (hkb : (k : Int) ≤ 9223372036854775807) (hkd : E.pend.length < k) :
    Calls Tryd.prog 74 #[.pointer (some ⟨g, 0, none⟩), .int .i64 k] w (EngPost B g (crashE E k).1 S w (.tuple #[.int .i64 (crashE E k).2.1, .int .i64 (crashE E k).2.2])) := by
  have H := Lib.hid h
  have HG := Lib.hid hG
  have d1 : decide ((k : Int) < 0) = false := decide_eq_false (by omega)
  obtain ⟨A0, c0, A1, c1, A2, c2, A3, c3, A7, c7⟩ := S
  obtain ⟨L, hL⟩ : ∃ L, bstr E.log = L := ⟨_, rfl⟩
  obtain ⟨D, hD⟩ : ∃ D, bstr E.pend = D := ⟨_, rfl⟩
  have hLs : L.size = E.log.length := by rw [← hL, bstr_size]
  have hDs : D.size = E.pend.length := by rw [← hD, bstr_size]
  have hLD : L.size + D.size ≤ 4000 := by have := hG.log; omega
  have k1 := h.k1
  have k4 := h.k4
  have k5 := h.k5
  dsimp only at k1 k4 k5
  rw [hL] at k4
  rw [hD] at k5
  obtain ⟨m, hm⟩ : ∃ m, E.v.2.length = m := ⟨_, rfl⟩
  have hm32 : m ≤ 32 := by rw [← hm]; exact hG.vol.hi
  rw [hm] at k1
  have HM := Lib.hid hm
  have HL := Lib.hid hL
  have HD := Lib.hid hD
  have HLS := Lib.hid hLs
  have HDS := Lib.hid hDs
  clear h hG hm hL hD hLs hDs
  obtain ⟨x, hx⟩ : ∃ x, crashE E k = x := ⟨_, rfl⟩
  rw [hx]
  obtain ⟨E', cnt, code⟩ := x
  have HX := Lib.hid hx
  clear hx
  dsimp only
  rw [← HDS.out] at hkd
  have dk : decide ((k : Int) ≤ (D.size : Int)) = false := decide_eq_false (by omega)
  have dk2 : decide ((D.size : Int) < (k : Int)) = true := decide_eq_true (by omega)
  have hmin : min (k : Int) (D.size : Int) = (D.size : Int) := by omega
  obtain ⟨T, hT⟩ : ∃ T, L ++ D = T := ⟨_, rfl⟩
  have hTl : T.data.toList = cutS E k := by
    rw [← hT, append_list, ← HL.out, ← HD.out, bstr_list, bstr_list, cutS, Int.toNat_natCast, List.take_of_length_le (by rw [← HDS.out]; omega)]
  have hTs : T.size ≤ 4000 := by rw [size_list, hTl, cutS, List.length_append, List.length_take]; have := HLS.out; have := HDS.out; omega
  have hsc : ∀ W, Calls Tryd.prog 91 #[.string T, .int .i64 m] W (ScanPost W (scanL (cutS E k) m)) := fun W => by
    have := scan_any T m W (by omega)
    rwa [hTl] at this
  have hused := scanL_le (cutS E k) m
  have hnum := scanL_num (cutS E k) m
  rw [← hTl, ← size_list, hTl] at hused hnum
  obtain ⟨r, hr⟩ : ∃ r, scanL (cutS E k) m = r := ⟨_, rfl⟩
  rw [hr] at hsc hused hnum
  obtain ⟨ds, u⟩ := r
  dsimp only at hused hnum
  have HR := Lib.hid hr
  have HSC := Lib.hid hsc
  have HTL := Lib.hid hTl
  have HT := Lib.hid hT
  have HNEG := Lib.hid (show ¬ (k : Int) < 0 by omega)
  have hcE : crashE E k = if (redo E.base ds).2 = 0 then (⟨(redo E.base ds).1, E.base, (cutS E k).take u, [], false, []⟩, (ds.length : Int), 0) else (E, 0, (redo E.base ds).2) := by
    rw [crashE, if_neg HNEG.out, HM.out, HR.out]
  have HCE := Lib.hid hcE
  clear hsc hr hTl hcE
  go_enter Tryd.func74, Tryd.ntmps74
  go_wp2
  go_quiet (fail)
  go_wp2_with fail
  refine (HSC.out _).mono ?_
  rintro e w1 ⟨Ad, cd, vs, rfl, hod, hdl, hb1⟩
  dsimp only at hod hdl ⊢
  have h0 := H.out.step (below_drewN (Below.refl w.heap.size w) nq)
  have h1 := h0.step hb1
  have hcp := copy_any A2 A3 E.base.1.length c2 E.base.2.length c3 E.base.1 E.base.2 w1 h1.repB h1.repBB (own_nil h1.o2).2 (own_nil h1.o3).2 (by have := HG.out.base.good.1; omega) (by have := HG.out.base.hi; omega)
  have HCP := Lib.hid hcp
  have H1 := Lib.hid h1
  have HT1 := Lib.hid ((Touch.below (below_drewN (Below.refl w.heap.size w) nq) : Touch (engR g ⟨A0, c0, A1, c1, A2, c2, A3, c3, A7, c7⟩) w (w.drewN nq)).trans (Touch.below hb1))
  have HOD := Lib.hid (own_mono hod (base' := B) (by have h1 : (w.drewN nq).heap.size = w.heap.size := rfl; have := H.out.gb; have := H.out.gs; omega))
  have HDL := Lib.hid (hdl.mono (base' := B) (by have h1 : (w.drewN nq).heap.size = w.heap.size := rfl; have := H.out.gb; have := H.out.gs; omega))
  have k2' := h1.k2
  have k3' := h1.k3
  dsimp only at k2' k3'
  clear h0 h1 hcp hod hdl hb1 hT
  go_wp2_with fail
  refine HCP.out.mono ?_
  rintro e w2 ⟨A4, c4, A5, c5, rfl, ho1, ho2, hb2, _, _, _, _, _, _⟩
  have hgs1 := H1.out.gs
  have hgb1 := H1.out.gb
  have hw1 : w.heap.size ≤ w1.heap.size := HT1.out.size
  have hcr : CrF B g E ⟨A0, c0, A1, c1, A2, c2, A3, c3, A7, c7⟩ w2.heap.size A4 c4 A5 c5 E.base Ad cd vs ds w (w2.alloc (.cells #[.slice A4 E.base.1.length c4, .slice A5 E.base.2.length c5] 30)) := by
    have al := (Below.refl w2.heap.size w2).alloc (Nat.le_refl _) (.cells #[.slice A4 E.base.1.length c4, .slice A5 E.base.2.length c5] 30)
    refine ⟨(H1.out.step hb2).step al, ?_, ?_, ?_, ?_, by have := hb2.size; omega, by simp, IsCells.new _ _ _, own_mono (ho1.alloc _) (by omega), own_mono (ho2.alloc _) (by omega), own_below (own_below HOD.out hb2) al, (HDL.out.below hb2).below al, (HT1.out.trans (Touch.below hb2)).trans (Touch.below al)⟩
    all_goals simp [go_sem]
  have HCR := Lib.hid hcr
  have HGV0 := Lib.hid HG.out.base
  clear hcr ho1 ho2 hb2 hgs1 hgb1 hw1 k2' k3'
  obtain ⟨P, hP⟩ : ∃ P, w2.heap.size = P := ⟨_, rfl⟩
  rw [hP] at HCR
  go_wp2
  clear hP
  go_loopw [51] (fun t wr => ∃ (i : Nat) (A : Option Addr) (c : Nat) (A' : Option Addr) (c' : Nat) (cur : Vol), i ≤ ds.length ∧ t = .int .i64 i ∧ CrF B g E ⟨A0, c0, A1, c1, A2, c2, A3, c3, A7, c7⟩ P A c A' c' cur Ad cd vs ds w wr ∧ Hid (GoodVol cur.1 cur.2) ∧ Hid (redo cur (ds.drop i) = redo E.base ds)) (fun t _ => ds.length - (intOf t).toNat)
  case atStart => exact ⟨0, A4, c4, A5, c5, E.base, Nat.zero_le _, rfl, HCR.out, HGV0, Lib.hid (by rw [List.drop_zero])⟩
  case round =>
    obtain ⟨i, A, c, A', c', cur, hi, rfl, hcr, hgv, hinv⟩ := hrel
    have HC := Lib.hid hcr
    by_cases hlt : i < ds.length
    · obtain ⟨Aw, cw, hv, how⟩ := hcr.dl.2 i hlt
      obtain ⟨rd, cap, hA, _, _⟩ := hcr.od.form (by omega)
      simp only [Value.slice.injEq] at hA
      obtain ⟨rfl, _, rfl⟩ := hA
      have x0 : wr.cell? ⟨rd, i, none⟩ = some (.slice Aw ds[i].length cw) := by rw [hcr.od.cellAt _ (by omega), hv]
      have hap := apply_any A A' Aw cur.1.length c cur.2.length c' ds[i].length cw cur.1 cur.2 ds[i] wr (Rep.of_own rfl hcr.oi (Nat.le_refl _)) (Rep.of_own rfl hcr.ob (Nat.le_refl _)) (Rep.of_own rfl how (Nat.le_refl _)) (own_nil hcr.oi).2 (own_nil hcr.ob).2 (own_nil hcr.oi).1 (own_nil hcr.ob).1 (own_nil how).1 (vol_ok hgv.out)
      have hstep := hinv.out
      rw [List.drop_eq_getElem_cons hlt, redo] at hstep
      have hgood : (appliedR cur.1 cur.2 ds[i]).2.2 = 0 → GoodVol (appliedR cur.1 cur.2 ds[i]).1 (appliedR cur.1 cur.2 ds[i]).2.1 := fun h => (applied_good' h).2.2.1
      obtain ⟨d, hd⟩ : ∃ d, ds[i] = d := ⟨_, rfl⟩
      rw [hd] at hap hstep hgood x0
      obtain ⟨r, hr⟩ : ∃ r, appliedR cur.1 cur.2 d = r := ⟨_, rfl⟩
      rw [hr] at hap hstep hgood
      obtain ⟨us, cs, e⟩ := r
      dsimp only at hstep hgood
      have HAP := Lib.hid hap
      have HSTEP := Lib.hid hstep
      have HGOOD := Lib.hid hgood
      have p0 := hcr.p0
      have p1 := hcr.p1
      clear hd hr hap hstep hgood hcr hv how
      by_cases he : e = 0
      · subst he
        have HN : Hid (redo (us, cs) (ds.drop (i + 1)) = redo E.base ds) := Lib.hid (by have := HSTEP.out; rwa [if_pos rfl] at this)
        go_wp2_with fail
        refine HAP.out.mono ?_
        rintro e' w3 ⟨A8, c8, A9, c9, rfl, hp1, hp2, hb3⟩
        dsimp only at hp1 hp2 ⊢
        have al := (Below.refl w3.heap.size w3).alloc (Nat.le_refl _) (.cells #[.slice A8 us.length c8, .slice A9 cs.length c9] 30)
        have h3 := HC.out.step hb3
        have hB3 : B ≤ wr.heap.size := by have := HC.out.ef.gb; have := HC.out.ef.gs; omega
        have HNX := Lib.hid (h3.next (nxt := (us, cs)) (own_mono hp1 hB3) (own_mono hp2 hB3))
        have p0' := h3.p0
        have p1' := h3.p1
        have f0' := h3.f0
        have f1' := h3.f1
        have hPl : P < w3.heap.size := Nat.lt_of_lt_of_le HC.out.ps hb3.size
        have hne1 : ¬ w3.heap.size = P := by omega
        have hne2 : ¬ P = w3.heap.size := by omega
        clear p0 p1 h3 hp1 hp2 hb3 al hB3
        go_wp2
        go_roundw
        case rel => exact ⟨i + 1, A8, c8, A9, c9, (us, cs), by omega, by go_num, HNX.out.step ((Below.refl _ _).alloc (Nat.le_refl _) _), Lib.hid (HGOOD.out (by trivial)), HN⟩
        case measure => simp [intOf]; omega
      · have HF : Hid ((E', cnt, code) = (E, (0 : Int), e)) := Lib.hid (by
          have e1 : redo E.base ds = (cur, e) := by have := HSTEP.out; rw [if_neg he] at this; exact this.symm
          rw [← HX.out, HCE.out, e1, if_neg he])
        have de : (e != 0) = true := by simp [he]
        clear he
        go_wp2_with fail
        refine HAP.out.mono ?_
        rintro e' w3 ⟨A8, c8, A9, c9, rfl, hp1, hp2, hb3⟩
        dsimp only at hp1 hp2 ⊢
        have al := (Below.refl w3.heap.size w3).alloc (Nat.le_refl _) (.cells #[.slice A8 us.length c8, .slice A9 cs.length c9] 30)
        have H3 := Lib.hid ((HC.out.step hb3).step al)
        clear p0 p1 hp1 hp2 hb3 al
        go_wp2
        go_ret2
        have hf := HF.out
        simp only [Prod.mk.injEq] at hf
        obtain ⟨rfl, rfl, rfl⟩ := hf
        exact ⟨rfl, _, H3.out.ef, H3.out.th⟩
    · have HF : Hid ((E', cnt, code) = ((⟨cur, E.base, (cutS E k).take u, [], false, []⟩ : Eng), (ds.length : Int), (0 : Int))) := Lib.hid (by
        have e1 : redo E.base ds = (cur, 0) := by rw [← hinv.out, List.drop_of_length_le (by omega)]; rfl
        rw [← HX.out, HCE.out, e1]; rfl)
      have p0 := hcr.p0
      have p1 := hcr.p1
      have q0 := hcr.ef.k0
      have q1 := hcr.ef.k1
      have q2 := hcr.ef.k2
      have q3 := hcr.ef.k3
      have q4 := hcr.ef.k4
      have q5 := hcr.ef.k5
      have q6 := hcr.ef.k6
      have q7 := hcr.ef.k7
      have f0 := hcr.ef.fz 0
      have f1 := hcr.ef.fz 1
      have f2 := hcr.ef.fz 2
      have f3 := hcr.ef.fz 3
      have f4 := hcr.ef.fz 4
      have f5 := hcr.ef.fz 5
      have f6 := hcr.ef.fz 6
      have f7 := hcr.ef.fz 7
      dsimp only at q0 q1 q2 q3 q4 q5 q6 q7
      have b1 : (0 : Int) ≤ (u : Int) := by omega
      have b2 : (u : Int) ≤ (T.size : Int) := by omega
      have hgP : ¬ g = P := hcr.ne
      have hPg : ¬ P = g := fun e => hgP e.symm
      clear hcr hgv hinv
      go_wp2
      go_region
      go_wp2
      go_ret2
      have hf := HF.out
      simp only [Prod.mk.injEq] at hf
      obtain ⟨rfl, rfl, rfl⟩ := hf
      have tg := HC.out.ef.tg
      have hTu : T.extract 0 u = bstr ((cutS E k).take u) := by
        apply str_ext
        rw [extract_list, bstr_list, List.drop_zero, Nat.sub_zero, HTL.out]
      have hTc : ∀ {R : Nat → Prop}, R g → Touch R wr ((((((((wr.setCell ⟨g, 0, none⟩ (.slice A cur.1.length c)).setCell ⟨g, 1, none⟩ (.slice A' cur.2.length c')).setCell ⟨g, 2, none⟩ (.slice A2 E.base.1.length c2)).setCell ⟨g, 3, none⟩ (.slice A3 E.base.2.length c3)).setCell ⟨g, 4, none⟩ (.string (T.extract 0 u))).setCell ⟨g, 5, none⟩ (.string ⟨#[]⟩)).setCell ⟨g, 6, none⟩ (.bool false)).setCell ⟨g, 7, none⟩ (.slice none 0 0)).drew := fun hR =>
        ((((((((Touch.setCell ⟨g, 0, none⟩ hR _).trans (Touch.setCell ⟨g, 1, none⟩ hR _)).trans (Touch.setCell ⟨g, 2, none⟩ hR _)).trans (Touch.setCell ⟨g, 3, none⟩ hR _)).trans (Touch.setCell ⟨g, 4, none⟩ hR _)).trans (Touch.setCell ⟨g, 5, none⟩ hR _)).trans (Touch.setCell ⟨g, 6, none⟩ hR _)).trans (Touch.setCell ⟨g, 7, none⟩ hR _)).trans Touch.drew
      refine ⟨rfl, ⟨A, c, A', c', A2, c2, A3, c3, none, 0⟩, ?_, HC.out.th.trans (hTc (.inl rfl))⟩
      refine HC.out.ef.set (hTc (R := fun k => k = g) rfl) ?_ ?_ ?_ ?_ ?_ ?_ ?_ ?_ ?_ ?_ HC.out.oi HC.out.ob HC.out.ef.o2 HC.out.ef.o3 (World.ownsRow_nil _ _ _ _)
      all_goals first
        | exact (((((((((tg.setCell _ _).setCell _ _).setCell _ _).setCell _ _).setCell _ _).setCell _ _).setCell _ _).setCell _ _)).drew
        | (intro i; simp)
        | (simp [go_sem, q0, q1, q2, q3, q4, q5, q6, q7, hTu]; done)
        | (simp [go_sem, q0, q1, q2, q3, q4, q5, q6, q7]; rfl)

theorem crash_any (B g : Nat) (E : Eng) (S : SlotsE) (keep : Int) (w : World) (h : EngF B g E S w) (hG : GoodE E) (hk : i64Ok keep) :
    Calls Tryd.prog 74 #[.pointer (some ⟨g, 0, none⟩), .int .i64 keep] w (EngPost B g (crashE E keep).1 S w (.tuple #[.int .i64 (crashE E keep).2.1, .int .i64 (crashE E keep).2.2])) := by
  by_cases hneg : keep < 0
  · exact crash_neg B g E S keep w h hneg
  · obtain ⟨k, rfl⟩ : ∃ k : Nat, keep = k := ⟨keep.toNat, by omega⟩
    rcases Nat.lt_or_ge E.pend.length k with hkd | hkd
    · exact crash_big B g E S k w h hG hk.bounds.2 hkd
    · exact crash_small B g E S k w h hG hk.bounds.2 hkd
end Go.Proofs.YtphbebcbbfbgpacDoor
