/- slices.Insert of one item into a row that the call owns. slices.Insert of one item into a row that the call owns: the walk. slices.Insert of one item: the arm that grows. -/
import Derived.Test.YtphbebcbbfbgpacDoorPlainBad
import Derived.Lib.AppendZeros
import Derived.Deep.RegionLaw
namespace Go.Proofs.YtphbebcbbfbgpacDoor
open Go Go.RowKit

/-- append(s[:i], make([]T, k)...) beyond the room: a new row, the i elements ahead and k zeros behind -/
theorem run_append_make {P : Program} {w : World} {base : Nat} {e t tn ty : TypeId} {i0 : TypeInfo} {z : Value} {size : Nat} {kk kn : IntKind} {g i cap k : Nat} {xs : List Value} (ht : P.underlying t = some (.slice e)) (htn : P.underlying tn = some (.int kn)) (hi0 : P.info? e = some i0)
    (hz : i0.zero = some z) (hsz : i0.size = size) (hzs : z.cells.size = size) (hs0 : 0 < size)
    (h : w.ownsRow base e size (.slice (some ⟨g, 0, none⟩) i cap) i xs) (hbase : base ≤ w.heap.size) (hk : 0 < k) (hgrow : cap < i + k) (h63 : i + k ≤ 1000000) (hby : i0.bytes ≤ 1000) :
    ∃ c' w', (Builtin.append_ #[t, tn] ty #[.slice (some ⟨g, 0, none⟩) i cap, .int kk k]).run P w = .ok (.slice (some ⟨w.heap.size, 0, none⟩) (i + k) c') w' ∧
      w'.ownsRow base e size (.slice (some ⟨w.heap.size, 0, none⟩) (i + k) c') (i + k) (xs ++ (Builtin.zeroCells z.cells k).toList) ∧ w.grownBy w' none := by
  subst hsz
  have hw : IntKind.i64.wrap (k : Int) = k := by rw [IntKind.wrap_i64]; omega
  have hn : ¬ (i + k ≤ cap) := by omega
  have hxl := h.1
  have hold : ∀ j v, xs[j]? = some v → w.cell? ((⟨g, 0, none⟩ : Addr).add j) = some v := h.cells rfl
  have hfo := run_firstCells_some (P := P) w.drew i0.size i ⟨g, 0, none⟩ i cap xs hxl (by simpa using hold)
  have hge := grownCap_ge w (i + k) cap e
  have hm : i + k ≤ maxLen := by unfold maxLen; omega
  have hcm : grownCap w (i + k) cap e ≤ maxLen := grownCap_le_maxLen w (i + k) cap e hm
  have hkb : k * i0.bytes ≤ 1000000 * 1000 := Nat.mul_le_mul (by omega) hby
  have hkb2 : (i + k) * i0.bytes ≤ 1000000 * 1000 := Nat.mul_le_mul h63 hby
  have hfits := growslice_fits (bytes := i0.bytes) hgrow (by omega)
  have h48i : ¬ (281474976710656 < (k : Int) * (i0.bytes : Int)) := by
    rw [← Int.natCast_mul]
    omega
  have h48' : ¬ (281474976710656 < Builtin.nextslicecap (i + k) cap * i0.bytes) := by omega
  have h63' : ¬ (9223372036854775807 < (i : Int) + (k : Int)) := by omega
  have hneg : ¬ ((k : Int) < 0) := by omega
  have hns : ¬ (k * i0.size = 0) := Nat.mul_ne_zero (by omega) (by omega)
  have hlen : (xs ++ (Builtin.zeroCells z.cells k).toList).length = (i + k) * i0.size := by
    rw [List.length_append, hxl, Array.length_toList, size_zeroCells, hzs, Nat.add_mul]
  refine ⟨grownCap w (i + k) cap e, w.drew.alloc (.cells (xs.toArray ++ Builtin.zeroCells z.cells k ++ Builtin.zeroCells z.cells (grownCap w (i + k) cap e - (i + k))) e), ?_, ⟨hlen, .inr ⟨w.heap.size, _, _, rfl, hbase, heap_alloc_new w.drew _, hge, hcm, ?_, ?_⟩⟩, ⟨rfl, rfl, rfl, by simp, fun j hj _ => heap_alloc_old w.drew _ hj⟩⟩
  · simp [Builtin.append_, run_underlying ht, run_underlying htn, sizeOf, typeInfo, zeroValue, hi0, hz, asInt, asIntOf, hw, hn, hneg, hns, h63', h48', h48i, Question.forced, hfo, newRow, grownCap]
  · simp only [Array.size_append, List.size_toArray, size_zeroCells, hzs, hxl, ← Nat.add_mul]
    congr 1
    omega
  · simp only [Array.toList_append]
    rw [← hlen]
    exact List.take_left

/-- copy of m rows of whatever cells into a row -/
theorem run_copy_rows {P : Program} (w : World) (dT sT ty elem : TypeId) (g o dLen dCap : Nat) (a : Addr) (sLen sCap : Nat) (cur : Array Value) (t : TypeId) (cs : List Value) (i0 : TypeInfo) (m : Nat)
    (hu : P.underlying dT = some (.slice elem)) (hi : P.info? elem = some i0)
    (hg : w.heap[g]? = some (.cells cur t (0, 0))) (hm : m = Nat.min sLen dLen) (hn : cs.length = m * i0.size)
    (hsrc : ∀ j v, cs[j]? = some v → w.cell? (a.add j) = some v) (hfit : o + cs.length ≤ cur.size) (h1 : ∀ v ∈ cs, v.oneCell' = true) :
    (Builtin.copy_ #[dT, sT] ty #[.slice (some ⟨g, o, none⟩) dLen dCap, .slice (some a) sLen sCap]).run P w =
      .ok (goInt m) (w.setRow g (cur.toList.take o ++ cs ++ cur.toList.drop (o + cs.length)).toArray) := by
  have hf := run_firstCells_some (P := P) w i0.size m a sLen sCap cs hn hsrc
  have hst := run_storeCells_at P g o t cs 0 cur w hg (by simpa using hfit) h1
  rw [Nat.add_zero] at hst
  rw [hm] at hf ⊢
  simp [Builtin.copy_, run_underlying hu, Builtin.lenOf, sizeOf, typeInfo, hi, hf, hst]

/-- copy of m rows into a row that is owned -/
theorem copy_own {P : Program} {w : World} {base : Nat} {dT sT ty e : TypeId} {i0 : TypeInfo} {size g n cap : Nat} {xs : List Value} (h : w.ownsRow base e size (.slice (some ⟨g, 0, none⟩) n cap) n xs)
    (o dLen dCap : Nat) (a : Addr) (sLen sCap : Nat) (cs : List Value) (m : Nat) (hu : P.underlying dT = some (.slice e)) (hi : P.info? e = some i0) (hsz : i0.size = size)
    (hm : m = Nat.min sLen dLen) (hn : cs.length = m * size) (hsrc : ∀ j v, cs[j]? = some v → w.cell? (a.add j) = some v) (hfit : o + cs.length ≤ n * size) (h1 : ∀ v ∈ cs, v.oneCell' = true) :
    ∃ w', (Builtin.copy_ #[dT, sT] ty #[.slice (some ⟨g, o, none⟩) dLen dCap, .slice (some a) sLen sCap]).run P w = .ok (goInt m) w' ∧
      w'.ownsRow base e size (.slice (some ⟨g, 0, none⟩) n cap) n (xs.take o ++ cs ++ xs.drop (o + cs.length)) ∧ w.grownBy w' (some g) := by
  subst hsz
  rcases h.2 with ⟨h', _⟩ | ⟨g', cap', cur, h', hb, hg, hnc, hcm, hcs, htake⟩
  · simp at h'
  simp only [Value.slice.injEq, Option.some.injEq, Addr.mk.injEq, and_true, true_and] at h'
  obtain ⟨rfl, rfl⟩ := h'
  have hcl : cur.toList.length = cap * i0.size := by simpa using hcs
  have hle : n * i0.size ≤ cap * i0.size := Nat.mul_le_mul_right _ hnc
  have hrun := run_copy_rows (P := P) w dT sT ty e g o dLen dCap a sLen sCap cur e cs i0 m hu hi hg hm hn hsrc (by omega) h1
  have hll : (cur.toList.take o ++ cs ++ cur.toList.drop (o + cs.length)).length = cap * i0.size := by
    rw [List.length_append, List.length_append, List.length_take, List.length_drop, hcl]; omega
  refine ⟨_, hrun, ⟨?_, .inr ⟨g, cap, _, rfl, hb, setRow_heap w g cur _ e (0, 0) hg, hnc, hcm, by simpa using hll, ?_⟩⟩, ⟨rfl, rfl, rfl, by simp, fun k _ hk => setRow_other w g k _ (fun e => hk (by rw [e]))⟩⟩
  · have := h.1
    rw [List.length_append, List.length_append, List.length_take, List.length_drop]; omega
  · rw [List.toList_toArray, ← htake, List.take_take, Nat.min_eq_left (by omega), List.take_append, List.take_of_length_le (by rw [List.length_append, List.length_take, hcl]; omega)]
    congr 1
    rw [List.length_append, List.length_take, hcl, Nat.min_eq_left (by omega), List.drop_take]

/-- an owned row with room reads as a longer one, whatever stands behind -/
theorem own_longer {w : World} {base : Nat} {e : TypeId} {size g n n' cap : Nat} {xs : List Value} (h : w.ownsRow base e size (.slice (some ⟨g, 0, none⟩) n cap) n xs) (hn : n ≤ n') (hc : n' ≤ cap) :
    ∃ ys, ys.take (n * size) = xs ∧ w.ownsRow base e size (.slice (some ⟨g, 0, none⟩) n' cap) n' ys := by
  rcases h.2 with ⟨h', _⟩ | ⟨g', cap', cur, h', hb, hg, hnc, hcm, hcs, htake⟩
  · simp at h'
  simp only [Value.slice.injEq, Option.some.injEq, Addr.mk.injEq, and_true, true_and] at h'
  obtain ⟨rfl, rfl⟩ := h'
  have hcl : cur.toList.length = cap * size := by simpa using hcs
  have hle : n' * size ≤ cap * size := Nat.mul_le_mul_right _ hc
  have hle2 : n * size ≤ n' * size := Nat.mul_le_mul_right _ hn
  exact ⟨cur.toList.take (n' * size), by rw [List.take_take, Nat.min_eq_left hle2, htake], by rw [List.length_take, hcl]; omega, .inr ⟨g, cap, cur, rfl, hb, hg, hc, hcm, hcs, rfl⟩⟩
end Go.Proofs.YtphbebcbbfbgpacDoor

namespace Go.Proofs.YtphbebcbbfbgpacDoor
open Go Go.RowKit

theorem itm_flat_1 (x : Itm) : flat Itm.cell 3 [x] = [.int .i64 x.id, .string x.data, .int .i64 x.refs] := by
  rw [flat_one]; rfl

set_option maxRecDepth 20000 in
set_option maxHeartbeats 2000000 in
theorem insert_last (v0 : Value) (n b base : Nat) (ls : List Itm) (x : Itm) (w : World) (h : w.ownsRow base 42 3 v0 n (flat Itm.cell 3 ls)) (_hn : n = ls.length) (h24 : n ≤ 24) (hbase : base ≤ w.heap.size)
    (hb : w.heap[b]? = some (.cells #[.int .i64 x.id, .string x.data, .int .i64 x.refs] 42 (0, 0))) :
    Calls Tryd.prog 49 #[v0, .int .i64 n, .slice (some ⟨b, 0, none⟩) 1 1] w fun e w' =>
      ∃ A c, e = .returned (.slice A (n + 1) c) ∧ w'.ownsRow base 42 3 (.slice A (n + 1) c) (n + 1) (flat Itm.cell 3 (ls ++ [x])) ∧ Below base w w' := by
  obtain ⟨A, c, rfl, hnc, hcm, hnil⟩ := own_form h
  obtain ⟨i0, hi, hz0, hz1, hz2⟩ := info_parts infoItem
  have HI := Lib.hid hi
  have HZ0 := Lib.hid hz0
  have HZ1 := Lib.hid hz1
  have HZ2 := Lib.hid hz2
  have HO := Lib.hid h
  have HBB := Lib.hid hb
  have HLT := Lib.hid (fun k hk => (h.lt k hk).1)
  have hc2 : c ≤ 9223372036854775807 := hcm
  clear hi hz0 hz1 hz2 h hb _hn hcm hnil
  go_enter Tryd.func49, Tryd.ntmps49
  go_wp2_with (at_builtin; refine wpList_append_own _ rfl (.tmp 23) (.tmp 24) 27 rfl base 42 i0 _ 3 32 Tryd.underlying27 HI.out HZ0.out HZ1.out HZ2.out rfl (by decide) _ _ _ rfl HO.out ⟨b, 0, none⟩ 1 1 [.int .i64 x.id, .string x.data, .int .i64 x.refs] rfl rfl (World.news_of_block (cs := #[.int .i64 x.id, .string x.data, .int .i64 x.refs]) HBB.out) (by simp [Value.oneCell']) (by unfold maxLen; omega) (by omega) hbase ?_; intro v' w2 hown2 hgr2 _)
  all_goals
    go_ret
    obtain ⟨A2, c2, rfl, _⟩ := own_form hown2
    exact ⟨A2, c2, rfl, by rw [flat_append, itm_flat_1]; exact hown2, (Below.refl _ _).grown hgr2 hbase HLT.out⟩
end Go.Proofs.YtphbebcbbfbgpacDoor

namespace Go.Proofs.YtphbebcbbfbgpacDoor
open Go Go.RowKit

theorem own_shorter {w : World} {base : Nat} {e : TypeId} {size g n i cap : Nat} {xs : List Value} (h : w.ownsRow base e size (.slice (some ⟨g, 0, none⟩) n cap) n xs) (hi : i ≤ n) :
    w.ownsRow base e size (.slice (some ⟨g, 0, none⟩) i cap) i (xs.take (i * size)) := by
  rcases h.2 with ⟨h', _⟩ | ⟨g', cap', cur, h', hb, hg, hnc, hcm, hcs, htake⟩
  · simp at h'
  simp only [Value.slice.injEq, Option.some.injEq, Addr.mk.injEq, and_true, true_and] at h'
  obtain ⟨rfl, rfl⟩ := h'
  have hle : i * size ≤ n * size := Nat.mul_le_mul_right _ hi
  exact ⟨by rw [List.length_take, h.1]; omega, .inr ⟨g, cap, cur, rfl, hb, hg, by omega, hcm, hcs, by rw [← htake, List.take_take, Nat.min_eq_left hle]⟩⟩

theorem ins_list {α : Type} (P x D F : List α) (a : Nat) (ha : P.length + x.length = a) (hT : (P ++ x ++ D).length ≤ a + F.length) : (P ++ x ++ D).take a ++ F ++ (P ++ x ++ D).drop (a + F.length) = P ++ x ++ F := by
  rw [List.drop_of_length_le hT, List.append_nil, List.take_left' (by rw [List.length_append, ha])]

set_option maxRecDepth 20000 in
set_option maxHeartbeats 2000000 in
theorem insert_grow (g n cap i b base : Nat) (ls : List Itm) (x : Itm) (w : World) (h : w.ownsRow base 42 3 (.slice (some ⟨g, 0, none⟩) n cap) n (flat Itm.cell 3 ls)) (hn : n = ls.length) (h24 : n ≤ 24) (hi : i < n) (hcap : cap < n + 1) (hcap2 : n ≤ cap) (hbase : base ≤ w.heap.size)
    (hb : w.heap[b]? = some (.cells #[.int .i64 x.id, .string x.data, .int .i64 x.refs] 42 (0, 0))) :
    Calls Tryd.prog 49 #[.slice (some ⟨g, 0, none⟩) n cap, .int .i64 i, .slice (some ⟨b, 0, none⟩) 1 1] w fun e w' =>
      ∃ A c, e = .returned (.slice A (n + 1) c) ∧ w'.ownsRow base 42 3 (.slice A (n + 1) c) (n + 1) (flat Itm.cell 3 (ls.take i ++ [x] ++ ls.drop i)) ∧ Below base w w' := by
  obtain ⟨i0, hi0, hz0, hz1, hz2⟩ := info_parts infoItem
  have hsh := own_shorter h (Nat.le_of_lt hi)
  obtain ⟨c', w2, hrun, hown2, hgr2⟩ := run_append_make (P := Tryd.prog) (ty := 27) (tn := 3) (kk := .i64) (k := n + 1 - i) Tryd.underlying27 Tryd.underlying3 hi0 hz0 hz1 rfl (by decide) hsh hbase (by omega) (by omega) (by omega) (by rw [hz2]; omega)
  rw [show ((n + 1 - i : Nat) : Int) = (n : Int) + 1 - (i : Int) from by omega] at hrun
  have hcge : i + (n + 1 - i) ≤ c' := by
    obtain ⟨_, _, hce, hle, _, _⟩ := own_form hown2
    simp only [Value.slice.injEq, true_and] at hce
    obtain ⟨_, rfl⟩ := hce
    exact hle
  have hsum : i + (n + 1 - i) = n + 1 := by omega
  rw [hsum] at hrun hown2 hcge
  have hb2 : Below w.heap.size w w2 := (Below.refl _ _).grown hgr2 (Nat.le_refl _) (by intro k hk; cases hk)
  have hblt : b < w.heap.size := (Array.getElem?_eq_some_iff.1 hb).1
  have hb3 : w2.heap[b]? = some (.cells #[.int .i64 x.id, .string x.data, .int .i64 x.refs] 42 (0, 0)) := by rw [← hb]; exact hb2.block b hblt
  obtain ⟨w3, hcp1, hown3, hgr3⟩ := copy_own (P := Tryd.prog) (dT := 27) (sT := 27) (ty := 3) hown2 (i * 3) (n + 1 - i) (c' - i) ⟨b, 0, none⟩ 1 1 [.int .i64 x.id, .string x.data, .int .i64 x.refs] 1 Tryd.underlying27 hi0 hz1 (by show 1 = min 1 (n + 1 - i); omega) rfl
    (World.news_of_block (cs := #[.int .i64 x.id, .string x.data, .int .i64 x.refs]) hb3) (by simp; omega) (by simp [Value.oneCell'])
  have hl0 : ((flat Itm.cell 3 ls).take (i * 3)).length = i * 3 := by rw [List.length_take, flat_length]; omega
  have hb4 : Below w.heap.size w w3 := hb2.grown hgr3 hb2.size (by intro j hj; cases hj; exact Nat.le_refl _)
  have hglt : g < w.heap.size := (h.lt g rfl).2
  obtain ⟨w4, hcp2, hown4, hgr4⟩ := copy_own (P := Tryd.prog) (w := w3.drew) (dT := 27) (sT := 27) (ty := 3) hown3.drew ((i + 1) * 3) (n - i) (c' - (i + 1)) ⟨g, i * 3, none⟩ (n - i) (cap - i) (flat Itm.cell 3 (ls.drop i)) (n - i) Tryd.underlying27 hi0 hz1
    (by show n - i = min (n - i) (n - i); omega) (by rw [flat_length, List.length_drop, hn])
    (by
      intro j u hj
      have hjl := (List.getElem?_eq_some_iff.1 hj).1
      rw [flat_length, List.length_drop] at hjl
      rw [Addr.add_lit]
      have e := (hb4.cell (p := ⟨g, i * 3 + j, none⟩) hglt)
      show w3.cell? ⟨g, i * 3 + j, none⟩ = some u
      rw [e, h.cellAt _ (by omega), ← hj, ← flat_drop, List.getElem?_drop])
    (by rw [flat_length, List.length_drop]; omega) (itm_one _)
  have hne1 : ¬ c' = i := by omega
  have hne2 : ¬ cap = i := by omega
  have hne3 : ¬ c' = i + 1 := by omega
  have HRUN := Lib.hid hrun
  have HO3 := Lib.hid hown3
  have HGR3 := Lib.hid hgr3
  have HO4 := Lib.hid hown4
  have HL0 := Lib.hid hl0
  have HN := Lib.hid hn
  have HB4 := Lib.hid hb4
  have HGR4 := Lib.hid hgr4
  have HO := Lib.hid h
  have HBB := Lib.hid hb
  have HO2 := Lib.hid hown2
  have HGR2 := Lib.hid hgr2
  have HLT := Lib.hid (fun k hk => (h.lt k hk).1)
  have d1 : ((i : Int) == (n : Int)) = false := by rw [beq_eq_false_iff_ne]; omega
  have d2 : decide ((n : Int) + 1 > (cap : Int)) = true := decide_eq_true (by omega)
  clear h hb hn hrun hown2 hgr2 hsh hi0 hz0 hz1 hz2 hsum hb2 hblt hb3 hown3 hgr3 hl0 hb4 hglt hown4 hgr4
  go_enter Tryd.func49, Tryd.ntmps49
  go_wp2_with (at_builtin; refine Lib.wpList_append_run _ rfl (.tmp 34) (.tmp 39) 27 3 rfl _ _ rfl rfl _ _ HRUN.out ?_)
  go_wp2
  have b1 : (0 : Int) ≤ (i : Int) := by omega
  have b2 : (i : Int) ≤ (n : Int) := by omega
  have b3 : (0 : Int) ≤ (i : Int) + 1 := by omega
  have b4 : (i : Int) + 1 ≤ (n : Int) + 1 := by omega
  go_region
  go_wp2
  go_ret
  have ho := HO4.out
  have hl3 := HO3.out.1
  have ht0 : ((flat Itm.cell 3 ls).take (i * 3) ++ (Builtin.zeroCells (Value.agg #[.int .i64 0, .string ByteArray.empty, .int .i64 0]).cells (n + 1 - i)).toList).take (i * 3) = (flat Itm.cell 3 ls).take (i * 3) := List.take_left' HL0.out
  rw [ht0] at ho hl3
  rw [ins_list _ _ _ _ _ (by rw [HL0.out]; simp; omega) (by rw [hl3, flat_length, List.length_drop]; have := HN.out; omega), flat_take] at ho
  refine ⟨_, c', rfl, ?_, ?_⟩
  · rw [flat_append, flat_append, itm_flat_1]; exact ho
  · exact ((((Below.refl _ _).grown HGR2.out hbase (by intro k hk; cases hk)).grown HGR3.out (by have := HGR2.out.size; omega) (by intro k hk; cases hk; exact hbase)).drew).grown HGR4.out (by have := HGR2.out.size; have := HGR3.out.size; simp; omega) (by intro k hk; cases hk; exact hbase)
end Go.Proofs.YtphbebcbbfbgpacDoor
