/- slices.Insert of one item into a row that the call owns. -/
import Derived.Test.YtphbebcbbfbgpabDelete
import Derived.Lib.AppendZeros
namespace Go.Proofs.Ytphbebcbbfbgpab
open Go Go.RowKit

/-- append(s[:i], make([]T, k)...) beyond the room: a new row, the i elements ahead and k zeros behind -/
theorem run_append_make {P : Program} {w : World} {base : Nat} {e t tn ty : TypeId} {i0 : TypeInfo} {z : Value} {size : Nat} {kk kn : IntKind} {g i cap k : Nat} {xs : List Value} (ht : P.underlying t = some (.slice e)) (htn : P.underlying tn = some (.int kn)) (hi0 : P.info? e = some i0)
    (hz : i0.zero = some z) (hsz : i0.size = size) (hzs : z.cells.size = size) (hs0 : 0 < size)
    (h : w.ownsRow base e size (.slice (some ⟨g, 0, none⟩) i cap) i xs) (hbase : base ≤ w.heap.size) (hk : 0 < k) (hgrow : cap < i + k) (h63 : i + k ≤ 1000000) (hby : i0.bytes ≤ 1000) :
    ∃ c' w', (Builtin.append_ #[t, tn] ty #[.slice (some ⟨g, 0, none⟩) i cap, .int kk k]).run P w = .ok (.slice (some ⟨w.heap.size, 0, none⟩) (i + k) c') w' ∧
      w'.ownsRow base e size (.slice (some ⟨w.heap.size, 0, none⟩) (i + k) c') (i + k) (xs ++ (Builtin.zeroCells z.cells k).toList) ∧ w.grownBy w' none := by
  subst hsz
  have hw : IntKind.i64.wrap (k : Int) = k := by rw [IntKind.wrap_i64]; omega
  have hn : ¬ (i + k ≤ cap) := by omega
  have hxl := h.1
  have hold : ∀ j v, xs[j]? = some v → w.cell? ((⟨g, 0, none⟩ : Addr).add j) = some v := h.cells rfl
  have hfo := run_firstCells_some (P := P) w.drew i0.size i ⟨g, 0, none⟩ i cap xs hxl (by simpa using hold)
  have hge := grownCap_ge w (i + k) cap e
  have hm : i + k ≤ maxLen := by unfold maxLen; omega
  have hcm : grownCap w (i + k) cap e ≤ maxLen := grownCap_le_maxLen w (i + k) cap e hm
  have hkb : k * i0.bytes ≤ 1000000 * 1000 := Nat.mul_le_mul (by omega) hby
  have hkb2 : (i + k) * i0.bytes ≤ 1000000 * 1000 := Nat.mul_le_mul h63 hby
  have hfits := growslice_fits (bytes := i0.bytes) hgrow (by omega)
  have h48i : ¬ (281474976710656 < (k : Int) * (i0.bytes : Int)) := by
    rw [← Int.natCast_mul]
    omega
  have h48' : ¬ (281474976710656 < Builtin.nextslicecap (i + k) cap * i0.bytes) := by omega
  have h63' : ¬ (9223372036854775807 < (i : Int) + (k : Int)) := by omega
  have hneg : ¬ ((k : Int) < 0) := by omega
  have hns : ¬ (k * i0.size = 0) := Nat.mul_ne_zero (by omega) (by omega)
  have hlen : (xs ++ (Builtin.zeroCells z.cells k).toList).length = (i + k) * i0.size := by
    rw [List.length_append, hxl, Array.length_toList, size_zeroCells, hzs, Nat.add_mul]
  refine ⟨grownCap w (i + k) cap e, w.drew.alloc (.cells (xs.toArray ++ Builtin.zeroCells z.cells k ++ Builtin.zeroCells z.cells (grownCap w (i + k) cap e - (i + k))) e), ?_, ⟨hlen, .inr ⟨w.heap.size, _, _, rfl, hbase, heap_alloc_new w.drew _, hge, hcm, ?_, ?_⟩⟩, ⟨rfl, rfl, rfl, by simp, fun j hj _ => heap_alloc_old w.drew _ hj⟩⟩
  · simp [Builtin.append_, run_underlying ht, run_underlying htn, sizeOf, typeInfo, zeroValue, hi0, hz, asInt, asIntOf, hw, hn, hneg, hns, h63', h48', h48i, Question.forced, hfo, newRow, grownCap]
  · simp only [Array.size_append, List.size_toArray, size_zeroCells, hzs, hxl, ← Nat.add_mul]
    congr 1
    omega
  · simp only [Array.toList_append]
    rw [← hlen]
    exact List.take_left

/-- copy of m rows of whatever cells into a row -/
theorem run_copy_rows {P : Program} (w : World) (dT sT ty elem : TypeId) (g o dLen dCap : Nat) (a : Addr) (sLen sCap : Nat) (cur : Array Value) (t : TypeId) (cs : List Value) (i0 : TypeInfo) (m : Nat)
    (hu : P.underlying dT = some (.slice elem)) (hi : P.info? elem = some i0)
    (hg : w.heap[g]? = some (.cells cur t (0, 0))) (hm : m = Nat.min sLen dLen) (hn : cs.length = m * i0.size)
    (hsrc : ∀ j v, cs[j]? = some v → w.cell? (a.add j) = some v) (hfit : o + cs.length ≤ cur.size) (h1 : ∀ v ∈ cs, v.oneCell' = true) :
    (Builtin.copy_ #[dT, sT] ty #[.slice (some ⟨g, o, none⟩) dLen dCap, .slice (some a) sLen sCap]).run P w =
      .ok (goInt m) (w.setRow g (cur.toList.take o ++ cs ++ cur.toList.drop (o + cs.length)).toArray) := by
  have hf := run_firstCells_some (P := P) w i0.size m a sLen sCap cs hn hsrc
  have hst := run_storeCells_at P g o t cs 0 cur w hg (by simpa using hfit) h1
  rw [Nat.add_zero] at hst
  rw [hm] at hf ⊢
  simp [Builtin.copy_, run_underlying hu, Builtin.lenOf, sizeOf, typeInfo, hi, hf, hst]

/-- copy of m rows into a row that is owned -/
theorem copy_own {P : Program} {w : World} {base : Nat} {dT sT ty e : TypeId} {i0 : TypeInfo} {size g n cap : Nat} {xs : List Value} (h : w.ownsRow base e size (.slice (some ⟨g, 0, none⟩) n cap) n xs)
    (o dLen dCap : Nat) (a : Addr) (sLen sCap : Nat) (cs : List Value) (m : Nat) (hu : P.underlying dT = some (.slice e)) (hi : P.info? e = some i0) (hsz : i0.size = size)
    (hm : m = Nat.min sLen dLen) (hn : cs.length = m * size) (hsrc : ∀ j v, cs[j]? = some v → w.cell? (a.add j) = some v) (hfit : o + cs.length ≤ n * size) (h1 : ∀ v ∈ cs, v.oneCell' = true) :
    ∃ w', (Builtin.copy_ #[dT, sT] ty #[.slice (some ⟨g, o, none⟩) dLen dCap, .slice (some a) sLen sCap]).run P w = .ok (goInt m) w' ∧
      w'.ownsRow base e size (.slice (some ⟨g, 0, none⟩) n cap) n (xs.take o ++ cs ++ xs.drop (o + cs.length)) ∧ w.grownBy w' (some g) := by
  subst hsz
  rcases h.2 with ⟨h', _⟩ | ⟨g', cap', cur, h', hb, hg, hnc, hcm, hcs, htake⟩
  · simp at h'
  simp only [Value.slice.injEq, Option.some.injEq, Addr.mk.injEq, and_true, true_and] at h'
  obtain ⟨rfl, rfl⟩ := h'
  have hcl : cur.toList.length = cap * i0.size := by simpa using hcs
  have hle : n * i0.size ≤ cap * i0.size := Nat.mul_le_mul_right _ hnc
  have hrun := run_copy_rows (P := P) w dT sT ty e g o dLen dCap a sLen sCap cur e cs i0 m hu hi hg hm hn hsrc (by omega) h1
  have hll : (cur.toList.take o ++ cs ++ cur.toList.drop (o + cs.length)).length = cap * i0.size := by
    rw [List.length_append, List.length_append, List.length_take, List.length_drop, hcl]; omega
  refine ⟨_, hrun, ⟨?_, .inr ⟨g, cap, _, rfl, hb, setRow_heap w g cur _ e (0, 0) hg, hnc, hcm, by simpa using hll, ?_⟩⟩, ⟨rfl, rfl, rfl, by simp, fun k _ hk => setRow_other w g k _ (fun e => hk (by rw [e]))⟩⟩
  · have := h.1
    rw [List.length_append, List.length_append, List.length_take, List.length_drop]; omega
  · rw [List.toList_toArray, ← htake, List.take_take, Nat.min_eq_left (by omega), List.take_append, List.take_of_length_le (by rw [List.length_append, List.length_take, hcl]; omega)]
    congr 1
    rw [List.length_append, List.length_take, hcl, Nat.min_eq_left (by omega), List.drop_take]

/-- an owned row with room reads as a longer one, whatever stands behind -/
theorem own_longer {w : World} {base : Nat} {e : TypeId} {size g n n' cap : Nat} {xs : List Value} (h : w.ownsRow base e size (.slice (some ⟨g, 0, none⟩) n cap) n xs) (hn : n ≤ n') (hc : n' ≤ cap) :
    ∃ ys, ys.take (n * size) = xs ∧ w.ownsRow base e size (.slice (some ⟨g, 0, none⟩) n' cap) n' ys := by
  rcases h.2 with ⟨h', _⟩ | ⟨g', cap', cur, h', hb, hg, hnc, hcm, hcs, htake⟩
  · simp at h'
  simp only [Value.slice.injEq, Option.some.injEq, Addr.mk.injEq, and_true, true_and] at h'
  obtain ⟨rfl, rfl⟩ := h'
  have hcl : cur.toList.length = cap * size := by simpa using hcs
  have hle : n' * size ≤ cap * size := Nat.mul_le_mul_right _ hc
  have hle2 : n * size ≤ n' * size := Nat.mul_le_mul_right _ hn
  exact ⟨cur.toList.take (n' * size), by rw [List.take_take, Nat.min_eq_left hle2, htake], by rw [List.length_take, hcl]; omega, .inr ⟨g, cap, cur, rfl, hb, hg, hc, hcm, hcs, rfl⟩⟩
end Go.Proofs.Ytphbebcbbfbgpab
