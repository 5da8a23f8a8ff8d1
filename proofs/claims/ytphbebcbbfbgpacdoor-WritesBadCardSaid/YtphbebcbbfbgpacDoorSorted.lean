/- A row of writes of the call's own, sorted by the library: between the words of append and those of the sort. -/
import Derived.Test.YtphbebcbbfbgpacDoorPressRun
import Derived.Shelf.SlSortCmp.WholeK
import Derived.Sort.OwnSorted
namespace Go.Proofs.YtphbebcbbfbgpacDoor
open Go Go.RowKit Go.Sort
set_option linter.unusedSimpArgs false
set_option linter.unusedVariables false

/-- writes of blocks with small numbers -/
def Wsm : Type := { x : Wrt // 0 ≤ x.block ∧ x.block < 100 }
instance : Inhabited Wsm := ⟨⟨⟨0, ⟨#[]⟩⟩, by decide⟩⟩
def Wsm.w (x : Wsm) : Wrt := x.1
/-- the cells of a write -/
def Wsm.enc (x : Wsm) : List Value := [.int .i64 x.w.block, .string x.w.data]
/-- by block -/
def byBlock (x y : Wsm) : Int := x.w.block - y.w.block
theorem flatK_wrt (ds : List Wsm) : flatK Wsm.enc 2 ds.toArray = (flat Wrt.cell 2 (ds.map Wsm.w)).toArray := by
  apply Array.ext
  · rw [size_flatK]; simp [flat_length]
  · intro t h1 h2
    rw [size_flatK] at h1
    have h1' : t < ds.length * 2 := by simpa using h1
    have hk : t / 2 < ds.length := (Nat.div_lt_iff_lt_mul (by omega)).2 h1'
    have hi : t % 2 < 2 := Nat.mod_lt _ (by omega)
    have e := flat_at (f := Wrt.cell) (size := 2) (ds.map Wsm.w) (t / 2) (t % 2) (by simpa using hk) hi
    rw [show t / 2 * 2 + t % 2 = t by omega] at e
    have e2 : (flat Wrt.cell 2 (ds.map Wsm.w))[t]? = some ((flat Wrt.cell 2 (ds.map Wsm.w)).toArray[t]'h2) := by simp
    rw [e2] at e
    rw [Option.some.inj e]
    have e3 := get_flatK Wsm.enc 2 ds.toArray t h1
    rw [getElem!_pos _ t (by rw [size_flatK]; exact h1)] at e3
    rw [e3, getElem!_pos ds.toArray (t / 2) (by simpa using hk)]
    simp only [List.getElem_toArray, List.getElem_map]
    rcases (by omega : t % 2 = 0 ∨ t % 2 = 1) with h | h
    · rw [h]; rfl
    · rw [h]; rfl
theorem holdsK_own {w : World} {base g cap n : Nat} {e : TypeId} {ds : List Wsm} (hn : n = ds.length) (h : w.ownsRow base e 2 (.slice (some ⟨g, 0, none⟩) n cap) n (flat Wrt.cell 2 (ds.map Wsm.w))) : HoldsK Wsm.enc 2 w g 0 ds.toArray := by
  unfold HoldsK
  rw [flatK_wrt]
  intro j hj
  have hj2 : j < (flat Wrt.cell 2 (ds.map Wsm.w)).length := by simpa using hj
  have hl : (flat Wrt.cell 2 (ds.map Wsm.w)).length = n * 2 := by rw [flat_length, List.length_map, hn]
  refine ⟨?_, ?_⟩
  · rw [Nat.zero_add, h.cellAt j (by omega), getElem!_pos _ j hj]
    simp [List.getElem?_eq_getElem hj2]
  · rw [Nat.zero_add]; exact h.frozenAt j
theorem take_putF (cur : Array Value) (ts : List Value) (h : ts.length ≤ cur.size) : (putCells id 0 ts.toArray cur).toList.take ts.length = ts := by
  apply List.ext_getElem?
  intro j
  by_cases hj : j < ts.length
  · rw [List.getElem?_take_of_lt hj, Array.getElem?_toList]
    simp [putCells, hj, show j < cur.size by omega]
  · rw [List.getElem?_take_eq_none (by omega), List.getElem?_eq_none (by omega)]
theorem heap_sortedF {w : World} {g n : Nat} {os : Array Obj} {cur : Array Value} {e : TypeId} {fr : Nat × Nat} (d : Array Value) (hb : w.heap[g]? = some (.cells cur e fr)) :
    (grow (putRow id (Sort.ahead w n) g 0 d) os).heap[g]? = some (.cells (putCells id 0 d cur) e fr) := by
  have hg : g < w.heap.size := (Array.getElem?_eq_some_iff.1 hb).1
  rw [heap_grow_old _ _ (by simpa using hg)]
  simp [putRow, mapBlock, Sort.ahead, Array.getElem?_modify, hb, onCells]
theorem grownBy_sortedF {w : World} {g n : Nat} {os : Array Obj} (d : Array Value) : w.grownBy (grow (putRow id (Sort.ahead w n) g 0 d) os) (some g) := by
  refine ⟨rfl, rfl, rfl, by simp, fun k hk hne => ?_⟩
  rw [heap_grow_old _ _ (by simpa using hk)]
  have : g ≠ k := fun e => hne (by rw [e])
  simp [putRow, mapBlock, Sort.ahead, Array.getElem?_modify, this]
theorem own_sortedF {w : World} {base g cap n size m : Nat} {e : TypeId} {os : Array Obj} {xs ts : List Value} (h : w.ownsRow base e size (.slice (some ⟨g, 0, none⟩) n cap) n xs) (hl : ts.length = xs.length) :
    (grow (putRow id (Sort.ahead w m) g 0 ts.toArray) os).ownsRow base e size (.slice (some ⟨g, 0, none⟩) n cap) n ts := by
  obtain ⟨h0, h1 | ⟨g', cap', cur, hv, hb, hh, hn, hc, hs, ht⟩⟩ := h
  · simp at h1
  · simp only [Value.slice.injEq, Option.some.injEq, Addr.mk.injEq, and_true, true_and] at hv
    obtain ⟨rfl, rfl⟩ := hv
    have hle : n * size ≤ cur.size := by rw [hs]; exact Nat.mul_le_mul_right _ hn
    exact ⟨by rw [hl, h0], .inr ⟨g, cap, _, rfl, hb, heap_sortedF _ hh, hn, hc, by simp [putCells, hs], by
      rw [← h0, ← hl]; exact take_putF cur ts (by omega)⟩⟩
/-- A sorted row: the same writes, in order of their blocks. -/
theorem sorted_own {w : World} {base g cap n m : Nat} {e : TypeId} {os : Array Obj} {ds : List Wsm} {d' : Array Wsm} (hn : n = ds.length) (h : w.ownsRow base e 2 (.slice (some ⟨g, 0, none⟩) n cap) n (flat Wrt.cell 2 (ds.map Wsm.w)))
    (hp : PermIn 0 ds.toArray.size ds.toArray d') :
    d'.toList.Perm ds ∧ (sortWorldK Wsm.enc 2 w g 0 m d' os).ownsRow base e 2 (.slice (some ⟨g, 0, none⟩) n cap) n (flat Wrt.cell 2 (d'.toList.map Wsm.w)) ∧ w.grownBy (sortWorldK Wsm.enc 2 w g 0 m d' os) (some g) := by
  obtain ⟨h1, _, h3⟩ := hp
  have hp : d'.toList.Perm ds := by
    have e1 : d'.extract 0 ds.toArray.size = d' := by rw [← h1]; simp
    have e2 : ds.toArray.extract 0 ds.toArray.size = ds.toArray := by simp
    rw [e1, e2] at h3
    exact h3
  refine ⟨hp, ?_, ?_⟩
  · unfold sortWorldK putRowK
    have e : flatK Wsm.enc 2 d' = (flat Wrt.cell 2 (d'.toList.map Wsm.w)).toArray := by
      have := flatK_wrt d'.toList
      simpa using this
    rw [e]
    exact own_sortedF h (by rw [flat_length, flat_length, List.length_map, List.length_map, hp.length_eq])
  · unfold sortWorldK putRowK
    exact grownBy_sortedF _
/-- in order, and no block twice -/
theorem sorted_asc {ds : List Wsm} {d' : Array Wsm} (hs : SortedIn (ltOf byBlock) 0 ds.toArray.size d') (hp : d'.toList.Perm ds) (hd : (ds.map (fun x => x.w.block)).Nodup) : (d'.toList.map Wsm.w).Pairwise (fun x y => x.block < y.block) := by
  have hl : d'.size = ds.length := by simpa using hp.length_eq
  rw [List.pairwise_map]
  refine List.pairwise_iff_getElem.2 (fun i j hi hj hij => ?_)
  have hi' : i < d'.size := by simpa using hi
  have hj' : j < d'.size := by simpa using hj
  have h1 := hs i j (Nat.zero_le _) hij (by simpa [hl] using hj')
  rw [getElem!_pos d' j hj', getElem!_pos d' i hi'] at h1
  have hnd : (d'.toList.map (fun x => x.w.block)).Nodup := (hp.map _).nodup_iff.2 hd
  have hne : d'.toList[i].w.block ≠ d'.toList[j].w.block := by
    rw [List.nodup_iff_pairwise_ne, List.pairwise_map] at hnd
    exact List.pairwise_iff_getElem.1 hnd i j hi hj hij
  rw [Array.getElem_toList, Array.getElem_toList] at hne ⊢
  unfold ltOf byBlock at h1
  simp only [decide_eq_false_iff_not] at h1
  omega
theorem ltOf_block (x y : Wsm) : ltOf byBlock x y = decide (x.w.block < y.w.block) := by
  unfold ltOf byBlock
  by_cases h : x.w.block < y.w.block
  · simp [h]; omega
  · simp [h]; omega
theorem swo_block : SWO (ltOf byBlock) where
  irrefl x := by rw [ltOf_block]; simp
  trans x y z h1 h2 := by rw [ltOf_block] at *; simp at *; omega
  ntrans x y z h1 h2 := by rw [ltOf_block] at *; simp at *; omega
/-- writes with small numbers, as such -/
theorem wsm_of : ∀ {ws : List Wrt}, (∀ x ∈ ws, 0 ≤ x.block ∧ x.block < 100) → ∃ ds : List Wsm, ds.map Wsm.w = ws
  | [], _ => ⟨[], rfl⟩
  | x :: r, h => by
    obtain ⟨ds, hd⟩ := wsm_of (ws := r) (fun y hy => h y (by simp [hy]))
    refine ⟨(show Wsm from ⟨x, h x (by simp)⟩) :: ds, ?_⟩
    show Wsm.w _ :: ds.map Wsm.w = _
    rw [hd]; rfl
end Go.Proofs.YtphbebcbbfbgpacDoor
