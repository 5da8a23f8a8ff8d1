/- Volumes in plain Lean: what makes one valid (P3.1), and the count by which the program tells. -/
import Derived.Test.YtphbebcbbfbgpabPlain
import Derived.Test.YtphbebcbbfbgpabMaps
namespace Go.Proofs.Ytphbebcbbfbgpab
open Go

structure GoodVol (ls : List Itm) (bs : List Int) : Prop where
  good : Good ls
  lo : 1 ≤ bs.length
  hi : bs.length ≤ 32
  ge : ∀ b ∈ bs, -1 ≤ b
  ids : ∀ b ∈ bs, 0 ≤ b → ∃ x ∈ ls, x.id = b
  refs : ∀ x ∈ ls, (bs.count x.id : Int) = x.refs
  data : ∀ x ∈ ls, x.data.size ≠ 0
open Classical in
noncomputable def goodVN (ls : List Itm) (bs : List Int) : Int := if GoodVol ls bs then 0 else 7
open Classical in
noncomputable def goodVB (ls : List Itm) (bs : List Int) : Bool := decide (GoodVol ls bs)
theorem goodVN_no {ls : List Itm} {bs : List Int} (h : ¬ GoodVol ls bs) : goodVN ls bs = 7 := by simp [goodVN, h]
theorem goodVN_yes {ls : List Itm} {bs : List Int} (h : GoodVol ls bs) : goodVN ls bs = 0 := by simp [goodVN, h]
theorem goodVB_no {ls : List Itm} {bs : List Int} (h : ¬ GoodVol ls bs) : goodVB ls bs = false := by simp [goodVB, h]
theorem goodVB_yes {ls : List Itm} {bs : List Int} (h : GoodVol ls bs) : goodVB ls bs = true := by simp [goodVB, h]
theorem goodVN_eq (ls : List Itm) (bs : List Int) : goodVN ls bs = if goodVB ls bs then 0 else 7 := by
  unfold goodVN goodVB
  by_cases g : GoodVol ls bs <;> simp [g]

/-- the blocks that are not empty -/
def notEmpty (bs : List Int) : List Int := bs.filter (fun b => decide (0 ≤ b))
theorem notEmpty_snoc (bs : List Int) (b : Int) : notEmpty (bs ++ [b]) = if 0 ≤ b then notEmpty bs ++ [b] else notEmpty bs := by
  unfold notEmpty
  rw [List.filter_append]
  by_cases h : 0 ≤ b <;> simp [h]
theorem mem_notEmpty {bs : List Int} {b : Int} : b ∈ notEmpty bs ↔ b ∈ bs ∧ 0 ≤ b := by simp [notEmpty]
theorem count_notEmpty {bs : List Int} {b : Int} (h : 0 ≤ b) : (notEmpty bs).count b = bs.count b := by
  unfold notEmpty
  rw [List.count_filter (by simpa using h)]

theorem length_le_of_subset {l m : List Int} (hl : l.Nodup) (h : ∀ x ∈ l, x ∈ m) : l.length ≤ m.length := by
  induction l generalizing m with
  | nil => simp
  | cons a l ih =>
    have ha : a ∈ m := h a (by simp)
    have hl' := List.nodup_cons.1 hl
    have : l.length ≤ (m.erase a).length := ih hl'.2 (fun x hx => by
      have hne : x ≠ a := fun e => hl'.1 (e ▸ hx)
      exact (List.mem_erase_of_ne hne).2 (h x (by simp [hx])))
    rw [List.length_erase_of_mem ha] at this
    have hp : 0 < m.length := List.length_pos_of_mem ha
    simp only [List.length_cons]
    omega

theorem sub_of_length {l m : List Int} (hl : l.Nodup) (h : ∀ x ∈ l, x ∈ m) (hlen : m.length ≤ l.length) : ∀ x ∈ m, x ∈ l := by
  intro x hx
  by_cases hxl : x ∈ l
  · exact hxl
  · have := length_le_of_subset (l := x :: l) (m := m) (List.nodup_cons.2 ⟨hxl, hl⟩) (fun y hy => by
      rcases List.mem_cons.1 hy with rfl | hy
      · exact hx
      · exact h y hy)
    simp at this
    omega

theorem ids_nodup {ls : List Itm} (h : GoodPre ls) : (ls.map (·.id)).Nodup := by
  rw [List.nodup_iff_pairwise_ne, List.pairwise_map]
  exact List.pairwise_iff_getElem.2 (fun i j hi hj hij => by have := List.pairwise_iff_getElem.1 h.ids i j hi hj hij; omega)

/-- The program's test by counting the different blocks. -/
theorem goodVol_iff {ls : List Itm} {bs : List Int} (g : Good ls) (h1 : 1 ≤ bs.length) (h2 : bs.length ≤ 32) (h3 : ∀ b ∈ bs, -1 ≤ b) (h4 : ∀ x ∈ ls, ((notEmpty bs).count x.id : Int) = x.refs) (h5 : ∀ x ∈ ls, x.data.size ≠ 0) :
    GoodVol ls bs ↔ (dedupeI (notEmpty bs)).length = ls.length := by
  have hsub : ∀ y ∈ ls.map (·.id), y ∈ dedupeI (notEmpty bs) := by
    intro y hy
    obtain ⟨x, hx, rfl⟩ := List.mem_map.1 hy
    have hr := (g.2.ok x hx).2.2.2.1
    have hc := h4 x hx
    rw [mem_dedupeI]
    exact List.count_pos_iff.1 (by omega)
  have hl := ids_nodup g.2
  constructor
  · intro gv
    have := length_le_of_subset (nodup_dedupeI (notEmpty bs)) (m := ls.map (·.id)) (fun y hy => by
      rw [mem_dedupeI, mem_notEmpty] at hy
      obtain ⟨x, hx, e⟩ := gv.ids y hy.1 hy.2
      exact List.mem_map.2 ⟨x, hx, e⟩)
    have h6 := length_le_of_subset hl hsub
    simp only [List.length_map] at this h6
    omega
  · intro e
    have := sub_of_length hl hsub (by simp [e])
    refine ⟨g, h1, h2, h3, fun b hb h0 => ?_, fun x hx => ?_, h5⟩
    · obtain ⟨x, hx, e⟩ := List.mem_map.1 (this b (mem_dedupeI.2 (mem_notEmpty.2 ⟨hb, h0⟩)))
      exact ⟨x, hx, e⟩
    · rw [← h4 x hx, count_notEmpty (g.2.ok x hx).1]
end Go.Proofs.Ytphbebcbbfbgpab
