/- The plain data of the program as Lean sees it, and what each layer computes on it: no program in sight. -/
import Derived.Test.YtphbebcbbfbgpabMem
namespace Go.Proofs.Ytphbebcbbfbgpab
open Go

structure Itm where
  id : Int
  data : ByteArray
  refs : Int
  deriving DecidableEq, Inhabited

def Itm.cell (x : Itm) : Nat → Value
  | 0 => .int .i64 x.id
  | 1 => .string x.data
  | _ => .int .i64 x.refs

def itmOk (x : Itm) : Prop := 0 ≤ x.id ∧ x.id < 24 ∧ x.data.size ≤ 48 ∧ 1 ≤ x.refs ∧ x.refs ≤ 32
instance (x : Itm) : Decidable (itmOk x) := by unfold itmOk; exact inferInstance

/-- All but the count of P2.1. -/
structure GoodPre (l : List Itm) : Prop where
  ok : ∀ x ∈ l, itmOk x
  ids : l.Pairwise (fun x y => x.id < y.id)
  datas : l.Pairwise (fun x y => x.data ≠ y.data)
def Good (l : List Itm) : Prop := l.length ≤ 24 ∧ GoodPre l
open Classical in
noncomputable def goodN (l : List Itm) : Int := if Good l then 0 else 7

theorem GoodPre.nil : GoodPre [] := ⟨by simp, .nil, .nil⟩
theorem GoodPre.snoc {l : List Itm} {x : Itm} (h : GoodPre l) (hx : itmOk x) (hi : ∀ y ∈ l, y.id < x.id) (hd : ∀ y ∈ l, y.data ≠ x.data) : GoodPre (l ++ [x]) where
  ok := by
    intro y hy
    rcases List.mem_append.1 hy with h1 | h1
    · exact h.ok y h1
    · rw [List.mem_singleton.1 h1]; exact hx
  ids := List.pairwise_append.2 ⟨h.ids, by simp, fun a ha b hb => by rw [List.mem_singleton.1 hb]; exact hi a ha⟩
  datas := List.pairwise_append.2 ⟨h.datas, by simp, fun a ha b hb => by rw [List.mem_singleton.1 hb]; exact hd a ha⟩
theorem GoodPre.left {l r : List Itm} (h : GoodPre (l ++ r)) : GoodPre l :=
  ⟨fun x hx => h.ok x (List.mem_append_left _ hx), (List.pairwise_append.1 h.ids).1, (List.pairwise_append.1 h.datas).1⟩
theorem take_snoc {α : Type} (l : List α) (k : Nat) (h : k < l.length) : l.take (k + 1) = l.take k ++ [l[k]] := List.take_succ_eq_append_getElem h
theorem GoodPre.takeSucc {l : List Itm} {k : Nat} (h : GoodPre (l.take k)) (hk : k < l.length) (hx : itmOk l[k]) (hp : 0 < k → (l[k - 1]'(by omega)).id < l[k].id)
    (hd : l[k].data ∉ (l.take k).map (·.data)) : GoodPre (l.take (k + 1)) := by
  rw [take_snoc l k hk]
  refine h.snoc hx (fun y hy => ?_) (fun y hy e => hd (List.mem_map.2 ⟨y, hy, e⟩))
  obtain ⟨j, hj, rfl⟩ := List.getElem_of_mem hy
  rw [List.length_take] at hj
  have h2 := hp (by omega)
  rw [List.getElem_take]
  by_cases hjk : j = k - 1
  · subst hjk; exact h2
  · have h3 := List.pairwise_iff_getElem.1 h.ids j (k - 1) (by rw [List.length_take]; omega) (by rw [List.length_take]; omega) (by omega)
    rw [List.getElem_take, List.getElem_take] at h3
    omega
theorem goodN_no {l : List Itm} {k : Nat} (hk : k < l.length) (h : itmOk l[k] → (0 < k → (l[k - 1]'(by omega)).id < l[k].id) → l[k].data ∉ (l.take k).map (·.data) → False) : goodN l = 7 := by
  unfold goodN
  rw [if_neg]
  rintro ⟨_, g⟩
  have hl : l = l.take k ++ l.drop k := (List.take_append_drop k l).symm
  refine h (g.ok _ (List.getElem_mem hk)) (fun h0 => List.pairwise_iff_getElem.1 g.ids _ _ _ _ (by omega)) (fun hm => ?_)
  obtain ⟨y, hy, e⟩ := List.mem_map.1 hm
  obtain ⟨j, hj, rfl⟩ := List.getElem_of_mem hy
  rw [List.length_take] at hj
  rw [List.getElem_take] at e
  exact List.pairwise_iff_getElem.1 g.datas j k (by omega) hk (by omega) e
theorem goodN_long {l : List Itm} (h : 24 < l.length) : goodN l = 7 := by
  unfold goodN; rw [if_neg (fun g => by have := g.1; omega)]
theorem goodN_yes {l : List Itm} (h : l.length ≤ 24) (g : GoodPre l) : goodN l = 0 := by
  unfold goodN; rw [if_pos ⟨h, g⟩]
theorem notGood_pair {l : List Itm} {j k : Nat} (hjk : j < k) (hk : k < l.length) (h : l[k].id ≤ (l[j]'(by omega)).id ∨ (l[j]'(by omega)).data = l[k].data) : ¬ Good l := by
  rintro ⟨_, g⟩
  rcases h with h | h
  · have := List.pairwise_iff_getElem.1 g.ids j k (by omega) hk hjk
    omega
  · exact List.pairwise_iff_getElem.1 g.datas j k (by omega) hk hjk h
theorem notGood_item {l : List Itm} {k : Nat} (hk : k < l.length) (h : ¬ itmOk l[k]) : ¬ Good l := fun g => h (g.2.ok _ (List.getElem_mem hk))
theorem notGood_long {l : List Itm} (h : 24 < l.length) : ¬ Good l := fun g => by have := g.1; omega
open Classical in
noncomputable def goodB (l : List Itm) : Bool := decide (Good l)
theorem goodB_false {l : List Itm} (h : ¬ Good l) : goodB l = false := by simp [goodB, h]
theorem goodB_true {l : List Itm} (h : Good l) : goodB l = true := by simp [goodB, h]
theorem goodN_eq (l : List Itm) : goodN l = if goodB l then 0 else 7 := by
  unfold goodN goodB
  by_cases g : Good l <;> simp [g]
end Go.Proofs.Ytphbebcbbfbgpab
