/- What keeping data makes (P2.3): no program in sight. -/
import Derived.Test.YtphbebcbbfbgpabIndex
namespace Go.Proofs.Ytphbebcbbfbgpab
open Go

/-- the least number that no item has -/
def freeFrom : Nat → List Itm → Nat
  | i, [] => i
  | i, x :: r => if x.id = (i : Int) then freeFrom (i + 1) r else i
def freeIx (ls : List Itm) : Nat := freeFrom 0 ls
theorem freeFrom_spec : ∀ (ls : List Itm) (i : Nat), ∃ k, freeFrom i ls = i + k ∧ k ≤ ls.length ∧ (∀ j (_ : j < k) (hj : j < ls.length), ls[j].id = ((i + j : Nat) : Int)) ∧ (∀ h : k < ls.length, ls[k].id ≠ ((i + k : Nat) : Int))
  | [], i => ⟨0, rfl, Nat.le_refl _, fun j h _ => absurd h (by omega), fun h => absurd h (by simp)⟩
  | x :: r, i => by
    by_cases hx : x.id = (i : Int)
    · obtain ⟨k, h1, h2, h3, h4⟩ := freeFrom_spec r (i + 1)
      refine ⟨k + 1, by rw [freeFrom, if_pos hx, h1]; omega, by simpa using h2, fun j hj hl => ?_, fun h => ?_⟩
      · cases j with
        | zero => simpa using hx
        | succ j =>
          have := h3 j (by omega) (by simpa using hl)
          rw [List.getElem_cons_succ, this]
          omega
      · have := h4 (by simpa using h)
        rw [List.getElem_cons_succ]
        intro e
        apply this
        rw [e]
        omega
    · exact ⟨0, by rw [freeFrom, if_neg hx]; rfl, Nat.zero_le _, fun j h _ => absurd h (by omega), fun _ => by simpa using hx⟩
theorem freeIx_spec (ls : List Itm) : freeIx ls ≤ ls.length ∧ (∀ j (_ : j < freeIx ls) (hj : j < ls.length), ls[j].id = (j : Int)) ∧ (∀ h : freeIx ls < ls.length, ls[freeIx ls].id ≠ (freeIx ls : Int)) := by
  obtain ⟨k, h1, h2, h3, h4⟩ := freeFrom_spec ls 0
  have e : freeIx ls = k := by rw [freeIx, h1]; omega
  subst e
  refine ⟨h2, fun j h hj => ?_, fun h => ?_⟩
  · have := h3 j h hj
    rwa [Nat.zero_add] at this
  · have := h4 h
    rwa [Nat.zero_add] at this
theorem free_above {ls : List Itm} (g : Good ls) {j : Nat} (h : freeIx ls ≤ j) (hj : j < ls.length) : (freeIx ls : Int) < ls[j].id := by
  obtain ⟨h1, h2, h3⟩ := freeIx_spec ls
  have hf : freeIx ls < ls.length := by omega
  have h4 := h3 hf
  have h5 := g.le h hj
  have h6 : (freeIx ls : Int) ≤ ls[freeIx ls].id := by
    rcases Nat.eq_zero_or_pos (freeIx ls) with h0 | h0
    · have := (g.2.ok _ (List.getElem_mem hf)).1
      omega
    · have h7 := h2 (freeIx ls - 1) (by omega) (by omega)
      have h8 := g.lt (j := freeIx ls - 1) (k := freeIx ls) (by omega) hf
      omega
  omega
theorem free_none {ls : List Itm} (g : Good ls) : ∀ x ∈ ls, x.id ≠ (freeIx ls : Int) := by
  intro x hx
  obtain ⟨j, hj, rfl⟩ := List.getElem_of_mem hx
  rcases Nat.lt_or_ge j (freeIx ls) with h | h
  · rw [(freeIx_spec ls).2.1 j h hj]; omega
  · have := free_above g h hj; omega
theorem free_low {ls : List Itm} (g : Good ls) : ls.filter (fun x => decide (x.id < (freeIx ls : Int))) = ls.take (freeIx ls) := by
  conv => lhs; rw [← List.take_append_drop (freeIx ls) ls]
  rw [List.filter_append, List.filter_eq_self.2, List.filter_eq_nil_iff.2, List.append_nil]
  · intro x hx
    obtain ⟨j, hj, rfl⟩ := List.getElem_of_mem hx
    rw [List.length_drop] at hj
    have := free_above g (j := freeIx ls + j) (by omega) (by omega)
    rw [List.getElem_drop]
    simp; omega
  · intro x hx
    obtain ⟨j, hj, rfl⟩ := List.getElem_of_mem hx
    rw [List.length_take] at hj
    have := (freeIx_spec ls).2.1 j (by omega) (by omega)
    rw [List.getElem_take, this]
    simp; omega
theorem free_high {ls : List Itm} (g : Good ls) : ls.filter (fun x => decide (x.id > (freeIx ls : Int))) = ls.drop (freeIx ls) := by
  conv => lhs; rw [← List.take_append_drop (freeIx ls) ls]
  rw [List.filter_append, List.filter_eq_nil_iff.2, List.filter_eq_self.2, List.nil_append]
  · intro x hx
    obtain ⟨j, hj, rfl⟩ := List.getElem_of_mem hx
    rw [List.length_drop] at hj
    have := free_above g (j := freeIx ls + j) (by omega) (by omega)
    rw [List.getElem_drop]
    simp; omega
  · intro x hx
    obtain ⟨j, hj, rfl⟩ := List.getElem_of_mem hx
    rw [List.length_take] at hj
    have := (freeIx_spec ls).2.1 j (by omega) (by omega)
    rw [List.getElem_take, this]
    simp; omega

/-- P2.3: the items, the item's number, the error's number -/
noncomputable def keptR (ls : List Itm) (data : ByteArray) : List Itm × Int × Int :=
  if goodB ls then
    if data.size ≤ 48 then
      match ls.findIdx? (fun x => decide (x.data = data)) with
      | some k => if (ls.getD k default).refs = 32 then ([], 0, 1) else (ls.set k { ls.getD k default with refs := (ls.getD k default).refs + 1 }, (ls.getD k default).id, 0)
      | none => if freeIx ls < 24 then (ls.take (freeIx ls) ++ [⟨freeIx ls, data, 1⟩] ++ ls.drop (freeIx ls), freeIx ls, 0) else ([], 0, 1)
    else ([], 0, 1)
  else ([], 0, 7)
theorem kept_bad {ls : List Itm} (d : ByteArray) (h : goodB ls = false) : keptR ls d = ([], 0, 7) := by rw [keptR, h]; rfl
theorem kept_long {ls : List Itm} {d : ByteArray} (h : goodB ls = true) (hd : ¬ d.size ≤ 48) : keptR ls d = ([], 0, 1) := by rw [keptR, if_pos h, if_neg hd]
theorem kept_full {ls : List Itm} {d : ByteArray} {k : Nat} (h : goodB ls = true) (hd : d.size ≤ 48) (hk : ls.findIdx? (fun x => decide (x.data = d)) = some k) (hl : k < ls.length) (hr : ls[k].refs = 32) : keptR ls d = ([], 0, 1) := by
  rw [keptR, if_pos h, if_pos hd, hk]
  have e : ls.getD k default = ls[k] := by rw [List.getD_eq_getElem?_getD, List.getElem?_eq_getElem hl]; rfl
  simp only [e]
  rw [if_pos hr]
theorem kept_up {ls : List Itm} {d : ByteArray} {k : Nat} (h : goodB ls = true) (hd : d.size ≤ 48) (hk : ls.findIdx? (fun x => decide (x.data = d)) = some k) (hl : k < ls.length) (hr : ls[k].refs ≠ 32) :
    keptR ls d = (ls.set k { ls[k] with refs := ls[k].refs + 1 }, ls[k].id, 0) := by
  rw [keptR, if_pos h, if_pos hd, hk]
  have e : ls.getD k default = ls[k] := by rw [List.getD_eq_getElem?_getD, List.getElem?_eq_getElem hl]; rfl
  simp only [e]
  rw [if_neg hr]
theorem kept_no {ls : List Itm} {d : ByteArray} (h : goodB ls = true) (hd : d.size ≤ 48) (hk : ls.findIdx? (fun x => decide (x.data = d)) = none) (hf : ¬ freeIx ls < 24) : keptR ls d = ([], 0, 1) := by
  rw [keptR, if_pos h, if_pos hd, hk]
  simp only
  rw [if_neg hf]
theorem kept_new {ls : List Itm} {d : ByteArray} (h : goodB ls = true) (hd : d.size ≤ 48) (hk : ls.findIdx? (fun x => decide (x.data = d)) = none) (hf : freeIx ls < 24) :
    keptR ls d = (ls.take (freeIx ls) ++ [⟨freeIx ls, d, 1⟩] ++ ls.drop (freeIx ls), ((freeIx ls : Nat) : Int), 0) := by
  rw [keptR, if_pos h, if_pos hd, hk]
  simp only
  rw [if_pos hf]
end Go.Proofs.Ytphbebcbbfbgpab
