/- Writes in plain Lean: which ones may be (P3.3). -/
import Derived.Test.YtphbebcbbfbgpabPlainVol
namespace Go.Proofs.Ytphbebcbbfbgpab
open Go

structure Wrt where
  block : Int
  data : ByteArray
  deriving DecidableEq, Inhabited

def Wrt.cell (x : Wrt) : Nat → Value
  | 0 => .int .i64 x.block
  | _ => .string x.data

/-- the fault of the first write that may not be; the block of the write before -/
def faultL (b : Int) : Option Int → List Wrt → Int
  | _, [] => 0
  | p, x :: r => if 0 ≤ x.block ∧ x.block < b then (if x.data.size ≤ 48 then (if ∀ q, p = some q → q < x.block then faultL b (some x.block) r else 4) else 1) else 6
def writesK (ls : List Wrt) (b : Int) : Int := if ls.length ≤ 12 then faultL b none ls else 1

structure GoodW (ls : List Wrt) (b : Int) : Prop where
  len : ls.length ≤ 12
  lo : ∀ x ∈ ls, 0 ≤ x.block
  hi : ∀ x ∈ ls, x.block < b
  size : ∀ x ∈ ls, x.data.size ≤ 48
  asc : ls.Pairwise (fun x y => x.block < y.block)

theorem faultL_zero (b : Int) : ∀ (ls : List Wrt) (p : Option Int), faultL b p ls = 0 ↔ (∀ x ∈ ls, 0 ≤ x.block ∧ x.block < b ∧ x.data.size ≤ 48) ∧ ls.Pairwise (fun x y => x.block < y.block) ∧ (∀ q, p = some q → ∀ x ∈ ls, q < x.block)
  | [], p => by simp [faultL]
  | x :: r, p => by
    rw [faultL]
    by_cases h1 : 0 ≤ x.block ∧ x.block < b
    · rw [if_pos h1]
      by_cases h2 : x.data.size ≤ 48
      · rw [if_pos h2]
        by_cases h3 : ∀ q, p = some q → q < x.block
        · rw [if_pos h3, faultL_zero b r (some x.block), List.pairwise_cons]
          constructor
          · rintro ⟨a1, a2, a3⟩
            refine ⟨?_, ⟨a3 x.block rfl, a2⟩, ?_⟩
            · intro y hy
              rcases List.mem_cons.1 hy with rfl | hy
              · exact ⟨h1.1, h1.2, h2⟩
              · exact a1 y hy
            · intro q hq y hy
              rcases List.mem_cons.1 hy with rfl | hy
              · exact h3 q hq
              · have := h3 q hq
                have := a3 x.block rfl y hy
                omega
          · rintro ⟨a1, ⟨a2, a3⟩, a4⟩
            exact ⟨fun y hy => a1 y (List.mem_cons_of_mem _ hy), a3, fun q hq => by cases hq; exact a2⟩
        · rw [if_neg h3]
          refine ⟨fun h => absurd h (by omega), fun ⟨_, _, a3⟩ => ?_⟩
          exact absurd (fun q hq => a3 q hq x (by simp)) h3
      · rw [if_neg h2]
        refine ⟨fun h => absurd h (by omega), fun ⟨a1, _⟩ => absurd (a1 x (by simp)).2.2 h2⟩
    · rw [if_neg h1]
      refine ⟨fun h => absurd h (by omega), fun ⟨a1, _⟩ => absurd ⟨(a1 x (by simp)).1, (a1 x (by simp)).2.1⟩ h1⟩
theorem writesK_zero {ls : List Wrt} {b : Int} : writesK ls b = 0 ↔ GoodW ls b := by
  unfold writesK
  by_cases h : ls.length ≤ 12
  · rw [if_pos h, faultL_zero]
    constructor
    · rintro ⟨h1, h2, _⟩
      exact ⟨h, fun x hx => (h1 x hx).1, fun x hx => (h1 x hx).2.1, fun x hx => (h1 x hx).2.2, h2⟩
    · rintro ⟨_, h1, h2, h3, h4⟩
      exact ⟨fun x hx => ⟨h1 x hx, h2 x hx, h3 x hx⟩, h4, fun q hq => by cases hq⟩
  · rw [if_neg h]
    exact ⟨fun e => absurd e (by omega), fun g => absurd g.len h⟩

/-- the block ahead of place i -/
def prevB (ls : List Wrt) (i : Nat) : Option Int := if 0 < i then (ls[i - 1]?).map (·.block) else none
theorem faultL_end (ls : List Wrt) (b : Int) {i : Nat} (h : ls.length ≤ i) (p : Option Int) : faultL b p (ls.drop i) = 0 := by rw [List.drop_of_length_le h]; rfl
theorem faultL_step (ls : List Wrt) (b : Int) {i : Nat} (h : i < ls.length) :
    faultL b (prevB ls i) (ls.drop i) = if 0 ≤ ls[i].block ∧ ls[i].block < b then (if ls[i].data.size ≤ 48 then (if ∀ q, prevB ls i = some q → q < ls[i].block then faultL b (prevB ls (i + 1)) (ls.drop (i + 1)) else 4) else 1) else 6 := by
  have e : prevB ls (i + 1) = some ls[i].block := by simp [prevB, h]
  rw [List.drop_eq_getElem_cons h, faultL, e]
theorem prevB_lt {ls : List Wrt} {i : Nat} (h : i < ls.length) (h0 : 0 < i) : (∀ q, prevB ls i = some q → q < ls[i].block) ↔ (ls[i - 1]'(by omega)).block < ls[i].block := by
  have e : prevB ls i = some (ls[i - 1]'(by omega)).block := by
    unfold prevB; rw [if_pos h0, List.getElem?_eq_getElem (by omega)]; rfl
  rw [e]
  exact ⟨fun h => h _ rfl, fun h q hq => by cases hq; exact h⟩
theorem prevB_zero {ls : List Wrt} (x : Int) : (∀ q, prevB ls 0 = some q → q < x) := fun q hq => by simp [prevB] at hq
end Go.Proofs.Ytphbebcbbfbgpab
