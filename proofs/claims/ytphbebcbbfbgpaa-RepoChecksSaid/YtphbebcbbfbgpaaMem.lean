/- Predicates on memory used by all proofs of this seat: a slice that holds the rows of a list; how it is kept when memory grows. -/
import Derived.WalkKit
import Derived.BigQuiet
import Derived.Deep.Draws
import Derived.Deep.QuietTactic
import Derived.Lib.Hide
import Derived.BigGuardPart
import Derived.Maps.OwnSet
import Derived.Maps.AppendAt
namespace Go.Proofs.Ytphbebcbbfbgpaa
open Go Go.RowKit

/-- The slice value '.slice A n c' holds, row after row of 'size' cells, the list ls; its block lies below B. -/
def Rep {α : Type} (w : World) (B size : Nat) (f : α → Nat → Value) (A : Option Addr) (n : Nat) (ls : List α) : Prop :=
  n = ls.length ∧ (0 < n → ∃ b off, A = some ⟨b, off, none⟩ ∧ b < B ∧ ∀ k (hk : k < ls.length) i, i < size → w.cell? ⟨b, off + k * size + i, none⟩ = some (f ls[k] i))

section
variable {α : Type} {w w' : World} {B B' size n : Nat} {f : α → Nat → Value} {A : Option Addr} {ls : List α}

theorem Rep.len (h : Rep w B size f A n ls) : n = ls.length := h.1

theorem Rep.keep (h : Rep w B size f A n ls) (hk : ∀ p : Addr, p.block < B → w'.cell? p = w.cell? p) : Rep w' B size f A n ls := by
  refine ⟨h.1, fun hn => ?_⟩
  obtain ⟨b, off, e, hb, hc⟩ := h.2 hn
  exact ⟨b, off, e, hb, fun k hk' i hi => (hk _ hb).trans (hc k hk' i hi)⟩

theorem Rep.below (h : Rep w B size f A n ls) (hb : Below B' w w') (hB : B ≤ B') : Rep w' B size f A n ls :=
  h.keep fun _ hp => hb.cell (by omega)

theorem Rep.mono (h : Rep w B size f A n ls) (hB : B ≤ B') : Rep w B' size f A n ls := by
  refine ⟨h.1, fun hn => ?_⟩
  obtain ⟨b, off, e, hb, hc⟩ := h.2 hn
  exact ⟨b, off, e, by omega, hc⟩

theorem Rep.nil (w : World) (B size : Nat) (f : α → Nat → Value) (A : Option Addr) : Rep w B size f A 0 [] := ⟨rfl, fun h => absurd h (by omega)⟩

theorem Rep.at_ {k : Nat} (h : Rep w B size f A n ls) (hk : k < n) : ∃ b off, A = some ⟨b, off, none⟩ ∧ b < B ∧ ∀ i, i < size → w.cell? ⟨b, off + k * size + i, none⟩ = some (f (ls[k]'(by have := h.1; omega)) i) := by
  obtain ⟨b, off, e, hb, hc⟩ := h.2 (by omega)
  exact ⟨b, off, e, hb, fun i hi => hc k _ i hi⟩
end

theorem below_drewN {B : Nat} {a w : World} (h : Below B a w) (n : Nat) : Below B a (w.drewN n) := ⟨h.os, h.tape, h.output, h.size, h.block⟩

theorem toList_inj {a b : ByteArray} (h : a.toList = b.toList) : a = b := by
  rw [ByteArray.toList_eq, ByteArray.toList_eq] at h
  exact ByteArray.ext (Array.toList_inj.1 h)
theorem toList_beq_no {a b : ByteArray} (h : a ≠ b) : (a.toList == b.toList) = false := by
  rw [beq_eq_false_iff_ne]
  exact fun e => h (toList_inj e)
theorem toList_bne_no {a b : ByteArray} (h : a ≠ b) : (a.toList != b.toList) = true := by
  rw [bne_iff_ne]
  exact fun e => h (toList_inj e)

end Go.Proofs.Ytphbebcbbfbgpaa
