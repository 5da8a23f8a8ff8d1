/- Arguments that are writes, acts, raw numbers, as they come in. -/
import Derived.Test.YtphbebcbbfbgpabOpen
import Derived.Test.YtphbebcbbfbgpabPlainWrites
namespace Go.Proofs.Ytphbebcbbfbgpab
open Go Go.RowKit Go.ChangeShapes Go.WideShapes Go.ChangeAt Go.Deep

def Wrt.wf (x : Wrt) : Prop := i64Ok x.block ∧ strOk x.data
section
variable {H : Type} {enc : TypeId × Value → H} {P : Program} {w : World} {base : Nat} {spare : Nat → Bool} {held : Bool}
theorem read_wrt {tI tS e : TypeId} {f0 f1 : Field} {n : Nat} {cs : List Value} {x : DataW H × List MemPlace} (he : P.underlying e = some (.struct #[f0, f1])) (hone : oneCellFields P #[f0, f1] = true) (hC : P.cellsOf e = 2)
    (h0 : f0.type = tI) (h1 : f1.type = tS) (hI : P.underlying tI = some (.int .i64)) (hS : P.underlying tS = some .string)
    (h : DataW.trod enc P w base spare held n e cs = some x) : ∃ a : Wrt, a.wf ∧ ∀ i, i < 2 → cs[i]? = some (a.cell i) := by
  obtain ⟨m, hf⟩ := open_struct he hone hC h
  obtain ⟨v0, y0, e0, t0⟩ := hf 0 f0 rfl
  obtain ⟨v1, y1, e1, t1⟩ := hf 1 f1 rfl
  rw [h0] at t0; rw [h1] at t1
  obtain ⟨a, ha, _, wa⟩ := DataW.trod_int hI t0
  obtain ⟨s, hs, _, ws⟩ := DataW.trod_string hS t1
  simp only [List.cons.injEq, and_true] at ha hs
  subst ha hs
  refine ⟨⟨a, s⟩, ⟨wa, ws⟩, fun i hi => ?_⟩
  match i, hi with
  | 0, _ => exact e0
  | 1, _ => exact e1
end
end Go.Proofs.Ytphbebcbbfbgpab
