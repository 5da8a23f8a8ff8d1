/- A volume that a call changes in a block of its own: what stands there, and how it is kept. -/
import Derived.Test.YtphbebcbbfbgpabPlainApply
import Derived.Test.YtphbebcbbfbgpabCopy
import Derived.Test.YtphbebcbbfbgpabKeep
import Derived.Test.YtphbebcbbfbgpabWrites
namespace Go.Proofs.Ytphbebcbbfbgpab
open Go Go.RowKit

theorem flat_int_set (bs : List Int) (k : Nat) (v : Int) : (flat intCell 1 bs).set k (.int .i64 v) = flat intCell 1 (bs.set k v) := by
  have e : ∀ l : List Int, flat intCell 1 l = l.map (fun b => Value.int .i64 b) := fun l => by
    induction l with
    | nil => rfl
    | cons b l ih => rw [flat_cons, ih]; rfl
  rw [e, e, List.map_set]
theorem own_setCell_other {w : World} {base : Nat} {e : TypeId} {size : Nat} {v : Value} {n : Nat} {xs : List Value} (h : w.ownsRow base e size v n xs) {p : Addr} (hp : ∀ g, v.ownBlock = some g → g ≠ p.block) (u : Value) : (w.setCell p u).ownsRow base e size v n xs :=
  h.kept (row := some p.block) ⟨rfl, rfl, rfl, by simp [World.setCell], fun k hk hne => Below.heap_setCell _ _ _ _ (fun e => hne (by rw [e]))⟩ (by
    cases hv : v.ownBlock with
    | none => exact .inl rfl
    | some g => exact .inr (fun e => hp g hv (by simpa using e)))
/-- rows of two types lie in two blocks -/
theorem own_apart {w : World} {b1 b2 : Nat} {e1 e2 : TypeId} {s1 s2 : Nat} {v1 v2 : Value} {n1 n2 : Nat} {x1 x2 : List Value} (h1 : w.ownsRow b1 e1 s1 v1 n1 x1) (h2 : w.ownsRow b2 e2 s2 v2 n2 x2) (he : e1 ≠ e2) : ∀ g1 g2, v1.ownBlock = some g1 → v2.ownBlock = some g2 → g1 ≠ g2 := by
  intro g1 g2 hg1 hg2 e
  subst e
  rcases h1.2 with ⟨rfl, _⟩ | ⟨k1, c1, cur1, rfl, _, hh1, _⟩
  · simp [Value.ownBlock] at hg1
  rcases h2.2 with ⟨rfl, _⟩ | ⟨k2, c2, cur2, rfl, _, hh2, _⟩
  · simp [Value.ownBlock] at hg2
  simp only [Value.ownBlock, Option.some.injEq] at hg1 hg2
  subst hg1 hg2
  rw [hh1] at hh2
  simp only [Option.some.injEq, Obj.cells.injEq] at hh2
  exact he hh2.2.1

theorem CopyF.stepB {w W W' : World} {s1 s2 : Value} (h : CopyF w s1 s2 W) (hb : Below (w.heap.size + 2) W W') : CopyF w s1 s2 W' where
  a0 := (hb.cell (by dsimp only; omega)).trans h.a0
  a1 := (hb.cell (by dsimp only; omega)).trans h.a1
  r0 := (hb.cell (by dsimp only; omega)).trans h.r0
  r1 := (hb.cell (by dsimp only; omega)).trans h.r1
  z0 := (hb.frozen (by dsimp only; omega)).trans h.z0
  z1 := (hb.frozen (by dsimp only; omega)).trans h.z1
  sz := Nat.lt_of_lt_of_le h.sz hb.size
  be := h.be.trans (hb.mono (by omega))

structure ApF (w : World) (s1 s2 : Value) (P : Nat) (A1 : Option Addr) (n1 c1 : Nat) (B1 : Option Addr) (m1 d1 : Nat) (its : List Itm) (bs : List Int) (W : World) : Prop where
  cf : CopyF w s1 s2 W
  p0 : W.cell? ⟨P, 0, none⟩ = some (.slice A1 n1 c1)
  p1 : W.cell? ⟨P, 1, none⟩ = some (.slice B1 m1 d1)
  f0 : W.frozen? ⟨P, 0, none⟩ = false
  f1 : W.frozen? ⟨P, 1, none⟩ = false
  pw : w.heap.size + 2 ≤ P
  ps : P < W.heap.size
  oi : W.ownsRow (w.heap.size + 2) 61 3 (.slice A1 n1 c1) n1 (flat Itm.cell 3 its)
  ob : W.ownsRow (w.heap.size + 2) 3 1 (.slice B1 m1 d1) m1 (flat intCell 1 bs)
  si : ∀ g, (Value.slice A1 n1 c1).ownBlock = some g → g ≠ P
  sb : ∀ g, (Value.slice B1 m1 d1).ownBlock = some g → g ≠ P
  ni : n1 = its.length
  nb : m1 = bs.length
section
variable {w W W' : World} {s1 s2 : Value} {P : Nat} {A1 : Option Addr} {n1 c1 : Nat} {B1 : Option Addr} {m1 d1 : Nat} {its : List Itm} {bs : List Int}
theorem ApF.step (h : ApF w s1 s2 P A1 n1 c1 B1 m1 d1 its bs W) (hb : Below W.heap.size W W') : ApF w s1 s2 P A1 n1 c1 B1 m1 d1 its bs W' where
  cf := h.cf.step hb
  p0 := (hb.cell h.ps).trans h.p0
  p1 := (hb.cell h.ps).trans h.p1
  f0 := (hb.frozen h.ps).trans h.f0
  f1 := (hb.frozen h.ps).trans h.f1
  pw := h.pw
  ps := Nat.lt_of_lt_of_le h.ps hb.size
  oi := own_below h.oi hb
  ob := own_below h.ob hb
  si := h.si
  sb := h.sb
  ni := h.ni
  nb := h.nb
theorem ApF.rep (h : ApF w s1 s2 P A1 n1 c1 B1 m1 d1 its bs W) : Rep W W.heap.size 3 Itm.cell A1 n1 its := Rep.of_own h.ni h.oi (Nat.le_refl _)
theorem ApF.repB (h : ApF w s1 s2 P A1 n1 c1 B1 m1 d1 its bs W) : Rep W W.heap.size 1 intCell B1 m1 bs := Rep.of_own h.nb h.ob (Nat.le_refl _)
/-- other items, into the volume -/
theorem ApF.items {A2 : Option Addr} {n2 c2 : Nat} {us : List Itm} (h : ApF w s1 s2 P A1 n1 c1 B1 m1 d1 its bs W) (ho : W.ownsRow (w.heap.size + 2) 61 3 (.slice A2 n2 c2) n2 (flat Itm.cell 3 us)) (hn : n2 = us.length)
    (hs : ∀ g, (Value.slice A2 n2 c2).ownBlock = some g → g ≠ P) : ApF w s1 s2 P A2 n2 c2 B1 m1 d1 us bs (W.setCell ⟨P, 0, none⟩ (.slice A2 n2 c2)) where
  cf := h.cf.stepB ((Below.refl _ _).setCell (by exact h.pw) _)
  p0 := World.cell?_setCell_same _ _ _ h.p0
  p1 := (World.cell?_setCell_other _ _ _ _ (by intro e; cases e)).trans h.p1
  f0 := (World.frozen?_setCell _ _ _ _).trans h.f0
  f1 := (World.frozen?_setCell _ _ _ _).trans h.f1
  pw := h.pw
  ps := by simpa [World.setCell] using h.ps
  oi := own_setCell_other ho hs _
  ob := own_setCell_other h.ob h.sb _
  si := hs
  sb := h.sb
  ni := hn
  nb := h.nb
/-- a block of the volume -/
theorem ApF.block {g : Nat} (h : ApF w s1 s2 P A1 n1 c1 (some ⟨g, 0, none⟩) m1 d1 its bs W) (k : Nat) (v : Int) : ApF w s1 s2 P A1 n1 c1 (some ⟨g, 0, none⟩) m1 d1 its (bs.set k v) (W.setCell ⟨g, k, none⟩ (.int .i64 v)) := by
  have hg := (h.ob.lt g rfl).1
  have hgP := h.sb g rfl
  have hst := (h.ob.stored k (.int .i64 v)).1
  rw [flat_int_set] at hst
  exact {
    cf := h.cf.stepB ((Below.refl _ _).setCell (by exact hg) _)
    p0 := (World.cell?_setCell_other _ _ _ _ (by intro e; cases e; exact hgP rfl)).trans h.p0
    p1 := (World.cell?_setCell_other _ _ _ _ (by intro e; cases e; exact hgP rfl)).trans h.p1
    f0 := (World.frozen?_setCell _ _ _ _).trans h.f0
    f1 := (World.frozen?_setCell _ _ _ _).trans h.f1
    pw := h.pw
    ps := by simpa [World.setCell] using h.ps
    oi := own_setCell_other h.oi (fun g1 h1 => own_apart h.oi h.ob (by decide) g1 g h1 rfl) _
    ob := hst
    si := h.si
    sb := h.sb
    ni := h.ni
    nb := by rw [List.length_set]; exact h.nb }
end
/-- A volume and an error's number that a call hands back. -/
def VolErrPost (w : World) (r : List Itm × List Int × Int) (e : Ending) (w' : World) : Prop :=
  ∃ A c B d, e = .returned (.tuple #[.agg #[.slice A r.1.length c, .slice B r.2.1.length d], .int .i64 r.2.2]) ∧ w'.ownsRow w.heap.size 61 3 (.slice A r.1.length c) r.1.length (flat Itm.cell 3 r.1) ∧
    w'.ownsRow w.heap.size 3 1 (.slice B r.2.1.length d) r.2.1.length (flat intCell 1 r.2.1) ∧ Below w.heap.size w w'
theorem VolErrPost.nil {w w' : World} {r : List Itm × List Int × Int} {k : Int} (h : r = ([], [], k)) (hb : Below w.heap.size w w') : VolErrPost w r (.returned (.tuple #[.agg #[.slice none 0 0, .slice none 0 0], .int .i64 k])) w' := by
  subst h
  exact ⟨none, 0, none, 0, rfl, World.ownsRow_nil _ _ _ _, World.ownsRow_nil _ _ _ _, hb⟩
theorem VolErrPost.mk' {w w' : World} {A B : Option Addr} {n c m d : Nat} {r : List Itm × List Int × Int} {ls : List Itm} {bs : List Int} {k : Int} (h : r = (ls, bs, k)) (hn : n = ls.length) (hm : m = bs.length)
    (ho : w'.ownsRow w.heap.size 61 3 (.slice A n c) n (flat Itm.cell 3 ls)) (ho' : w'.ownsRow w.heap.size 3 1 (.slice B m d) m (flat intCell 1 bs)) (hb : Below w.heap.size w w') :
    VolErrPost w r (.returned (.tuple #[.agg #[.slice A n c, .slice B m d], .int .i64 k])) w' := by
  subst h hn hm
  exact ⟨A, c, B, d, rfl, ho, ho', hb⟩
end Go.Proofs.Ytphbebcbbfbgpab
