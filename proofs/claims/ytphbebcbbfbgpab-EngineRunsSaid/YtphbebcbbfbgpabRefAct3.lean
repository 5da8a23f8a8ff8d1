/- The reference's act: read. (and what it wants) -/
import Derived.Test.YtphbebcbbfbgpabHouseNow
import Derived.Deep.Cut
import Derived.Test.YtphbebcbbfbgpabRefWith
import Derived.Test.YtphbebcbbfbgpabRefRecord
import Derived.Test.YtphbebcbbfbgpabReadOf
namespace Go.Proofs.Ytphbebcbbfbgpab
open Go Go.RowKit

def actV (a : Acn) : Value := .agg #[.int .i64 a.kind, .int .i64 a.block, .string a.data, .int .i64 a.keep]
def ansV (x : Ans) : Value := .agg #[.int .i64 x.code, .string x.data, .int .i64 x.items, .int .i64 x.log, .int .i64 x.count]

section
variable {B g : Nat} {E : Eng} {A0 A1 A2 A3 A7 : Option Addr} {c0 c1 c2 c3 c7 : Nat} {w : World}
theorem EngF.opens (h : EngF B g E ⟨A0, c0, A1, c1, A2, c2, A3, c3, A7, c7⟩ w) :
    EngF B g { E with opened := true } ⟨A0, c0, A1, c1, A2, c2, A3, c3, A7, c7⟩ (w.setCell ⟨g, 6, none⟩ (.bool true)) := by
  obtain ⟨k0, k1, k2, k3, k4, k5, k6, k7, fz, tg, gb, gs, o0, o1, o2, o3, o7, n0, n1, n2, n3, n7⟩ := h
  dsimp only at k0 k1 k2 k3 k4 k5 k6 k7
  have h : EngF B g E ⟨A0, c0, A1, c1, A2, c2, A3, c3, A7, c7⟩ w := ⟨k0, k1, k2, k3, k4, k5, k6, k7, fz, tg, gb, gs, o0, o1, o2, o3, o7, n0, n1, n2, n3, n7⟩
  refine h.set (Touch.setCell (R := fun k => k = g) ⟨g, 6, none⟩ rfl _) ?_ ?_ ?_ ?_ ?_ ?_ ?_ ?_ ?_ ?_ o0 o1 o2 o3 o7
  all_goals first
    | exact tg.setCell _ _
    | (intro i; simp)
    | simp [go_sem, k0, k1, k2, k3, k4, k5, k6, k7]
theorem EngF.flush (h : EngF B g E ⟨A0, c0, A1, c1, A2, c2, A3, c3, A7, c7⟩ w) :
    EngF B g { E with log := E.log ++ E.pend, pend := [] } ⟨A0, c0, A1, c1, A2, c2, A3, c3, A7, c7⟩ ((w.setCell ⟨g, 4, none⟩ (.string (bstr E.log ++ bstr E.pend))).setCell ⟨g, 5, none⟩ (.string ⟨#[]⟩)) := by
  obtain ⟨k0, k1, k2, k3, k4, k5, k6, k7, fz, tg, gb, gs, o0, o1, o2, o3, o7, n0, n1, n2, n3, n7⟩ := h
  dsimp only at k0 k1 k2 k3 k4 k5 k6 k7
  have h : EngF B g E ⟨A0, c0, A1, c1, A2, c2, A3, c3, A7, c7⟩ w := ⟨k0, k1, k2, k3, k4, k5, k6, k7, fz, tg, gb, gs, o0, o1, o2, o3, o7, n0, n1, n2, n3, n7⟩
  have hb := bstr_append E.log E.pend
  refine h.set ((Touch.setCell (R := fun k => k = g) ⟨g, 4, none⟩ rfl _).trans (Touch.setCell (R := fun k => k = g) ⟨g, 5, none⟩ rfl _)) ?_ ?_ ?_ ?_ ?_ ?_ ?_ ?_ ?_ ?_ o0 o1 o2 o3 o7
  all_goals first
    | exact (tg.setCell _ _).setCell _ _
    | (intro i; simp)
    | (simp [go_sem, k0, k1, k2, k3, k4, k5, k6, k7, hb]; done)
    | (simp [go_sem, k0, k1, k2, k3, k4, k5, k6, k7]; rfl)
end

/-- What stands in the three blocks that act lays: the act, the result's place, the answer in the making. -/
structure ActF (w : World) (a : Acn) (W : World) : Prop where
  a0 : W.cell? ⟨w.heap.size, 0, none⟩ = some (.int .i64 a.kind)
  a1 : W.cell? ⟨w.heap.size, 1, none⟩ = some (.int .i64 a.block)
  a2 : W.cell? ⟨w.heap.size, 2, none⟩ = some (.string a.data)
  a3 : W.cell? ⟨w.heap.size, 3, none⟩ = some (.int .i64 a.keep)
  r0 : W.cell? ⟨w.heap.size + 1, 0, none⟩ = some (.int .i64 0)
  r1 : W.cell? ⟨w.heap.size + 1, 1, none⟩ = some (.string ⟨#[]⟩)
  r2 : W.cell? ⟨w.heap.size + 1, 2, none⟩ = some (.int .i64 0)
  r3 : W.cell? ⟨w.heap.size + 1, 3, none⟩ = some (.int .i64 0)
  r4 : W.cell? ⟨w.heap.size + 1, 4, none⟩ = some (.int .i64 0)
  o0 : W.cell? ⟨w.heap.size + 1 + 1, 0, none⟩ = some (.int .i64 0)
  o1 : W.cell? ⟨w.heap.size + 1 + 1, 1, none⟩ = some (.string ⟨#[]⟩)
  o2 : W.cell? ⟨w.heap.size + 1 + 1, 2, none⟩ = some (.int .i64 0)
  o3 : W.cell? ⟨w.heap.size + 1 + 1, 3, none⟩ = some (.int .i64 0)
  o4 : W.cell? ⟨w.heap.size + 1 + 1, 4, none⟩ = some (.int .i64 0)
  fr : ∀ i, W.frozen? ⟨w.heap.size + 1, i, none⟩ = false
  fo : ∀ i, W.frozen? ⟨w.heap.size + 1 + 1, i, none⟩ = false
  sz : w.heap.size + 1 + 1 < W.heap.size
theorem ActF.touch {w W W' : World} {a : Acn} {R : Nat → Prop} (h : ActF w a W) (hT : Touch R W W') (hR : ∀ k, R k → k < w.heap.size) : ActF w a W' := by
  have hs := h.sz
  have h0 : ∀ i, W'.cell? ⟨w.heap.size, i, none⟩ = W.cell? ⟨w.heap.size, i, none⟩ := fun i => hT.cell (by dsimp only; omega) (fun r => by have := hR _ r; dsimp only at this; omega)
  have h1 : ∀ i, W'.cell? ⟨w.heap.size + 1, i, none⟩ = W.cell? ⟨w.heap.size + 1, i, none⟩ := fun i => hT.cell (by dsimp only; omega) (fun r => by have := hR _ r; dsimp only at this; omega)
  have h2 : ∀ i, W'.cell? ⟨w.heap.size + 1 + 1, i, none⟩ = W.cell? ⟨w.heap.size + 1 + 1, i, none⟩ := fun i => hT.cell (by dsimp only; omega) (fun r => by have := hR _ r; dsimp only at this; omega)
  have g1 : ∀ i, W'.frozen? ⟨w.heap.size + 1, i, none⟩ = W.frozen? ⟨w.heap.size + 1, i, none⟩ := fun i => hT.frozen (by dsimp only; omega) (fun r => by have := hR _ r; dsimp only at this; omega)
  have g2 : ∀ i, W'.frozen? ⟨w.heap.size + 1 + 1, i, none⟩ = W.frozen? ⟨w.heap.size + 1 + 1, i, none⟩ := fun i => hT.frozen (by dsimp only; omega) (fun r => by have := hR _ r; dsimp only at this; omega)
  exact ⟨(h0 _).trans h.a0, (h0 _).trans h.a1, (h0 _).trans h.a2, (h0 _).trans h.a3, (h1 _).trans h.r0, (h1 _).trans h.r1, (h1 _).trans h.r2, (h1 _).trans h.r3, (h1 _).trans h.r4, (h2 _).trans h.o0, (h2 _).trans h.o1, (h2 _).trans h.o2, (h2 _).trans h.o3, (h2 _).trans h.o4,
    fun i => (g1 i).trans (h.fr i), fun i => (g2 i).trans (h.fo i), Nat.lt_of_lt_of_le hs hT.size⟩
theorem ActF.new (w : World) (a : Acn) : ActF w a (((w.alloc (.cells #[.int .i64 a.kind, .int .i64 a.block, .string a.data, .int .i64 a.keep] 103)).alloc (.cells #[.int .i64 0, .string ⟨#[]⟩, .int .i64 0, .int .i64 0, .int .i64 0] 105)).alloc (.cells #[.int .i64 0, .string ⟨#[]⟩, .int .i64 0, .int .i64 0, .int .i64 0] 105)) := by
  constructor
  all_goals first
    | (simp [go_sem]; done)
    | (intro i; simp [go_sem]; done)
    | (simp; omega)
theorem engR_lt {B g : Nat} {E : Eng} {S : SlotsE} {W : World} (h : EngF B g E S W) : ∀ k, engR g S k → k < W.heap.size := by
  intro k hk
  rcases hk with rfl | hk
  · exact h.gs
  · exact (h.o7.lt k ((ownBlock_len _ _ _ _ _).trans hk)).2
/-- an engine, and the two places of the answer, in act's call -/
def AE (B g : Nat) (E : Eng) (S : SlotsE) (w W : World) : Prop :=
  ∃ S', EngF B g E S' W ∧ IsCells W (w.heap.size + 1) 105 ∧ IsCells W (w.heap.size + 1 + 1) 105 ∧ Touch (engR g S) w W ∧ g < w.heap.size
section
variable {B g : Nat} {E : Eng} {S : SlotsE} {w W W' : World}
theorem EngF.farA {P : Nat} (h : EngF B g E S W) (tp : IsCells W P 105) (hne : g ≠ P) (hT : Touch (fun k => k = P) W W') : EngF B g E S W' :=
  h.far hne (fun r hr => own_not h.o0 tp (by decide) r ((ownBlock_len _ _ _ _ _).trans hr)) (fun r hr => own_not h.o1 tp (by decide) r ((ownBlock_len _ _ _ _ _).trans hr)) (fun r hr => own_not h.o2 tp (by decide) r ((ownBlock_len _ _ _ _ _).trans hr))
    (fun r hr => own_not h.o3 tp (by decide) r ((ownBlock_len _ _ _ _ _).trans hr)) (fun r hr => own_not h.o7 tp (by decide) r ((ownBlock_len _ _ _ _ _).trans hr)) hT
theorem AE.res (h : AE B g E S w W) (i : Nat) (v : Value) : AE B g E S w (W.setCell ⟨w.heap.size + 1, i, none⟩ v) := by
  obtain ⟨S', h1, h2, h3, h4, h5⟩ := h
  exact ⟨S', h1.farA h2 (by omega) (Touch.setCell (R := fun k => k = w.heap.size + 1) ⟨w.heap.size + 1, i, none⟩ rfl v), h2.setCell _ _, h3.setCell _ _, h4.setNew _ (by dsimp only; omega) _, h5⟩
theorem AE.out (h : AE B g E S w W) (i : Nat) (v : Value) : AE B g E S w (W.setCell ⟨w.heap.size + 1 + 1, i, none⟩ v) := by
  obtain ⟨S', h1, h2, h3, h4, h5⟩ := h
  exact ⟨S', h1.farA h3 (by omega) (Touch.setCell (R := fun k => k = w.heap.size + 1 + 1) ⟨w.heap.size + 1 + 1, i, none⟩ rfl v), h2.setCell _ _, h3.setCell _ _, h4.setNew _ (by dsimp only; omega) _, h5⟩
theorem AE.step (h : AE B g E S w W) (hb : Below W.heap.size W W') : AE B g E S w W' := by
  obtain ⟨S', h1, h2, h3, h4, h5⟩ := h
  exact ⟨S', h1.step hb, h2.below hb, h3.below hb, h4.trans (Touch.below hb), h5⟩
theorem AE.drewN (h : AE B g E S w W) (n : Nat) : AE B g E S w (W.drewN n) := h.step (below_drewN (Below.refl _ _) _)
theorem AE.drew (h : AE B g E S w W) : AE B g E S w W.drew := h.step (Below.refl _ _).drew
theorem AE.post (h : AE B g E S w W) (v : Value) : EngPost B g E S w v (.returned v) W := by
  obtain ⟨S', h1, _, _, h4, _⟩ := h
  exact ⟨rfl, S', h1, h4⟩
/-- behind a method's call on the engine -/
theorem AE.call {E' : Eng} {S1 : SlotsE} (h1 : EngF B g E S1 W) (tr : IsCells W (w.heap.size + 1) 105) (to : IsCells W (w.heap.size + 1 + 1) 105) (hT : Touch (engR g S) w W) (hg : g < w.heap.size) (hR : ∀ k, engR g S1 k → k < w.heap.size) (hRS : ∀ k, engR g S1 k → engR g S k)
    {S2 : SlotsE} (h2 : EngF B g E' S2 W') (hT2 : Touch (engR g S1) W W') : AE B g E' S w W' :=
  ⟨S2, h2, tr.touch hT2 (fun r => by have := hR _ r; omega), to.touch hT2 (fun r => by have := hR _ r; omega), hT.trans (hT2.mono (fun k _ hk => hRS k hk)), hg⟩
end
/-- the world in which act begins its switch -/
structure ActW (B g : Nat) (E : Eng) (S : SlotsE) (w : World) (a : Acn) (W : World) : Prop where
  af : ActF w a W
  ef : EngF B g E S W
  tr : IsCells W (w.heap.size + 1) 105
  to : IsCells W (w.heap.size + 1 + 1) 105
  be : Below w.heap.size w W
  gs : g < w.heap.size
  rl : ∀ k, engR g S k → k < w.heap.size
theorem ActW.new {B g : Nat} {E : Eng} {S : SlotsE} {w : World} (a : Acn) (h : EngF B g E S w) : ActW B g E S w a (((w.alloc (.cells #[.int .i64 a.kind, .int .i64 a.block, .string a.data, .int .i64 a.keep] 103)).alloc (.cells #[.int .i64 0, .string ⟨#[]⟩, .int .i64 0, .int .i64 0, .int .i64 0] 105)).alloc (.cells #[.int .i64 0, .string ⟨#[]⟩, .int .i64 0, .int .i64 0, .int .i64 0] 105)) := by
  have hb : Below w.heap.size w (((w.alloc (.cells #[.int .i64 a.kind, .int .i64 a.block, .string a.data, .int .i64 a.keep] 103)).alloc (.cells #[.int .i64 0, .string ⟨#[]⟩, .int .i64 0, .int .i64 0, .int .i64 0] 105)).alloc (.cells #[.int .i64 0, .string ⟨#[]⟩, .int .i64 0, .int .i64 0, .int .i64 0] 105)) :=
    (((Below.refl _ _).alloc (Nat.le_refl _) _).alloc (by simp) _).alloc (by simp; omega) _
  refine ⟨ActF.new w a, h.step hb, ?_, ?_, hb, h.gs, engR_lt h⟩
  · have h1 := IsCells.new (w.alloc (.cells #[.int .i64 a.kind, .int .i64 a.block, .string a.data, .int .i64 a.keep] 103)) #[.int .i64 0, .string ⟨#[]⟩, .int .i64 0, .int .i64 0, .int .i64 0] 105
    have h2 := h1.below ((Below.refl _ _).alloc (Nat.le_refl _) (.cells #[.int .i64 0, .string ⟨#[]⟩, .int .i64 0, .int .i64 0, .int .i64 0] 105))
    rwa [World.size_alloc] at h2
  · have h1 := IsCells.new ((w.alloc (.cells #[.int .i64 a.kind, .int .i64 a.block, .string a.data, .int .i64 a.keep] 103)).alloc (.cells #[.int .i64 0, .string ⟨#[]⟩, .int .i64 0, .int .i64 0, .int .i64 0] 105)) #[.int .i64 0, .string ⟨#[]⟩, .int .i64 0, .int .i64 0, .int .i64 0] 105
    rwa [World.size_alloc, World.size_alloc] at h1
theorem ActW.ae {B g : Nat} {E E' : Eng} {S S2 : SlotsE} {w W W' : World} {a : Acn} (h : ActW B g E S w a W) (h2 : EngF B g E' S2 W') (hT2 : Touch (engR g S) W W') : AE B g E' S w W' :=
  AE.call h.ef h.tr h.to (Touch.below h.be) h.gs h.rl (fun _ hk => hk) h2 hT2
theorem ActW.same {B g : Nat} {E : Eng} {S : SlotsE} {w W : World} {a : Acn} (h : ActW B g E S w a W) : AE B g E S w W := h.ae h.ef (Touch.refl _ _)
end Go.Proofs.Ytphbebcbbfbgpab

namespace Go.Proofs.Ytphbebcbbfbgpab
open Go Go.RowKit

section
variable {B g : Nat} {E : Eng} {S : SlotsE} {w W W' : World}
theorem AE.closed (h : AE B g E S w W) : AE B g { E with opened := false, ws := [] } S w ((W.setCell ⟨g, 6, none⟩ (.bool false)).setCell ⟨g, 7, none⟩ (.slice none 0 0)) := by
  obtain ⟨⟨A0, c0, A1, c1, A2, c2, A3, c3, A7, c7⟩, h1, h2, h3, h4, h5⟩ := h
  exact ⟨_, h1.closed, (h2.setCell _ _).setCell _ _, (h3.setCell _ _).setCell _ _, (h4.trans (Touch.setCell ⟨g, 6, none⟩ (.inl rfl) _)).trans (Touch.setCell ⟨g, 7, none⟩ (.inl rfl) _), h5⟩
theorem AE.flush (h : AE B g E S w W) : AE B g { E with log := E.log ++ E.pend, pend := [] } S w ((W.setCell ⟨g, 4, none⟩ (.string (bstr E.log ++ bstr E.pend))).setCell ⟨g, 5, none⟩ (.string ⟨#[]⟩)) := by
  obtain ⟨⟨A0, c0, A1, c1, A2, c2, A3, c3, A7, c7⟩, h1, h2, h3, h4, h5⟩ := h
  exact ⟨_, h1.flush, (h2.setCell _ _).setCell _ _, (h3.setCell _ _).setCell _ _, (h4.trans (Touch.setCell ⟨g, 4, none⟩ (.inl rfl) _)).trans (Touch.setCell ⟨g, 5, none⟩ (.inl rfl) _), h5⟩
theorem AE.mark {A A' : Option Addr} {c c' : Nat} (h : AE B g E S w W) (o2 : W.ownsRow B 61 3 (.slice A E.v.1.length c) E.v.1.length (flat Itm.cell 3 E.v.1)) (o3 : W.ownsRow B 3 1 (.slice A' E.v.2.length c') E.v.2.length (flat intCell 1 E.v.2)) :
    AE B g { E with base := E.v, log := [], pend := [] } S w ((((W.setCell ⟨g, 2, none⟩ (.slice A E.v.1.length c)).setCell ⟨g, 3, none⟩ (.slice A' E.v.2.length c')).setCell ⟨g, 4, none⟩ (.string ⟨#[]⟩)).setCell ⟨g, 5, none⟩ (.string ⟨#[]⟩)) := by
  obtain ⟨⟨A0, c0, A1, c1, A2, c2, A3, c3, A7, c7⟩, h1, h2, h3, h4, h5⟩ := h
  refine ⟨⟨A0, c0, A1, c1, A, c, A', c', A7, c7⟩, ?_, (((h2.setCell _ _).setCell _ _).setCell _ _).setCell _ _, (((h3.setCell _ _).setCell _ _).setCell _ _).setCell _ _, (((h4.trans (Touch.setCell ⟨g, 2, none⟩ (.inl rfl) _)).trans (Touch.setCell ⟨g, 3, none⟩ (.inl rfl) _)).trans (Touch.setCell ⟨g, 4, none⟩ (.inl rfl) _)).trans (Touch.setCell ⟨g, 5, none⟩ (.inl rfl) _), h5⟩
  obtain ⟨k0, k1, k2, k3, k4, k5, k6, k7, fz, tg, gb, gs, p0, p1, p2, p3, p7, n0, n1, n2, n3, n7⟩ := h1
  dsimp only at k0 k1 k2 k3 k4 k5 k6 k7
  have h : EngF B g E ⟨A0, c0, A1, c1, A2, c2, A3, c3, A7, c7⟩ W := ⟨k0, k1, k2, k3, k4, k5, k6, k7, fz, tg, gb, gs, p0, p1, p2, p3, p7, n0, n1, n2, n3, n7⟩
  refine h.set ((((Touch.setCell (R := fun k => k = g) ⟨g, 2, none⟩ rfl _).trans (Touch.setCell (R := fun k => k = g) ⟨g, 3, none⟩ rfl _)).trans (Touch.setCell (R := fun k => k = g) ⟨g, 4, none⟩ rfl _)).trans (Touch.setCell (R := fun k => k = g) ⟨g, 5, none⟩ rfl _)) ?_ ?_ ?_ ?_ ?_ ?_ ?_ ?_ ?_ ?_ p0 p1 o2 o3 p7
  all_goals first
    | exact (((tg.setCell _ _).setCell _ _).setCell _ _).setCell _ _
    | (intro i; simp; done)
    | (simp [go_sem, k0, k1, k2, k3, k4, k5, k6, k7]; done)
    | (simp [go_sem, k0, k1, k2, k3, k4, k5, k6, k7]; rfl)
end

set_option maxRecDepth 100000 in
set_option maxHeartbeats 2000000 in
theorem act_begin (B g : Nat) (E : Eng) (S : SlotsE) (a : Acn) (w : World) (h : EngF B g E S w) (hk : a.kind = 1) :
    Calls Try.prog 60 #[.pointer (some ⟨g, 0, none⟩), actV a] w (EngPost B g (actE E a).1 S w (ansV (actE E a).2)) := by
  obtain ⟨A0, c0, A1, c1, A2, c2, A3, c3, A7, c7⟩ := S
  obtain ⟨kind, block, data, keep⟩ := a
  dsimp only at hk
  subst hk
  have HAW := Lib.hid (ActW.new ⟨1, block, data, keep⟩ h)
  unfold actV ansV
  cases ho : E.opened with
  | true =>
    have e : actE E ⟨1, block, data, keep⟩ = (E, Ans.of 7) := by rw [actE, if_pos rfl, if_pos ho]
    rw [e]
    have HO := Lib.hid ho
    clear e ho h
    dsimp only [Ans.of]
    go_enter Try.func60, Try.ntmps60
    go_upto_region 2 with (fail)
    obtain ⟨W, hW⟩ : ∃ W, W = (((w.alloc (.cells #[.int .i64 1, .int .i64 block, .string data, .int .i64 keep] 103)).alloc (.cells #[.int .i64 0, .string ⟨#[]⟩, .int .i64 0, .int .i64 0, .int .i64 0] 105)).alloc (.cells #[.int .i64 0, .string ⟨#[]⟩, .int .i64 0, .int .i64 0, .int .i64 0] 105)) := ⟨_, rfl⟩
    have haw := HAW.out
    rw [← hW] at haw ⊢
    have HW := Lib.hid haw
    have a0 := haw.af.a0
    have a1 := haw.af.a1
    have a2 := haw.af.a2
    have a3 := haw.af.a3
    have r0 := haw.af.r0
    have r1 := haw.af.r1
    have r2 := haw.af.r2
    have r3 := haw.af.r3
    have r4 := haw.af.r4
    have o0 := haw.af.o0
    have o1 := haw.af.o1
    have o2 := haw.af.o2
    have o3 := haw.af.o3
    have o4 := haw.af.o4
    have y0 := haw.af.fr 0
    have y1 := haw.af.fr 1
    have y2 := haw.af.fr 2
    have y3 := haw.af.fr 3
    have y4 := haw.af.fr 4
    have x0 := haw.af.fo 0
    have x1 := haw.af.fo 1
    have x2 := haw.af.fo 2
    have x3 := haw.af.fo 3
    have x4 := haw.af.fo 4
    have gs := haw.gs
    have hne0 : ¬ g = w.heap.size := by omega
    have hne1 : ¬ g = w.heap.size + 1 := by omega
    have hne2 : ¬ g = w.heap.size + 1 + 1 := by omega
    have hnf0 : ¬ w.heap.size = g := by omega
    have hnf1 : ¬ w.heap.size + 1 = g := by omega
    have hnf2 : ¬ w.heap.size + 1 + 1 = g := by omega
    dsimp only at a0 a1 a2 a3
    clear haw hW
    have k6 := HW.out.ef.k6
    rw [HO.out] at k6
    have HAE := Lib.hid HW.out.same
    go_wp2
    refine bodyPost_ret (v := .agg #[.int .i64 7, .string ⟨#[]⟩, .int .i64 0, .int .i64 0, .int .i64 0]) (by simp [results, Try.results60, go_sem, r0, r1, r2, r3, r4]) rfl ?_
    refine AE.post ?_ _
    repeat (first | (with_reducible exact HAE.out) | (with_reducible refine AE.res ?_ _ _) | (with_reducible refine AE.out ?_ _ _) | (with_reducible refine AE.drewN ?_ _) | (with_reducible refine AE.drew ?_))
  | false =>
    have e : actE E ⟨1, block, data, keep⟩ = ({ E with opened := true }, Ans.of 0) := by rw [actE, if_pos rfl, ho]; rfl
    rw [e]
    have HO := Lib.hid ho
    clear e ho h
    dsimp only [Ans.of]
    go_enter Try.func60, Try.ntmps60
    go_upto_region 2 with (fail)
    obtain ⟨W, hW⟩ : ∃ W, W = (((w.alloc (.cells #[.int .i64 1, .int .i64 block, .string data, .int .i64 keep] 103)).alloc (.cells #[.int .i64 0, .string ⟨#[]⟩, .int .i64 0, .int .i64 0, .int .i64 0] 105)).alloc (.cells #[.int .i64 0, .string ⟨#[]⟩, .int .i64 0, .int .i64 0, .int .i64 0] 105)) := ⟨_, rfl⟩
    have haw := HAW.out
    rw [← hW] at haw ⊢
    have HW := Lib.hid haw
    have a0 := haw.af.a0
    have a1 := haw.af.a1
    have a2 := haw.af.a2
    have a3 := haw.af.a3
    have r0 := haw.af.r0
    have r1 := haw.af.r1
    have r2 := haw.af.r2
    have r3 := haw.af.r3
    have r4 := haw.af.r4
    have o0 := haw.af.o0
    have o1 := haw.af.o1
    have o2 := haw.af.o2
    have o3 := haw.af.o3
    have o4 := haw.af.o4
    have y0 := haw.af.fr 0
    have y1 := haw.af.fr 1
    have y2 := haw.af.fr 2
    have y3 := haw.af.fr 3
    have y4 := haw.af.fr 4
    have x0 := haw.af.fo 0
    have x1 := haw.af.fo 1
    have x2 := haw.af.fo 2
    have x3 := haw.af.fo 3
    have x4 := haw.af.fo 4
    have gs := haw.gs
    have hne0 : ¬ g = w.heap.size := by omega
    have hne1 : ¬ g = w.heap.size + 1 := by omega
    have hne2 : ¬ g = w.heap.size + 1 + 1 := by omega
    have hnf0 : ¬ w.heap.size = g := by omega
    have hnf1 : ¬ w.heap.size + 1 = g := by omega
    have hnf2 : ¬ w.heap.size + 1 + 1 = g := by omega
    dsimp only at a0 a1 a2 a3
    clear haw hW
    have k6 := HW.out.ef.k6
    have z6 := HW.out.ef.fz 6
    rw [HO.out] at k6
    have HAE := Lib.hid (HW.out.ae HW.out.ef.opens (Touch.setCell (R := engR g ⟨A0, c0, A1, c1, A2, c2, A3, c3, A7, c7⟩) ⟨g, 6, none⟩ (.inl rfl) _))
    go_wp2
    refine bodyPost_ret (v := .agg #[.int .i64 0, .string ⟨#[]⟩, .int .i64 0, .int .i64 0, .int .i64 0]) (by simp [results, Try.results60, go_sem, r0, r1, r2, r3, r4]) rfl ?_
    refine AE.post ?_ _
    repeat (first | (with_reducible exact HAE.out) | (with_reducible refine AE.res ?_ _ _) | (with_reducible refine AE.out ?_ _ _) | (with_reducible refine AE.drewN ?_ _) | (with_reducible refine AE.drew ?_))

set_option maxRecDepth 100000 in
set_option maxHeartbeats 2000000 in
theorem act_put (B g : Nat) (E : Eng) (S : SlotsE) (a : Acn) (w : World) (h : EngF B g E S w) (hG : GoodE E) (hb : i64Ok a.block) (hd : a.data.size ≤ maxLen) (hk : a.kind = 2) :
    Calls Try.prog 60 #[.pointer (some ⟨g, 0, none⟩), actV a] w (EngPost B g (actE E a).1 S w (ansV (actE E a).2)) := by
  obtain ⟨A0, c0, A1, c1, A2, c2, A3, c3, A7, c7⟩ := S
  obtain ⟨kind, block, data, keep⟩ := a
  dsimp only at hk
  subst hk
  have HAW := Lib.hid (ActW.new ⟨2, block, data, keep⟩ h)
  unfold actV ansV
  have e : actE E ⟨2, block, data, keep⟩ = ((putE E block data).1, Ans.of (putE E block data).2) := by rw [actE, if_neg (by simp), if_pos rfl]
  rw [e]
  dsimp only [Ans.of] at hb hd ⊢
  have hp := fun (W : World) (S : SlotsE) (hW : EngF B g E S W) => put_any B g E S block data W hW hG hb hd
  obtain ⟨E', z, hz⟩ : ∃ E' z, putE E block data = (E', z) := ⟨_, _, rfl⟩
  rw [hz] at hp ⊢
  have HP := Lib.hid hp
  clear e h hp hz hG hb hd
  go_enter Try.func60, Try.ntmps60
  go_upto_region 2 with (fail)
  obtain ⟨W, hW⟩ : ∃ W, W = (((w.alloc (.cells #[.int .i64 2, .int .i64 block, .string data, .int .i64 keep] 103)).alloc (.cells #[.int .i64 0, .string ⟨#[]⟩, .int .i64 0, .int .i64 0, .int .i64 0] 105)).alloc (.cells #[.int .i64 0, .string ⟨#[]⟩, .int .i64 0, .int .i64 0, .int .i64 0] 105)) := ⟨_, rfl⟩
  have haw := HAW.out
  rw [← hW] at haw ⊢
  have HW := Lib.hid haw
  have a0 := haw.af.a0
  have a1 := haw.af.a1
  have a2 := haw.af.a2
  have a3 := haw.af.a3
  have r0 := haw.af.r0
  have r1 := haw.af.r1
  have r2 := haw.af.r2
  have r3 := haw.af.r3
  have r4 := haw.af.r4
  have o0 := haw.af.o0
  have o1 := haw.af.o1
  have o2 := haw.af.o2
  have o3 := haw.af.o3
  have o4 := haw.af.o4
  have y0 := haw.af.fr 0
  have y1 := haw.af.fr 1
  have y2 := haw.af.fr 2
  have y3 := haw.af.fr 3
  have y4 := haw.af.fr 4
  have x0 := haw.af.fo 0
  have x1 := haw.af.fo 1
  have x2 := haw.af.fo 2
  have x3 := haw.af.fo 3
  have x4 := haw.af.fo 4
  have gs := haw.gs
  have hne0 : ¬ g = w.heap.size := by omega
  have hne1 : ¬ g = w.heap.size + 1 := by omega
  have hne2 : ¬ g = w.heap.size + 1 + 1 := by omega
  have hnf0 : ¬ w.heap.size = g := by omega
  have hnf1 : ¬ w.heap.size + 1 = g := by omega
  have hnf2 : ¬ w.heap.size + 1 + 1 = g := by omega
  dsimp only at a0 a1 a2 a3
  clear haw hW
  have hpw := HP.out W _ HW.out.ef
  have HPW := Lib.hid hpw
  clear hpw
  go_wp2_with fail
  refine HPW.out.mono ?_
  rintro e W2 ⟨rfl, S2, h2, hT2⟩
  have af2 := HW.out.af.touch hT2 HW.out.rl
  have p0 := af2.r0
  have p1 := af2.r1
  have p2 := af2.r2
  have p3 := af2.r3
  have p4 := af2.r4
  have q0 := af2.o0
  have q1 := af2.o1
  have q2 := af2.o2
  have q3 := af2.o3
  have q4 := af2.o4
  have w0 := af2.fr 0
  have w1' := af2.fr 1
  have w2' := af2.fr 2
  have w3' := af2.fr 3
  have w4' := af2.fr 4
  have v0 := af2.fo 0
  have v1 := af2.fo 1
  have v2 := af2.fo 2
  have v3 := af2.fo 3
  have v4 := af2.fo 4
  have HAE := Lib.hid (HW.out.ae h2 hT2)
  clear af2 hT2 h2 a0 a1 a2 a3 r0 r1 r2 r3 r4 o0 o1 o2 o3 o4 y0 y1 y2 y3 y4 x0 x1 x2 x3 x4
  go_wp2
  refine bodyPost_ret (v := .agg #[.int .i64 z, .string ⟨#[]⟩, .int .i64 0, .int .i64 0, .int .i64 0]) (by simp [results, Try.results60, go_sem, p0, p1, p2, p3, p4]) rfl ?_
  refine AE.post ?_ _
  repeat (first | (with_reducible exact HAE.out) | (with_reducible refine AE.res ?_ _ _) | (with_reducible refine AE.out ?_ _ _) | (with_reducible refine AE.drewN ?_ _) | (with_reducible refine AE.drew ?_))


set_option maxRecDepth 100000 in
set_option maxHeartbeats 2000000 in
theorem act_read (B g : Nat) (E : Eng) (S : SlotsE) (a : Acn) (w : World) (h : EngF B g E S w) (hG : GoodE E) (hb : i64Ok a.block) (hk : a.kind = 3) :
    Calls Try.prog 60 #[.pointer (some ⟨g, 0, none⟩), actV a] w (EngPost B g (actE E a).1 S w (ansV (actE E a).2)) := by
  obtain ⟨A0, c0, A1, c1, A2, c2, A3, c3, A7, c7⟩ := S
  obtain ⟨kind, block, data, keep⟩ := a
  dsimp only at hk
  subst hk
  have HAW := Lib.hid (ActW.new ⟨3, block, data, keep⟩ h)
  unfold actV ansV
  have e : actE E ⟨3, block, data, keep⟩ = (E, ⟨(readE E block).2, (readE E block).1, 0, 0, 0⟩) := by rw [actE, if_neg (by simp), if_neg (by simp), if_pos rfl]
  rw [e]
  dsimp only at hb ⊢
  have hp := fun (W : World) (S : SlotsE) (hW : EngF B g E S W) => engRead_any B g E S block W hW hG hb
  obtain ⟨s, z, hz⟩ : ∃ s z, readE E block = (s, z) := ⟨_, _, rfl⟩
  rw [hz] at hp ⊢
  have HP := Lib.hid hp
  clear e h hp hz hG hb
  go_enter Try.func60, Try.ntmps60
  go_upto_region 2 with (fail)
  obtain ⟨W, hW⟩ : ∃ W, W = (((w.alloc (.cells #[.int .i64 3, .int .i64 block, .string data, .int .i64 keep] 103)).alloc (.cells #[.int .i64 0, .string ⟨#[]⟩, .int .i64 0, .int .i64 0, .int .i64 0] 105)).alloc (.cells #[.int .i64 0, .string ⟨#[]⟩, .int .i64 0, .int .i64 0, .int .i64 0] 105)) := ⟨_, rfl⟩
  have haw := HAW.out
  rw [← hW] at haw ⊢
  have HW := Lib.hid haw
  have a0 := haw.af.a0
  have a1 := haw.af.a1
  have a2 := haw.af.a2
  have a3 := haw.af.a3
  have r0 := haw.af.r0
  have r1 := haw.af.r1
  have r2 := haw.af.r2
  have r3 := haw.af.r3
  have r4 := haw.af.r4
  have o0 := haw.af.o0
  have o1 := haw.af.o1
  have o2 := haw.af.o2
  have o3 := haw.af.o3
  have o4 := haw.af.o4
  have y0 := haw.af.fr 0
  have y1 := haw.af.fr 1
  have y2 := haw.af.fr 2
  have y3 := haw.af.fr 3
  have y4 := haw.af.fr 4
  have x0 := haw.af.fo 0
  have x1 := haw.af.fo 1
  have x2 := haw.af.fo 2
  have x3 := haw.af.fo 3
  have x4 := haw.af.fo 4
  have gs := haw.gs
  have hne0 : ¬ g = w.heap.size := by omega
  have hne1 : ¬ g = w.heap.size + 1 := by omega
  have hne2 : ¬ g = w.heap.size + 1 + 1 := by omega
  have hnf0 : ¬ w.heap.size = g := by omega
  have hnf1 : ¬ w.heap.size + 1 = g := by omega
  have hnf2 : ¬ w.heap.size + 1 + 1 = g := by omega
  dsimp only at a0 a1 a2 a3
  clear haw hW
  have hpw := HP.out W _ HW.out.ef
  have HPW := Lib.hid hpw
  clear hpw
  go_wp2_with fail
  refine HPW.out.mono ?_
  rintro e W2 ⟨rfl, S2, h2, hT2⟩
  have af2 := HW.out.af.touch hT2 HW.out.rl
  have p0 := af2.r0
  have p1 := af2.r1
  have p2 := af2.r2
  have p3 := af2.r3
  have p4 := af2.r4
  have q0 := af2.o0
  have q1 := af2.o1
  have q2 := af2.o2
  have q3 := af2.o3
  have q4 := af2.o4
  have w0 := af2.fr 0
  have w1' := af2.fr 1
  have w2' := af2.fr 2
  have w3' := af2.fr 3
  have w4' := af2.fr 4
  have v0 := af2.fo 0
  have v1 := af2.fo 1
  have v2 := af2.fo 2
  have v3 := af2.fo 3
  have v4 := af2.fo 4
  have HAE := Lib.hid (HW.out.ae h2 hT2)
  clear af2 hT2 h2 a0 a1 a2 a3 r0 r1 r2 r3 r4 o0 o1 o2 o3 o4 y0 y1 y2 y3 y4 x0 x1 x2 x3 x4
  go_wp2
  refine bodyPost_ret (v := .agg #[.int .i64 z, .string s, .int .i64 0, .int .i64 0, .int .i64 0]) (by simp [results, Try.results60, go_sem, p0, p1, p2, p3, p4]) rfl ?_
  refine AE.post ?_ _
  repeat (first | (with_reducible exact HAE.out) | (with_reducible refine AE.res ?_ _ _) | (with_reducible refine AE.out ?_ _ _) | (with_reducible refine AE.drewN ?_ _) | (with_reducible refine AE.drew ?_))


set_option maxRecDepth 100000 in
set_option maxHeartbeats 2000000 in
theorem act_commit (B g : Nat) (E : Eng) (S : SlotsE) (a : Acn) (w : World) (h : EngF B g E S w) (hG : GoodE E) (hk : a.kind = 4) :
    Calls Try.prog 60 #[.pointer (some ⟨g, 0, none⟩), actV a] w (EngPost B g (actE E a).1 S w (ansV (actE E a).2)) := by
  obtain ⟨A0, c0, A1, c1, A2, c2, A3, c3, A7, c7⟩ := S
  obtain ⟨kind, block, data, keep⟩ := a
  dsimp only at hk
  subst hk
  have HAW := Lib.hid (ActW.new ⟨4, block, data, keep⟩ h)
  unfold actV ansV
  have e : actE E ⟨4, block, data, keep⟩ = ((commitE E).1, Ans.of (commitE E).2) := by rw [actE, if_neg (by simp), if_neg (by simp), if_neg (by simp), if_pos rfl]
  rw [e]
  dsimp only [Ans.of]
  have hp := fun (W : World) (S : SlotsE) (hW : EngF B g E S W) => commit_any B g E S W hW hG
  obtain ⟨E', z, hz⟩ : ∃ E' z, commitE E = (E', z) := ⟨_, _, rfl⟩
  rw [hz] at hp ⊢
  have HP := Lib.hid hp
  clear e h hp hz hG
  go_enter Try.func60, Try.ntmps60
  go_upto_region 2 with (fail)
  obtain ⟨W, hW⟩ : ∃ W, W = (((w.alloc (.cells #[.int .i64 4, .int .i64 block, .string data, .int .i64 keep] 103)).alloc (.cells #[.int .i64 0, .string ⟨#[]⟩, .int .i64 0, .int .i64 0, .int .i64 0] 105)).alloc (.cells #[.int .i64 0, .string ⟨#[]⟩, .int .i64 0, .int .i64 0, .int .i64 0] 105)) := ⟨_, rfl⟩
  have haw := HAW.out
  rw [← hW] at haw ⊢
  have HW := Lib.hid haw
  have a0 := haw.af.a0
  have a1 := haw.af.a1
  have a2 := haw.af.a2
  have a3 := haw.af.a3
  have r0 := haw.af.r0
  have r1 := haw.af.r1
  have r2 := haw.af.r2
  have r3 := haw.af.r3
  have r4 := haw.af.r4
  have o0 := haw.af.o0
  have o1 := haw.af.o1
  have o2 := haw.af.o2
  have o3 := haw.af.o3
  have o4 := haw.af.o4
  have y0 := haw.af.fr 0
  have y1 := haw.af.fr 1
  have y2 := haw.af.fr 2
  have y3 := haw.af.fr 3
  have y4 := haw.af.fr 4
  have x0 := haw.af.fo 0
  have x1 := haw.af.fo 1
  have x2 := haw.af.fo 2
  have x3 := haw.af.fo 3
  have x4 := haw.af.fo 4
  have gs := haw.gs
  have hne0 : ¬ g = w.heap.size := by omega
  have hne1 : ¬ g = w.heap.size + 1 := by omega
  have hne2 : ¬ g = w.heap.size + 1 + 1 := by omega
  have hnf0 : ¬ w.heap.size = g := by omega
  have hnf1 : ¬ w.heap.size + 1 = g := by omega
  have hnf2 : ¬ w.heap.size + 1 + 1 = g := by omega
  dsimp only at a0 a1 a2 a3
  clear haw hW
  have hpw := HP.out W _ HW.out.ef
  have HPW := Lib.hid hpw
  clear hpw
  go_wp2_with fail
  refine HPW.out.mono ?_
  rintro e W2 ⟨rfl, S2, h2, hT2⟩
  have af2 := HW.out.af.touch hT2 HW.out.rl
  have p0 := af2.r0
  have p1 := af2.r1
  have p2 := af2.r2
  have p3 := af2.r3
  have p4 := af2.r4
  have q0 := af2.o0
  have q1 := af2.o1
  have q2 := af2.o2
  have q3 := af2.o3
  have q4 := af2.o4
  have w0 := af2.fr 0
  have w1' := af2.fr 1
  have w2' := af2.fr 2
  have w3' := af2.fr 3
  have w4' := af2.fr 4
  have v0 := af2.fo 0
  have v1 := af2.fo 1
  have v2 := af2.fo 2
  have v3 := af2.fo 3
  have v4 := af2.fo 4
  have HAE := Lib.hid (HW.out.ae h2 hT2)
  clear af2 hT2 h2 a0 a1 a2 a3 r0 r1 r2 r3 r4 o0 o1 o2 o3 o4 y0 y1 y2 y3 y4 x0 x1 x2 x3 x4
  go_wp2
  refine bodyPost_ret (v := .agg #[.int .i64 z, .string ⟨#[]⟩, .int .i64 0, .int .i64 0, .int .i64 0]) (by simp [results, Try.results60, go_sem, p0, p1, p2, p3, p4]) rfl ?_
  refine AE.post ?_ _
  repeat (first | (with_reducible exact HAE.out) | (with_reducible refine AE.res ?_ _ _) | (with_reducible refine AE.out ?_ _ _) | (with_reducible refine AE.drewN ?_ _) | (with_reducible refine AE.drew ?_))


set_option maxRecDepth 100000 in
set_option maxHeartbeats 2000000 in
theorem act_abort (B g : Nat) (E : Eng) (S : SlotsE) (a : Acn) (w : World) (h : EngF B g E S w) (hk : a.kind = 5) :
    Calls Try.prog 60 #[.pointer (some ⟨g, 0, none⟩), actV a] w (EngPost B g (actE E a).1 S w (ansV (actE E a).2)) := by
  obtain ⟨A0, c0, A1, c1, A2, c2, A3, c3, A7, c7⟩ := S
  obtain ⟨kind, block, data, keep⟩ := a
  dsimp only at hk
  subst hk
  have HAW := Lib.hid (ActW.new ⟨5, block, data, keep⟩ h)
  unfold actV ansV
  cases ho : E.opened with
  | true =>
    have e : actE E ⟨5, block, data, keep⟩ = ({ E with opened := false, ws := [] }, Ans.of 0) := by rw [actE, if_neg (by simp), if_neg (by simp), if_neg (by simp), if_neg (by simp), if_pos rfl, ho]; rfl
    rw [e]
    have HO := Lib.hid ho
    clear e ho h
    dsimp only [Ans.of]
    go_enter Try.func60, Try.ntmps60
    go_upto_region 2 with (fail)
    obtain ⟨W, hW⟩ : ∃ W, W = (((w.alloc (.cells #[.int .i64 5, .int .i64 block, .string data, .int .i64 keep] 103)).alloc (.cells #[.int .i64 0, .string ⟨#[]⟩, .int .i64 0, .int .i64 0, .int .i64 0] 105)).alloc (.cells #[.int .i64 0, .string ⟨#[]⟩, .int .i64 0, .int .i64 0, .int .i64 0] 105)) := ⟨_, rfl⟩
    have haw := HAW.out
    rw [← hW] at haw ⊢
    have HW := Lib.hid haw
    have a0 := haw.af.a0
    have a1 := haw.af.a1
    have a2 := haw.af.a2
    have a3 := haw.af.a3
    have r0 := haw.af.r0
    have r1 := haw.af.r1
    have r2 := haw.af.r2
    have r3 := haw.af.r3
    have r4 := haw.af.r4
    have o0 := haw.af.o0
    have o1 := haw.af.o1
    have o2 := haw.af.o2
    have o3 := haw.af.o3
    have o4 := haw.af.o4
    have y0 := haw.af.fr 0
    have y1 := haw.af.fr 1
    have y2 := haw.af.fr 2
    have y3 := haw.af.fr 3
    have y4 := haw.af.fr 4
    have x0 := haw.af.fo 0
    have x1 := haw.af.fo 1
    have x2 := haw.af.fo 2
    have x3 := haw.af.fo 3
    have x4 := haw.af.fo 4
    have gs := haw.gs
    have hne0 : ¬ g = w.heap.size := by omega
    have hne1 : ¬ g = w.heap.size + 1 := by omega
    have hne2 : ¬ g = w.heap.size + 1 + 1 := by omega
    have hnf0 : ¬ w.heap.size = g := by omega
    have hnf1 : ¬ w.heap.size + 1 = g := by omega
    have hnf2 : ¬ w.heap.size + 1 + 1 = g := by omega
    dsimp only at a0 a1 a2 a3
    clear haw hW
    have k6 := HW.out.ef.k6
    have k7 := HW.out.ef.k7
    have z6 := HW.out.ef.fz 6
    have z7 := HW.out.ef.fz 7
    dsimp only at k7
    rw [HO.out] at k6
    have HAE := Lib.hid (HW.out.same.closed)
    go_wp2
    refine bodyPost_ret (v := .agg #[.int .i64 0, .string ⟨#[]⟩, .int .i64 0, .int .i64 0, .int .i64 0]) (by simp [results, Try.results60, go_sem, r0, r1, r2, r3, r4]) rfl ?_
    refine AE.post ?_ _
    repeat (first | (with_reducible exact HAE.out) | (with_reducible refine AE.res ?_ _ _) | (with_reducible refine AE.out ?_ _ _) | (with_reducible refine AE.drewN ?_ _) | (with_reducible refine AE.drew ?_))
  | false =>
    have e : actE E ⟨5, block, data, keep⟩ = ({ E with opened := false, ws := [] }, Ans.of 7) := by rw [actE, if_neg (by simp), if_neg (by simp), if_neg (by simp), if_neg (by simp), if_pos rfl, ho]; rfl
    rw [e]
    have HO := Lib.hid ho
    clear e ho h
    dsimp only [Ans.of]
    go_enter Try.func60, Try.ntmps60
    go_upto_region 2 with (fail)
    obtain ⟨W, hW⟩ : ∃ W, W = (((w.alloc (.cells #[.int .i64 5, .int .i64 block, .string data, .int .i64 keep] 103)).alloc (.cells #[.int .i64 0, .string ⟨#[]⟩, .int .i64 0, .int .i64 0, .int .i64 0] 105)).alloc (.cells #[.int .i64 0, .string ⟨#[]⟩, .int .i64 0, .int .i64 0, .int .i64 0] 105)) := ⟨_, rfl⟩
    have haw := HAW.out
    rw [← hW] at haw ⊢
    have HW := Lib.hid haw
    have a0 := haw.af.a0
    have a1 := haw.af.a1
    have a2 := haw.af.a2
    have a3 := haw.af.a3
    have r0 := haw.af.r0
    have r1 := haw.af.r1
    have r2 := haw.af.r2
    have r3 := haw.af.r3
    have r4 := haw.af.r4
    have o0 := haw.af.o0
    have o1 := haw.af.o1
    have o2 := haw.af.o2
    have o3 := haw.af.o3
    have o4 := haw.af.o4
    have y0 := haw.af.fr 0
    have y1 := haw.af.fr 1
    have y2 := haw.af.fr 2
    have y3 := haw.af.fr 3
    have y4 := haw.af.fr 4
    have x0 := haw.af.fo 0
    have x1 := haw.af.fo 1
    have x2 := haw.af.fo 2
    have x3 := haw.af.fo 3
    have x4 := haw.af.fo 4
    have gs := haw.gs
    have hne0 : ¬ g = w.heap.size := by omega
    have hne1 : ¬ g = w.heap.size + 1 := by omega
    have hne2 : ¬ g = w.heap.size + 1 + 1 := by omega
    have hnf0 : ¬ w.heap.size = g := by omega
    have hnf1 : ¬ w.heap.size + 1 = g := by omega
    have hnf2 : ¬ w.heap.size + 1 + 1 = g := by omega
    dsimp only at a0 a1 a2 a3
    clear haw hW
    have k6 := HW.out.ef.k6
    have k7 := HW.out.ef.k7
    have z6 := HW.out.ef.fz 6
    have z7 := HW.out.ef.fz 7
    dsimp only at k7
    rw [HO.out] at k6
    have HAE := Lib.hid ((HW.out.same.out 0 (.int .i64 7)).closed)
    go_wp2
    refine bodyPost_ret (v := .agg #[.int .i64 7, .string ⟨#[]⟩, .int .i64 0, .int .i64 0, .int .i64 0]) (by simp [results, Try.results60, go_sem, r0, r1, r2, r3, r4]) rfl ?_
    refine AE.post ?_ _
    repeat (first | (with_reducible exact HAE.out) | (with_reducible refine AE.res ?_ _ _) | (with_reducible refine AE.out ?_ _ _) | (with_reducible refine AE.drewN ?_ _) | (with_reducible refine AE.drew ?_))


set_option maxRecDepth 100000 in
set_option maxHeartbeats 2000000 in
theorem act_flush (B g : Nat) (E : Eng) (S : SlotsE) (a : Acn) (w : World) (h : EngF B g E S w) (hG : GoodE E) (hk : a.kind = 6) :
    Calls Try.prog 60 #[.pointer (some ⟨g, 0, none⟩), actV a] w (EngPost B g (actE E a).1 S w (ansV (actE E a).2)) := by
  obtain ⟨A0, c0, A1, c1, A2, c2, A3, c3, A7, c7⟩ := S
  obtain ⟨kind, block, data, keep⟩ := a
  dsimp only at hk
  subst hk
  have HAW := Lib.hid (ActW.new ⟨6, block, data, keep⟩ h)
  unfold actV ansV
  have e : actE E ⟨6, block, data, keep⟩ = ({ E with log := E.log ++ E.pend, pend := [] }, Ans.of 0) := by rw [actE, if_neg (by simp), if_neg (by simp), if_neg (by simp), if_neg (by simp), if_neg (by simp), if_pos rfl]
  rw [e]
  dsimp only [Ans.of]
  have hls : (bstr E.log).size + (bstr E.pend).size ≤ 4000 := by rw [bstr_size, bstr_size]; exact hG.log
  clear e h hG
  go_enter Try.func60, Try.ntmps60
  go_upto_region 2 with (fail)
  obtain ⟨W, hW⟩ : ∃ W, W = (((w.alloc (.cells #[.int .i64 6, .int .i64 block, .string data, .int .i64 keep] 103)).alloc (.cells #[.int .i64 0, .string ⟨#[]⟩, .int .i64 0, .int .i64 0, .int .i64 0] 105)).alloc (.cells #[.int .i64 0, .string ⟨#[]⟩, .int .i64 0, .int .i64 0, .int .i64 0] 105)) := ⟨_, rfl⟩
  have haw := HAW.out
  rw [← hW] at haw ⊢
  have HW := Lib.hid haw
  have a0 := haw.af.a0
  have a1 := haw.af.a1
  have a2 := haw.af.a2
  have a3 := haw.af.a3
  have r0 := haw.af.r0
  have r1 := haw.af.r1
  have r2 := haw.af.r2
  have r3 := haw.af.r3
  have r4 := haw.af.r4
  have o0 := haw.af.o0
  have o1 := haw.af.o1
  have o2 := haw.af.o2
  have o3 := haw.af.o3
  have o4 := haw.af.o4
  have y0 := haw.af.fr 0
  have y1 := haw.af.fr 1
  have y2 := haw.af.fr 2
  have y3 := haw.af.fr 3
  have y4 := haw.af.fr 4
  have x0 := haw.af.fo 0
  have x1 := haw.af.fo 1
  have x2 := haw.af.fo 2
  have x3 := haw.af.fo 3
  have x4 := haw.af.fo 4
  have gs := haw.gs
  have hne0 : ¬ g = w.heap.size := by omega
  have hne1 : ¬ g = w.heap.size + 1 := by omega
  have hne2 : ¬ g = w.heap.size + 1 + 1 := by omega
  have hnf0 : ¬ w.heap.size = g := by omega
  have hnf1 : ¬ w.heap.size + 1 = g := by omega
  have hnf2 : ¬ w.heap.size + 1 + 1 = g := by omega
  dsimp only at a0 a1 a2 a3
  clear haw hW
  have k4 := HW.out.ef.k4
  have k5 := HW.out.ef.k5
  have z4 := HW.out.ef.fz 4
  have z5 := HW.out.ef.fz 5
  have HAE := Lib.hid HW.out.same.flush
  go_wp2
  go_region
  go_wp2
  refine bodyPost_ret (v := .agg #[.int .i64 0, .string ⟨#[]⟩, .int .i64 0, .int .i64 0, .int .i64 0]) (by simp [results, Try.results60, go_sem, r0, r1, r2, r3, r4]) rfl ?_
  refine AE.post ?_ _
  repeat (first | (with_reducible exact HAE.out) | (with_reducible refine AE.res ?_ _ _) | (with_reducible refine AE.out ?_ _ _) | (with_reducible refine AE.drewN ?_ _) | (with_reducible refine AE.drew ?_))


set_option maxRecDepth 100000 in
set_option maxHeartbeats 2000000 in
theorem act_crash (B g : Nat) (E : Eng) (S : SlotsE) (a : Acn) (w : World) (h : EngF B g E S w) (hG : GoodE E) (hb : i64Ok a.keep) (hk : a.kind = 7) :
    Calls Try.prog 60 #[.pointer (some ⟨g, 0, none⟩), actV a] w (EngPost B g (actE E a).1 S w (ansV (actE E a).2)) := by
  obtain ⟨A0, c0, A1, c1, A2, c2, A3, c3, A7, c7⟩ := S
  obtain ⟨kind, block, data, keep⟩ := a
  dsimp only at hk
  subst hk
  have HAW := Lib.hid (ActW.new ⟨7, block, data, keep⟩ h)
  unfold actV ansV
  have e : actE E ⟨7, block, data, keep⟩ = ((crashE E keep).1, ⟨(crashE E keep).2.2, noData, 0, 0, (crashE E keep).2.1⟩) := by rw [actE, if_neg (by simp), if_neg (by simp), if_neg (by simp), if_neg (by simp), if_neg (by simp), if_neg (by simp), if_pos rfl]
  rw [e]
  dsimp only at hb ⊢
  have hp := fun (W : World) (S : SlotsE) (hW : EngF B g E S W) => crash_any B g E S keep W hW hG hb
  obtain ⟨E', y, z, hz⟩ : ∃ E' y z, crashE E keep = (E', y, z) := ⟨_, _, _, rfl⟩
  rw [hz] at hp ⊢
  have HP := Lib.hid hp
  clear e h hp hz hG hb
  go_enter Try.func60, Try.ntmps60
  go_upto_region 2 with (fail)
  obtain ⟨W, hW⟩ : ∃ W, W = (((w.alloc (.cells #[.int .i64 7, .int .i64 block, .string data, .int .i64 keep] 103)).alloc (.cells #[.int .i64 0, .string ⟨#[]⟩, .int .i64 0, .int .i64 0, .int .i64 0] 105)).alloc (.cells #[.int .i64 0, .string ⟨#[]⟩, .int .i64 0, .int .i64 0, .int .i64 0] 105)) := ⟨_, rfl⟩
  have haw := HAW.out
  rw [← hW] at haw ⊢
  have HW := Lib.hid haw
  have a0 := haw.af.a0
  have a1 := haw.af.a1
  have a2 := haw.af.a2
  have a3 := haw.af.a3
  have r0 := haw.af.r0
  have r1 := haw.af.r1
  have r2 := haw.af.r2
  have r3 := haw.af.r3
  have r4 := haw.af.r4
  have o0 := haw.af.o0
  have o1 := haw.af.o1
  have o2 := haw.af.o2
  have o3 := haw.af.o3
  have o4 := haw.af.o4
  have y0 := haw.af.fr 0
  have y1 := haw.af.fr 1
  have y2 := haw.af.fr 2
  have y3 := haw.af.fr 3
  have y4 := haw.af.fr 4
  have x0 := haw.af.fo 0
  have x1 := haw.af.fo 1
  have x2 := haw.af.fo 2
  have x3 := haw.af.fo 3
  have x4 := haw.af.fo 4
  have gs := haw.gs
  have hne0 : ¬ g = w.heap.size := by omega
  have hne1 : ¬ g = w.heap.size + 1 := by omega
  have hne2 : ¬ g = w.heap.size + 1 + 1 := by omega
  have hnf0 : ¬ w.heap.size = g := by omega
  have hnf1 : ¬ w.heap.size + 1 = g := by omega
  have hnf2 : ¬ w.heap.size + 1 + 1 = g := by omega
  dsimp only at a0 a1 a2 a3
  clear haw hW
  have hpw := HP.out W _ HW.out.ef
  have HPW := Lib.hid hpw
  clear hpw
  go_wp2_with fail
  refine HPW.out.mono ?_
  rintro e W2 ⟨rfl, S2, h2, hT2⟩
  have af2 := HW.out.af.touch hT2 HW.out.rl
  have p0 := af2.r0
  have p1 := af2.r1
  have p2 := af2.r2
  have p3 := af2.r3
  have p4 := af2.r4
  have q0 := af2.o0
  have q1 := af2.o1
  have q2 := af2.o2
  have q3 := af2.o3
  have q4 := af2.o4
  have w0 := af2.fr 0
  have w1' := af2.fr 1
  have w2' := af2.fr 2
  have w3' := af2.fr 3
  have w4' := af2.fr 4
  have v0 := af2.fo 0
  have v1 := af2.fo 1
  have v2 := af2.fo 2
  have v3 := af2.fo 3
  have v4 := af2.fo 4
  have HAE := Lib.hid (HW.out.ae h2 hT2)
  clear af2 hT2 h2 a0 a1 a2 a3 r0 r1 r2 r3 r4 o0 o1 o2 o3 o4 y0 y1 y2 y3 y4 x0 x1 x2 x3 x4
  go_wp2
  refine bodyPost_ret (v := .agg #[.int .i64 z, .string ⟨#[]⟩, .int .i64 0, .int .i64 0, .int .i64 y]) (by simp [results, Try.results60, go_sem, p0, p1, p2, p3, p4]) rfl ?_
  refine AE.post ?_ _
  repeat (first | (with_reducible exact HAE.out) | (with_reducible refine AE.res ?_ _ _) | (with_reducible refine AE.out ?_ _ _) | (with_reducible refine AE.drewN ?_ _) | (with_reducible refine AE.drew ?_))


set_option maxRecDepth 100000 in
set_option maxHeartbeats 2000000 in
theorem act_mark (B g : Nat) (E : Eng) (S : SlotsE) (a : Acn) (w : World) (h : EngF B g E S w) (hG : GoodE E) (hk : a.kind = 8) :
    Calls Try.prog 60 #[.pointer (some ⟨g, 0, none⟩), actV a] w (EngPost B g (actE E a).1 S w (ansV (actE E a).2)) := by
  obtain ⟨A0, c0, A1, c1, A2, c2, A3, c3, A7, c7⟩ := S
  obtain ⟨kind, block, data, keep⟩ := a
  dsimp only at hk
  subst hk
  have HAW := Lib.hid (ActW.new ⟨8, block, data, keep⟩ h)
  unfold actV ansV
  have e : actE E ⟨8, block, data, keep⟩ = ({ E with base := E.v, log := [], pend := [] }, Ans.of 0) := by rw [actE, if_neg (by simp), if_neg (by simp), if_neg (by simp), if_neg (by simp), if_neg (by simp), if_neg (by simp), if_neg (by simp), if_pos rfl]
  rw [e]
  dsimp only [Ans.of]
  have hb1 : E.v.1.length ≤ 24 := hG.vol.good.1
  have hb2 : E.v.2.length ≤ 32 := hG.vol.hi
  have HB1 := Lib.hid hb1
  have HB2 := Lib.hid hb2
  clear e h hG hb1 hb2
  go_enter Try.func60, Try.ntmps60
  go_upto_region 2 with (fail)
  obtain ⟨W, hW⟩ : ∃ W, W = (((w.alloc (.cells #[.int .i64 8, .int .i64 block, .string data, .int .i64 keep] 103)).alloc (.cells #[.int .i64 0, .string ⟨#[]⟩, .int .i64 0, .int .i64 0, .int .i64 0] 105)).alloc (.cells #[.int .i64 0, .string ⟨#[]⟩, .int .i64 0, .int .i64 0, .int .i64 0] 105)) := ⟨_, rfl⟩
  have haw := HAW.out
  rw [← hW] at haw ⊢
  have HW := Lib.hid haw
  have a0 := haw.af.a0
  have a1 := haw.af.a1
  have a2 := haw.af.a2
  have a3 := haw.af.a3
  have r0 := haw.af.r0
  have r1 := haw.af.r1
  have r2 := haw.af.r2
  have r3 := haw.af.r3
  have r4 := haw.af.r4
  have o0 := haw.af.o0
  have o1 := haw.af.o1
  have o2 := haw.af.o2
  have o3 := haw.af.o3
  have o4 := haw.af.o4
  have y0 := haw.af.fr 0
  have y1 := haw.af.fr 1
  have y2 := haw.af.fr 2
  have y3 := haw.af.fr 3
  have y4 := haw.af.fr 4
  have x0 := haw.af.fo 0
  have x1 := haw.af.fo 1
  have x2 := haw.af.fo 2
  have x3 := haw.af.fo 3
  have x4 := haw.af.fo 4
  have gs := haw.gs
  have hne0 : ¬ g = w.heap.size := by omega
  have hne1 : ¬ g = w.heap.size + 1 := by omega
  have hne2 : ¬ g = w.heap.size + 1 + 1 := by omega
  have hnf0 : ¬ w.heap.size = g := by omega
  have hnf1 : ¬ w.heap.size + 1 = g := by omega
  have hnf2 : ¬ w.heap.size + 1 + 1 = g := by omega
  dsimp only at a0 a1 a2 a3
  clear haw hW
  have k0 := HW.out.ef.k0
  have k1 := HW.out.ef.k1
  dsimp only at k0 k1
  have hcp := copy_any A0 A1 E.v.1.length c0 E.v.2.length c1 E.v.1 E.v.2 W HW.out.ef.repV HW.out.ef.repVB (own_nil HW.out.ef.o0).2 (own_nil HW.out.ef.o1).2 (by have := HB1.out; omega) (by have := HB2.out; omega)
  have HCP := Lib.hid hcp
  clear hcp
  go_wp2_with fail
  refine HCP.out.mono ?_
  rintro e W2 ⟨A8, c8, A9, c9, rfl, ho1, ho2, hbe, _, _, _, _, _, _⟩
  have hT2 : Touch (engR g ⟨A0, c0, A1, c1, A2, c2, A3, c3, A7, c7⟩) W W2 := Touch.below hbe
  have h2 := HW.out.ef.step hbe
  have hBW : B ≤ W.heap.size := by have := HW.out.ef.gb; have := HW.out.ef.gs; omega
  have k2' := h2.k2
  have k3' := h2.k3
  have k4' := h2.k4
  have k5' := h2.k5
  have z2' := h2.fz 2
  have z3' := h2.fz 3
  have z4' := h2.fz 4
  have z5' := h2.fz 5
  dsimp only at k2' k3' k4' k5'
  have HM := Lib.hid ((HW.out.ae h2 hT2).mark (own_mono ho1 hBW) (own_mono ho2 hBW))
  clear ho1 ho2 hbe hBW k0 k1
  have af2 := HW.out.af.touch hT2 HW.out.rl
  have p0 := af2.r0
  have p1 := af2.r1
  have p2 := af2.r2
  have p3 := af2.r3
  have p4 := af2.r4
  have q0 := af2.o0
  have q1 := af2.o1
  have q2 := af2.o2
  have q3 := af2.o3
  have q4 := af2.o4
  have w0 := af2.fr 0
  have w1' := af2.fr 1
  have w2' := af2.fr 2
  have w3' := af2.fr 3
  have w4' := af2.fr 4
  have v0 := af2.fo 0
  have v1 := af2.fo 1
  have v2 := af2.fo 2
  have v3 := af2.fo 3
  have v4 := af2.fo 4
  have HAE := HM
  clear af2 hT2 h2 a0 a1 a2 a3 r0 r1 r2 r3 r4 o0 o1 o2 o3 o4 y0 y1 y2 y3 y4 x0 x1 x2 x3 x4
  go_wp2
  refine bodyPost_ret (v := .agg #[.int .i64 0, .string ⟨#[]⟩, .int .i64 0, .int .i64 0, .int .i64 0]) (by simp [results, Try.results60, go_sem, p0, p1, p2, p3, p4]) rfl ?_
  refine AE.post ?_ _
  repeat (first | (with_reducible exact HAE.out) | (with_reducible refine AE.res ?_ _ _) | (with_reducible refine AE.out ?_ _ _) | (with_reducible refine AE.drewN ?_ _) | (with_reducible refine AE.drew ?_))


set_option maxRecDepth 100000 in
set_option maxHeartbeats 2000000 in
theorem act_stat (B g : Nat) (E : Eng) (S : SlotsE) (a : Acn) (w : World) (h : EngF B g E S w) (hG : GoodE E) (hk : a.kind = 9) :
    Calls Try.prog 60 #[.pointer (some ⟨g, 0, none⟩), actV a] w (EngPost B g (actE E a).1 S w (ansV (actE E a).2)) := by
  obtain ⟨A0, c0, A1, c1, A2, c2, A3, c3, A7, c7⟩ := S
  obtain ⟨kind, block, data, keep⟩ := a
  dsimp only at hk
  subst hk
  have HAW := Lib.hid (ActW.new ⟨9, block, data, keep⟩ h)
  unfold actV ansV
  have e : actE E ⟨9, block, data, keep⟩ = (E, ⟨0, noData, E.v.1.length, E.log.length + E.pend.length, 0⟩) := by rw [actE, if_neg (by simp), if_neg (by simp), if_neg (by simp), if_neg (by simp), if_neg (by simp), if_neg (by simp), if_neg (by simp), if_neg (by simp), if_pos rfl]
  rw [e]
  dsimp only
  obtain ⟨L, hL⟩ : ∃ L, bstr E.log = L := ⟨_, rfl⟩
  obtain ⟨D, hD⟩ : ∃ D, bstr E.pend = D := ⟨_, rfl⟩
  have hLs : E.log.length = L.size := by rw [← hL, bstr_size]
  have hDs : E.pend.length = D.size := by rw [← hD, bstr_size]
  have hls : L.size + D.size ≤ 4000 := by rw [← hLs, ← hDs]; exact hG.log
  rw [hLs, hDs]
  have HL := Lib.hid hL
  have HD := Lib.hid hD
  clear e h hG hL hD hLs hDs
  go_enter Try.func60, Try.ntmps60
  go_upto_region 2 with (fail)
  obtain ⟨W, hW⟩ : ∃ W, W = (((w.alloc (.cells #[.int .i64 9, .int .i64 block, .string data, .int .i64 keep] 103)).alloc (.cells #[.int .i64 0, .string ⟨#[]⟩, .int .i64 0, .int .i64 0, .int .i64 0] 105)).alloc (.cells #[.int .i64 0, .string ⟨#[]⟩, .int .i64 0, .int .i64 0, .int .i64 0] 105)) := ⟨_, rfl⟩
  have haw := HAW.out
  rw [← hW] at haw ⊢
  have HW := Lib.hid haw
  have a0 := haw.af.a0
  have a1 := haw.af.a1
  have a2 := haw.af.a2
  have a3 := haw.af.a3
  have r0 := haw.af.r0
  have r1 := haw.af.r1
  have r2 := haw.af.r2
  have r3 := haw.af.r3
  have r4 := haw.af.r4
  have o0 := haw.af.o0
  have o1 := haw.af.o1
  have o2 := haw.af.o2
  have o3 := haw.af.o3
  have o4 := haw.af.o4
  have y0 := haw.af.fr 0
  have y1 := haw.af.fr 1
  have y2 := haw.af.fr 2
  have y3 := haw.af.fr 3
  have y4 := haw.af.fr 4
  have x0 := haw.af.fo 0
  have x1 := haw.af.fo 1
  have x2 := haw.af.fo 2
  have x3 := haw.af.fo 3
  have x4 := haw.af.fo 4
  have gs := haw.gs
  have hne0 : ¬ g = w.heap.size := by omega
  have hne1 : ¬ g = w.heap.size + 1 := by omega
  have hne2 : ¬ g = w.heap.size + 1 + 1 := by omega
  have hnf0 : ¬ w.heap.size = g := by omega
  have hnf1 : ¬ w.heap.size + 1 = g := by omega
  have hnf2 : ¬ w.heap.size + 1 + 1 = g := by omega
  dsimp only at a0 a1 a2 a3
  clear haw hW
  have k0 := HW.out.ef.k0
  have k4 := HW.out.ef.k4
  have k5 := HW.out.ef.k5
  dsimp only at k0 k4 k5
  rw [HL.out] at k4
  rw [HD.out] at k5
  have HAE := Lib.hid HW.out.same
  go_wp2
  go_region
  go_wp2
  refine bodyPost_ret (v := .agg #[.int .i64 0, .string ⟨#[]⟩, .int .i64 E.v.1.length, .int .i64 ((L.size : Int) + (D.size : Int)), .int .i64 0]) (by simp [results, Try.results60, go_sem, r0, r1, r2, r3, r4]) rfl ?_
  refine AE.post ?_ _
  repeat (first | (with_reducible exact HAE.out) | (with_reducible refine AE.res ?_ _ _) | (with_reducible refine AE.out ?_ _ _) | (with_reducible refine AE.drewN ?_ _) | (with_reducible refine AE.drew ?_))


set_option maxRecDepth 100000 in
set_option maxHeartbeats 2000000 in
theorem act_other (B g : Nat) (E : Eng) (S : SlotsE) (a : Acn) (w : World) (h : EngF B g E S w) (hk : a.kind < 1 ∨ 9 < a.kind) :
    Calls Try.prog 60 #[.pointer (some ⟨g, 0, none⟩), actV a] w (EngPost B g (actE E a).1 S w (ansV (actE E a).2)) := by
  obtain ⟨A0, c0, A1, c1, A2, c2, A3, c3, A7, c7⟩ := S
  obtain ⟨kind, block, data, keep⟩ := a
  dsimp only at hk
  have HAW := Lib.hid (ActW.new ⟨kind, block, data, keep⟩ h)
  unfold actV ansV
  have e : actE E ⟨kind, block, data, keep⟩ = (E, Ans.of 3) := by
    rw [actE, if_neg (by dsimp only; omega), if_neg (by dsimp only; omega), if_neg (by dsimp only; omega), if_neg (by dsimp only; omega), if_neg (by dsimp only; omega), if_neg (by dsimp only; omega), if_neg (by dsimp only; omega), if_neg (by dsimp only; omega), if_neg (by dsimp only; omega)]
  rw [e]
  have d1 : (kind == 1) = false := by rw [beq_eq_false_iff_ne]; omega
  have d2 : (kind == 2) = false := by rw [beq_eq_false_iff_ne]; omega
  have d3 : (kind == 3) = false := by rw [beq_eq_false_iff_ne]; omega
  have d4 : (kind == 4) = false := by rw [beq_eq_false_iff_ne]; omega
  have d5 : (kind == 5) = false := by rw [beq_eq_false_iff_ne]; omega
  have d6 : (kind == 6) = false := by rw [beq_eq_false_iff_ne]; omega
  have d7 : (kind == 7) = false := by rw [beq_eq_false_iff_ne]; omega
  have d8 : (kind == 8) = false := by rw [beq_eq_false_iff_ne]; omega
  have d9 : (kind == 9) = false := by rw [beq_eq_false_iff_ne]; omega
  clear e h hk
  dsimp only [Ans.of]
  go_enter Try.func60, Try.ntmps60
  go_upto_region 2 with (fail)
  obtain ⟨W, hW⟩ : ∃ W, W = (((w.alloc (.cells #[.int .i64 kind, .int .i64 block, .string data, .int .i64 keep] 103)).alloc (.cells #[.int .i64 0, .string ⟨#[]⟩, .int .i64 0, .int .i64 0, .int .i64 0] 105)).alloc (.cells #[.int .i64 0, .string ⟨#[]⟩, .int .i64 0, .int .i64 0, .int .i64 0] 105)) := ⟨_, rfl⟩
  have haw := HAW.out
  rw [← hW] at haw ⊢
  have HW := Lib.hid haw
  have a0 := haw.af.a0
  have a1 := haw.af.a1
  have a2 := haw.af.a2
  have a3 := haw.af.a3
  have r0 := haw.af.r0
  have r1 := haw.af.r1
  have r2 := haw.af.r2
  have r3 := haw.af.r3
  have r4 := haw.af.r4
  have o0 := haw.af.o0
  have o1 := haw.af.o1
  have o2 := haw.af.o2
  have o3 := haw.af.o3
  have o4 := haw.af.o4
  have y0 := haw.af.fr 0
  have y1 := haw.af.fr 1
  have y2 := haw.af.fr 2
  have y3 := haw.af.fr 3
  have y4 := haw.af.fr 4
  have x0 := haw.af.fo 0
  have x1 := haw.af.fo 1
  have x2 := haw.af.fo 2
  have x3 := haw.af.fo 3
  have x4 := haw.af.fo 4
  have gs := haw.gs
  have hne0 : ¬ g = w.heap.size := by omega
  have hne1 : ¬ g = w.heap.size + 1 := by omega
  have hne2 : ¬ g = w.heap.size + 1 + 1 := by omega
  have hnf0 : ¬ w.heap.size = g := by omega
  have hnf1 : ¬ w.heap.size + 1 = g := by omega
  have hnf2 : ¬ w.heap.size + 1 + 1 = g := by omega
  dsimp only at a0 a1 a2 a3
  clear haw hW
  have HAE := Lib.hid HW.out.same
  go_wp2
  refine bodyPost_ret (v := .agg #[.int .i64 3, .string ⟨#[]⟩, .int .i64 0, .int .i64 0, .int .i64 0]) (by simp [results, Try.results60, go_sem, r0, r1, r2, r3, r4]) rfl ?_
  refine AE.post ?_ _
  repeat (first | (with_reducible exact HAE.out) | (with_reducible refine AE.res ?_ _ _) | (with_reducible refine AE.out ?_ _ _) | (with_reducible refine AE.drewN ?_ _) | (with_reducible refine AE.drew ?_))


theorem act_any (B g : Nat) (E : Eng) (S : SlotsE) (a : Acn) (w : World) (h : EngF B g E S w) (hG : GoodE E) (hb : i64Ok a.block) (hd : a.data.size ≤ maxLen) (hk : i64Ok a.keep) :
    Calls Try.prog 60 #[.pointer (some ⟨g, 0, none⟩), actV a] w (EngPost B g (actE E a).1 S w (ansV (actE E a).2)) := by
  by_cases h1 : a.kind = 1
  · exact act_begin B g E S a w h h1
  by_cases h2 : a.kind = 2
  · exact act_put B g E S a w h hG hb hd h2
  by_cases h3 : a.kind = 3
  · exact act_read B g E S a w h hG hb h3
  by_cases h4 : a.kind = 4
  · exact act_commit B g E S a w h hG h4
  by_cases h5 : a.kind = 5
  · exact act_abort B g E S a w h h5
  by_cases h6 : a.kind = 6
  · exact act_flush B g E S a w h hG h6
  by_cases h7 : a.kind = 7
  · exact act_crash B g E S a w h hG hk h7
  by_cases h8 : a.kind = 8
  · exact act_mark B g E S a w h hG h8
  by_cases h9 : a.kind = 9
  · exact act_stat B g E S a w h hG h9
  · exact act_other B g E S a w h (by omega)
end Go.Proofs.Ytphbebcbbfbgpab

namespace Go.Proofs.Ytphbebcbbfbgpab
open Go Go.RowKit

theorem Touch.setC {R : Nat → Prop} {w W : World} (h : Touch R w W) (p : Addr) (hp : R p.block) (u : Value) : Touch R w (W.setCell p u) := h.trans (Touch.setCell p hp u)
theorem Touch.drawC {R : Nat → Prop} {w W : World} (h : Touch R w W) (n : Nat) : Touch R w (W.drewN n) := h.trans (Touch.below (below_drewN (Below.refl _ _) n))
theorem Touch.drawO {R : Nat → Prop} {w W : World} (h : Touch R w W) : Touch R w W.drew := h.trans Touch.drew
abbrev zAns : Array Value := #[.int .i64 0, .string ⟨#[]⟩, .int .i64 0, .int .i64 0, .int .i64 0]
abbrev zHouse : Array Value := #[.slice none 0 0, .slice none 0 0, .slice none 0 0, .int .i64 0, .bool false, .slice none 0 0]
def world5 (w : World) (x : HV) (H : Hse) (a : Acn) : World :=
  ((((w.alloc (.cells #[.slice x.A0 H.base.1.length x.c0, .slice x.A1 H.base.2.length x.c1, .slice x.AD H.deals.length x.cd, .int .i64 H.last, .bool H.opened, .slice x.AL H.ws.length x.cl] 109)).alloc (.cells #[.int .i64 a.kind, .int .i64 a.block, .string a.data, .int .i64 a.keep] 103)).alloc (.cells zHouse 109)).alloc (.cells zAns 105)).alloc (.cells zAns 105)

structure Act5 (w : World) (x : HV) (H : Hse) (a : Acn) (o : Ans) (W : World) : Prop where
  h0 : W.cell? ⟨w.heap.size, 0, none⟩ = some (.slice x.A0 H.base.1.length x.c0)
  h1 : W.cell? ⟨w.heap.size, 1, none⟩ = some (.slice x.A1 H.base.2.length x.c1)
  h2 : W.cell? ⟨w.heap.size, 2, none⟩ = some (.slice x.AD H.deals.length x.cd)
  h3 : W.cell? ⟨w.heap.size, 3, none⟩ = some (.int .i64 H.last)
  h4 : W.cell? ⟨w.heap.size, 4, none⟩ = some (.bool H.opened)
  h5 : W.cell? ⟨w.heap.size, 5, none⟩ = some (.slice x.AL H.ws.length x.cl)
  a0 : W.cell? ⟨w.heap.size + 1, 0, none⟩ = some (.int .i64 a.kind)
  a1 : W.cell? ⟨w.heap.size + 1, 1, none⟩ = some (.int .i64 a.block)
  a2 : W.cell? ⟨w.heap.size + 1, 2, none⟩ = some (.string a.data)
  a3 : W.cell? ⟨w.heap.size + 1, 3, none⟩ = some (.int .i64 a.keep)
  r0 : W.cell? ⟨w.heap.size + 1 + 1, 0, none⟩ = some (.slice none 0 0)
  r1 : W.cell? ⟨w.heap.size + 1 + 1, 1, none⟩ = some (.slice none 0 0)
  r2 : W.cell? ⟨w.heap.size + 1 + 1, 2, none⟩ = some (.slice none 0 0)
  r3 : W.cell? ⟨w.heap.size + 1 + 1, 3, none⟩ = some (.int .i64 0)
  r4 : W.cell? ⟨w.heap.size + 1 + 1, 4, none⟩ = some (.bool false)
  r5 : W.cell? ⟨w.heap.size + 1 + 1, 5, none⟩ = some (.slice none 0 0)
  s0 : W.cell? ⟨w.heap.size + 1 + 1 + 1, 0, none⟩ = some (.int .i64 0)
  s1 : W.cell? ⟨w.heap.size + 1 + 1 + 1, 1, none⟩ = some (.string ⟨#[]⟩)
  s2 : W.cell? ⟨w.heap.size + 1 + 1 + 1, 2, none⟩ = some (.int .i64 0)
  s3 : W.cell? ⟨w.heap.size + 1 + 1 + 1, 3, none⟩ = some (.int .i64 0)
  s4 : W.cell? ⟨w.heap.size + 1 + 1 + 1, 4, none⟩ = some (.int .i64 0)
  o0 : W.cell? ⟨w.heap.size + 1 + 1 + 1 + 1, 0, none⟩ = some (.int .i64 o.code)
  o1 : W.cell? ⟨w.heap.size + 1 + 1 + 1 + 1, 1, none⟩ = some (.string o.data)
  o2 : W.cell? ⟨w.heap.size + 1 + 1 + 1 + 1, 2, none⟩ = some (.int .i64 o.items)
  o3 : W.cell? ⟨w.heap.size + 1 + 1 + 1 + 1, 3, none⟩ = some (.int .i64 o.log)
  o4 : W.cell? ⟨w.heap.size + 1 + 1 + 1 + 1, 4, none⟩ = some (.int .i64 o.count)
  fh : ∀ i, W.frozen? ⟨w.heap.size, i, none⟩ = false
  fr : ∀ i, W.frozen? ⟨w.heap.size + 1 + 1, i, none⟩ = false
  fs : ∀ i, W.frozen? ⟨w.heap.size + 1 + 1 + 1, i, none⟩ = false
  fo : ∀ i, W.frozen? ⟨w.heap.size + 1 + 1 + 1 + 1, i, none⟩ = false
  be : Below w.heap.size w W
  sz : w.heap.size + 1 + 1 + 1 + 1 < W.heap.size
theorem world5_size (w : World) (x : HV) (H : Hse) (a : Acn) : (world5 w x H a).heap.size = w.heap.size + 1 + 1 + 1 + 1 + 1 := by simp [world5]
theorem world5_below (w : World) (x : HV) (H : Hse) (a : Acn) : Below w.heap.size w (world5 w x H a) :=
  (((((Below.refl _ _).alloc (Nat.le_refl _) _).alloc (by simp) _).alloc (by simp; omega) _).alloc (by simp; omega) _).alloc (by simp; omega) _
set_option maxHeartbeats 1000000 in
theorem Act5.new (w : World) (x : HV) (H : Hse) (a : Acn) : Act5 w x H a (Ans.of 0) (world5 w x H a) := by
  have hb := world5_below w x H a
  have hs := world5_size w x H a
  constructor
  case be => exact hb
  case sz => omega
  all_goals unfold world5
  all_goals first
    | (simp [go_sem]; done)
    | (simp [go_sem, Ans.of, noData]; done)
    | (intro i; simp [go_sem]; done)
theorem Act5.step {w W W' : World} {x : HV} {H : Hse} {a : Acn} {o : Ans} (h : Act5 w x H a o W) (hb : Below W.heap.size W W') : Act5 w x H a o W' := by
  have hs := h.sz
  constructor
  case be => exact h.be.trans (hb.mono h.be.size)
  case sz => exact Nat.lt_of_lt_of_le hs hb.size
  case h0 => exact (hb.cell (by dsimp only; omega)).trans h.h0
  case h1 => exact (hb.cell (by dsimp only; omega)).trans h.h1
  case h2 => exact (hb.cell (by dsimp only; omega)).trans h.h2
  case h3 => exact (hb.cell (by dsimp only; omega)).trans h.h3
  case h4 => exact (hb.cell (by dsimp only; omega)).trans h.h4
  case h5 => exact (hb.cell (by dsimp only; omega)).trans h.h5
  case a0 => exact (hb.cell (by dsimp only; omega)).trans h.a0
  case a1 => exact (hb.cell (by dsimp only; omega)).trans h.a1
  case a2 => exact (hb.cell (by dsimp only; omega)).trans h.a2
  case a3 => exact (hb.cell (by dsimp only; omega)).trans h.a3
  case r0 => exact (hb.cell (by dsimp only; omega)).trans h.r0
  case r1 => exact (hb.cell (by dsimp only; omega)).trans h.r1
  case r2 => exact (hb.cell (by dsimp only; omega)).trans h.r2
  case r3 => exact (hb.cell (by dsimp only; omega)).trans h.r3
  case r4 => exact (hb.cell (by dsimp only; omega)).trans h.r4
  case r5 => exact (hb.cell (by dsimp only; omega)).trans h.r5
  case s0 => exact (hb.cell (by dsimp only; omega)).trans h.s0
  case s1 => exact (hb.cell (by dsimp only; omega)).trans h.s1
  case s2 => exact (hb.cell (by dsimp only; omega)).trans h.s2
  case s3 => exact (hb.cell (by dsimp only; omega)).trans h.s3
  case s4 => exact (hb.cell (by dsimp only; omega)).trans h.s4
  case o0 => exact (hb.cell (by dsimp only; omega)).trans h.o0
  case o1 => exact (hb.cell (by dsimp only; omega)).trans h.o1
  case o2 => exact (hb.cell (by dsimp only; omega)).trans h.o2
  case o3 => exact (hb.cell (by dsimp only; omega)).trans h.o3
  case o4 => exact (hb.cell (by dsimp only; omega)).trans h.o4
  case fh => exact fun i => (hb.frozen (by dsimp only; omega)).trans (h.fh i)
  case fr => exact fun i => (hb.frozen (by dsimp only; omega)).trans (h.fr i)
  case fs => exact fun i => (hb.frozen (by dsimp only; omega)).trans (h.fs i)
  case fo => exact fun i => (hb.frozen (by dsimp only; omega)).trans (h.fo i)
abbrev ActR (w : World) (k : Nat) : Prop := w.heap.size ≤ k ∧ k ≤ w.heap.size + 1 + 1 + 1 + 1
/-- the world in which the reference's act goes through its switch -/
structure HAct (w : World) (x : HV) (H : Hse) (a : Acn) (q : Nat) (A : Option Addr) (c : Nat) (B : Option Addr) (d : Nat) (V : Vol) (o : Ans) (W : World) : Prop where
  f : Act5 w x H a o W
  v0 : W.cell? ⟨q, 0, none⟩ = some (.slice A V.1.length c)
  v1 : W.cell? ⟨q, 1, none⟩ = some (.slice B V.2.length d)
  q1 : w.heap.size + 1 + 1 + 1 + 1 < q
  q2 : q < W.heap.size
  st : StayV (ActR w) A c B d V W
section
variable {w W W' : World} {x : HV} {H : Hse} {a : Acn} {q : Nat} {A : Option Addr} {c : Nat} {B : Option Addr} {d : Nat} {V : Vol} {o : Ans}
theorem HAct.step (h : HAct w x H a q A c B d V o W) (hb : Below W.heap.size W W') : HAct w x H a q A c B d V o W' :=
  ⟨h.f.step hb, (hb.cell h.q2).trans h.v0, (hb.cell h.q2).trans h.v1, h.q1, Nat.lt_of_lt_of_le h.q2 hb.size, h.st.step (Touch.below hb)⟩
theorem HAct.new (hs : StayV (ActR w) A c B d V W) (hb : Below (world5 w x H a).heap.size (world5 w x H a) W) :
    HAct w x H a W.heap.size A c B d V (Ans.of 0) (W.alloc (.cells #[.slice A V.1.length c, .slice B V.2.length d] 30)) := by
  have h1 := hb.size
  rw [world5_size] at h1
  have al : Below W.heap.size W (W.alloc (.cells #[.slice A V.1.length c, .slice B V.2.length d] 30)) := (Below.refl _ _).alloc (Nat.le_refl _) _
  refine ⟨((Act5.new w x H a).step hb).step al, by simp [go_sem], by simp [go_sem], by omega, by simp, hs.step (Touch.below al)⟩
/-- a cell of the answer is laid -/
theorem HAct.setO {i : Nat} {u : Value} {o' : Ans} (h : HAct w x H a q A c B d V o W)
    (h0 : (W.setCell ⟨w.heap.size + 1 + 1 + 1 + 1, i, none⟩ u).cell? ⟨w.heap.size + 1 + 1 + 1 + 1, 0, none⟩ = some (.int .i64 o'.code))
    (h1 : (W.setCell ⟨w.heap.size + 1 + 1 + 1 + 1, i, none⟩ u).cell? ⟨w.heap.size + 1 + 1 + 1 + 1, 1, none⟩ = some (.string o'.data))
    (h2 : (W.setCell ⟨w.heap.size + 1 + 1 + 1 + 1, i, none⟩ u).cell? ⟨w.heap.size + 1 + 1 + 1 + 1, 2, none⟩ = some (.int .i64 o'.items))
    (h3 : (W.setCell ⟨w.heap.size + 1 + 1 + 1 + 1, i, none⟩ u).cell? ⟨w.heap.size + 1 + 1 + 1 + 1, 3, none⟩ = some (.int .i64 o'.log))
    (h4 : (W.setCell ⟨w.heap.size + 1 + 1 + 1 + 1, i, none⟩ u).cell? ⟨w.heap.size + 1 + 1 + 1 + 1, 4, none⟩ = some (.int .i64 o'.count)) :
    HAct w x H a q A c B d V o' (W.setCell ⟨w.heap.size + 1 + 1 + 1 + 1, i, none⟩ u) := by
  have hT : Touch (fun k => k = w.heap.size + 1 + 1 + 1 + 1) W (W.setCell ⟨w.heap.size + 1 + 1 + 1 + 1, i, none⟩ u) := Touch.setCell (R := fun k => k = w.heap.size + 1 + 1 + 1 + 1) ⟨w.heap.size + 1 + 1 + 1 + 1, i, none⟩ rfl u
  have hR : Touch (ActR w) W (W.setCell ⟨w.heap.size + 1 + 1 + 1 + 1, i, none⟩ u) := hT.mono (fun k _ hk => by subst hk; exact ⟨by omega, by omega⟩)
  have hs := h.f.sz
  have hq := h.q1
  refine ⟨?_, (hT.cell h.q2 (by dsimp only; omega)).trans h.v0, (hT.cell h.q2 (by dsimp only; omega)).trans h.v1, h.q1, Nat.lt_of_lt_of_le h.q2 hT.size, h.st.step hR⟩
  have hc : ∀ k j, k < w.heap.size + 1 + 1 + 1 + 1 → (W.setCell ⟨w.heap.size + 1 + 1 + 1 + 1, i, none⟩ u).cell? ⟨k, j, none⟩ = W.cell? ⟨k, j, none⟩ := fun k j hk => hT.cell (by dsimp only; omega) (by dsimp only; omega)
  have hf : ∀ p, (W.setCell ⟨w.heap.size + 1 + 1 + 1 + 1, i, none⟩ u).frozen? p = W.frozen? p := fun p => World.frozen?_setCell _ _ _ _
  exact ⟨(hc _ _ (by omega)).trans h.f.h0, (hc _ _ (by omega)).trans h.f.h1, (hc _ _ (by omega)).trans h.f.h2, (hc _ _ (by omega)).trans h.f.h3, (hc _ _ (by omega)).trans h.f.h4, (hc _ _ (by omega)).trans h.f.h5,
    (hc _ _ (by omega)).trans h.f.a0, (hc _ _ (by omega)).trans h.f.a1, (hc _ _ (by omega)).trans h.f.a2, (hc _ _ (by omega)).trans h.f.a3,
    (hc _ _ (by omega)).trans h.f.r0, (hc _ _ (by omega)).trans h.f.r1, (hc _ _ (by omega)).trans h.f.r2, (hc _ _ (by omega)).trans h.f.r3, (hc _ _ (by omega)).trans h.f.r4, (hc _ _ (by omega)).trans h.f.r5,
    (hc _ _ (by omega)).trans h.f.s0, (hc _ _ (by omega)).trans h.f.s1, (hc _ _ (by omega)).trans h.f.s2, (hc _ _ (by omega)).trans h.f.s3, (hc _ _ (by omega)).trans h.f.s4, h0, h1, h2, h3, h4,
    fun j => (hf _).trans (h.f.fh j), fun j => (hf _).trans (h.f.fr j), fun j => (hf _).trans (h.f.fs j), fun j => (hf _).trans (h.f.fo j), h.f.be.trans (hR.toBelow h.f.be.size (fun k hk => hk.1)), Nat.lt_of_lt_of_le hs hT.size⟩
theorem HAct.setCode (h : HAct w x H a q A c B d V o W) (k : Int) : HAct w x H a q A c B d V { o with code := k } (W.setCell ⟨w.heap.size + 1 + 1 + 1 + 1, 0, none⟩ (.int .i64 k)) := by
  refine h.setO ?_ ?_ ?_ ?_ ?_ <;> simp [go_sem, h.f.o0, h.f.o1, h.f.o2, h.f.o3, h.f.o4]
theorem HAct.setData (h : HAct w x H a q A c B d V o W) (z : ByteArray) : HAct w x H a q A c B d V { o with data := z } (W.setCell ⟨w.heap.size + 1 + 1 + 1 + 1, 1, none⟩ (.string z)) := by
  refine h.setO ?_ ?_ ?_ ?_ ?_ <;> simp [go_sem, h.f.o0, h.f.o1, h.f.o2, h.f.o3, h.f.o4]
theorem HAct.setItems (h : HAct w x H a q A c B d V o W) (k : Int) : HAct w x H a q A c B d V { o with items := k } (W.setCell ⟨w.heap.size + 1 + 1 + 1 + 1, 2, none⟩ (.int .i64 k)) := by
  refine h.setO ?_ ?_ ?_ ?_ ?_ <;> simp [go_sem, h.f.o0, h.f.o1, h.f.o2, h.f.o3, h.f.o4]
end
/-- a house and an answer that a call hands back: the house stands whatever becomes of R's blocks -/
def ActedPost (R : Nat → Prop) (w : World) (r : Hse × Ans) (e : Ending) (w' : World) : Prop :=
  ∃ x', e = .returned (.tuple #[houseV x' r.1, ansV r.2]) ∧ HStay R w' x' r.1 ∧ Below w.heap.size w w'
abbrev ActS (R : Nat → Prop) (w : World) (k : Nat) : Prop := (w.heap.size ≤ k ∨ R k) ∧ k ≤ w.heap.size + 1 + 1 + 1 + 1
theorem HStay.later {R : Nat → Prop} {w W : World} {x : HV} {H : Hse} (h : HStay R w x H) (hb : Below w.heap.size w W) : HStay (ActS R w) W x H := fun W' hT => h W' ((Touch.below hb).later hT (fun i hi hk => hk.1.elim (fun e => by omega) id))
theorem ActS.lt {R : Nat → Prop} {w : World} {x : HV} {H : Hse} {a : Acn} {k : Nat} (h : ActS R w k) : k < (world5 w x H a).heap.size := by rw [world5_size]; have := h.2; omega
end Go.Proofs.Ytphbebcbbfbgpab

namespace Go.Proofs.Ytphbebcbbfbgpab
open Go Go.RowKit

theorem ActedPost.of {R : Nat → Prop} {w W Wf : World} {r : Hse × Ans} {x : HV} {H : Hse} {a : Acn} {q : Nat} {A : Option Addr} {c : Nat} {B : Option Addr} {d : Nat} {V : Vol} {o : Ans} {v : Value} (hA : HAct w x H a q A c B d V o W) (hT : Touch (ActR w) W Wf) (x' : HV)
    (hv : v = .tuple #[houseV x' r.1, ansV r.2]) (hr : ∀ W', Touch (ActS R w) W W' → HRep W' W'.heap.size x' r.1) (hR : ∀ k, R k → k < w.heap.size) : ActedPost R w r (.returned v) Wf :=
  ⟨x', by rw [hv], fun W' h2 => hr W' ((hT.mono (fun k _ hk => ⟨.inl hk.1, hk.2⟩)).trans (h2.mono (fun k _ hk => ⟨.inr hk, by have := hR k hk; omega⟩))), hA.f.be.trans (hT.toBelow hA.f.be.size (fun k hk => hk.1))⟩
theorem HAct.rep {w W : World} {x : HV} {H : Hse} {a : Acn} {q : Nat} {A : Option Addr} {c : Nat} {B : Option Addr} {d : Nat} {V : Vol} {o : Ans} (hA : HAct w x H a q A c B d V o W) (h : HRep w w.heap.size x H) : ∀ W', Touch (ActR w) W W' → HRep W' W'.heap.size x H := fun W' hT =>
  have hb : Below w.heap.size w W' := hA.f.be.trans (hT.toBelow hA.f.be.size (fun k hk => hk.1))
  (h.below hb (Nat.le_refl _)).mono hb.size
theorem HAct.repS {R : Nat → Prop} {w W : World} {x x' : HV} {H H' : Hse} {a : Acn} {q : Nat} {A : Option Addr} {c : Nat} {B : Option Addr} {d : Nat} {V : Vol} {o : Ans} (hA : HAct w x' H' a q A c B d V o W) (h : HStay R w x H) : ∀ W', Touch (ActS R w) W W' → HRep W' W'.heap.size x H := h.later hA.f.be
section
variable {w : World} {B : Nat} {x : HV} {H : Hse}
theorem HRep.opens (h : HRep w B x H) (o : Bool) (n : Nat) : HRep w B x { H with opened := o, last := n } := ⟨h.items, h.blocks, h.deals, h.dws, h.eq, h.l, h.n0, h.n1, h.nD, h.cap, h.cm⟩
theorem HRep.closed (h : HRep w B x H) : HRep w B { x with AL := none, cl := 0 } { H with opened := false, ws := [] } := ⟨h.items, h.blocks, h.deals, h.dws, h.eq, Rep.nil _ _ _ _ _, h.n0, h.n1, h.nD, h.cap, h.cm⟩
theorem HStay.closed {R : Nat → Prop} (h : HStay R w x H) : HStay R w { x with AL := none, cl := 0 } { H with opened := false, ws := [] } := fun W' hT => (h W' hT).closed
theorem HRep.marked {V : Vol} {A A' : Option Addr} {c c' : Nat} (h : HRep w B x H) (hi : Rep w B 3 Itm.cell A V.1.length V.1) (hb : Rep w B 1 intCell A' V.2.length V.2) (n0 : A = none → V.1.length = 0 ∧ c = 0) (n1 : A' = none → V.2.length = 0 ∧ c' = 0) :
    HRep w B { x with A0 := A, c0 := c, A1 := A', c1 := c', AD := none, cd := 0, ds := [] } { H with base := V, deals := [], last := 0 } :=
  ⟨hi, hb, Rep.nil _ _ _ _ _, by simp, rfl, h.l, n0, n1, fun _ => ⟨rfl, rfl⟩, Nat.le_refl _, by simp⟩
end

set_option maxRecDepth 100000 in
set_option maxHeartbeats 4000000 in
theorem ref_begin (x : HV) (H : Hse) (a : Acn) (R : Nat → Prop) (w : World) (hsty : HStay R w x H) (hR : ∀ k, R k → k < w.heap.size) (g : GoodH H) (hk : a.kind = 1) :
    Calls Try.prog 62 #[houseV x H, actV a] w (ActedPost R w (actH H a)) := by
  have h := hsty.now
  obtain ⟨kind, block, data, keep⟩ := a
  dsimp only at hk
  subst hk
  have e : actH H ⟨1, block, data, keep⟩ = ({ H with opened := true, last := H.last }, Ans.of (if H.opened then 7 else 0)) := by rw [actH, if_pos rfl]
  rw [e]
  clear e
  cases ho : H.opened with
  | true =>
    have HO := Lib.hid ho
    clear ho
    have HNOW := Lib.hid (now_stay (ActS R w) x H (world5 w x H ⟨1, block, data, keep⟩) (hsty.later (world5_below w x H _)) (fun k hk => hk.lt) g)
    have HREP := Lib.hid h
    have HSTY := Lib.hid hsty
    have HRLT := Lib.hid hR
    have HG := Lib.hid g
    unfold houseV at HNOW ⊢
    unfold actV
    clear h hsty hR g
    go_enter Try.func62, Try.ntmps62
    go_wp2_with fail
    refine HNOW.out.mono ?_
    rintro e w1 ⟨A, c, B, d, rfl, hst, hb⟩
    have HA := Lib.hid (HAct.new (hst.weak (fun k hk => .inl ⟨.inl hk.1, hk.2⟩)) hb)
    have HSV := Lib.hid ((hst.weak (R' := ActS R w) (fun k hk => .inl hk)).step (Touch.below ((Below.refl w1.heap.size w1).alloc (Nat.le_refl _) (.cells #[.slice A (nowH H).1.length c, .slice B (nowH H).2.length d] 30))))
    clear hst hb HNOW
    go_upto_region 3 with (fail)
    obtain ⟨W, hW⟩ : ∃ W, W = w1.alloc (.cells #[.slice A (nowH H).1.length c, .slice B (nowH H).2.length d] 30) := ⟨_, rfl⟩
    rw [← hW] at HA HSV ⊢
    obtain ⟨q, hq⟩ : ∃ q, w1.heap.size = q := ⟨_, rfl⟩
    rw [hq] at HA ⊢
    clear hW hq
    have h0 := HA.out.f.h0
    have h1 := HA.out.f.h1
    have h2 := HA.out.f.h2
    have h3 := HA.out.f.h3
    have h4 := HA.out.f.h4
    have h5 := HA.out.f.h5
    have a0 := HA.out.f.a0
    have a1 := HA.out.f.a1
    have a2 := HA.out.f.a2
    have a3 := HA.out.f.a3
    have r0 := HA.out.f.r0
    have r1 := HA.out.f.r1
    have r2 := HA.out.f.r2
    have r3 := HA.out.f.r3
    have r4 := HA.out.f.r4
    have r5 := HA.out.f.r5
    have s0 := HA.out.f.s0
    have s1 := HA.out.f.s1
    have s2 := HA.out.f.s2
    have s3 := HA.out.f.s3
    have s4 := HA.out.f.s4
    have o0 := HA.out.f.o0
    have o1 := HA.out.f.o1
    have o2 := HA.out.f.o2
    have o3 := HA.out.f.o3
    have o4 := HA.out.f.o4
    have fh0 := HA.out.f.fh 0
    have fh1 := HA.out.f.fh 1
    have fh2 := HA.out.f.fh 2
    have fh3 := HA.out.f.fh 3
    have fh4 := HA.out.f.fh 4
    have fh5 := HA.out.f.fh 5
    have fr0 := HA.out.f.fr 0
    have fr1 := HA.out.f.fr 1
    have fr2 := HA.out.f.fr 2
    have fr3 := HA.out.f.fr 3
    have fr4 := HA.out.f.fr 4
    have fr5 := HA.out.f.fr 5
    have fs0 := HA.out.f.fs 0
    have fs1 := HA.out.f.fs 1
    have fs2 := HA.out.f.fs 2
    have fs3 := HA.out.f.fs 3
    have fs4 := HA.out.f.fs 4
    have fo0 := HA.out.f.fo 0
    have fo1 := HA.out.f.fo 1
    have fo2 := HA.out.f.fo 2
    have fo3 := HA.out.f.fo 3
    have fo4 := HA.out.f.fo 4
    have v0 := HA.out.v0
    have v1 := HA.out.v1
    have q1 := HA.out.q1
    dsimp only [Ans.of, noData] at a0 a1 a2 a3 o0 o1 o2 o3 o4
    rw [HO.out] at h4
    go_wp2
    go_region
    all_goals
      go_wp2
      refine bodyPost_ret (v := .tuple #[.agg #[.slice x.A0 H.base.1.length x.c0, .slice x.A1 H.base.2.length x.c1, .slice x.AD H.deals.length x.cd, .int .i64 H.last, .bool true, .slice x.AL H.ws.length x.cl], .agg #[.int .i64 7, .string ⟨#[]⟩, .int .i64 0, .int .i64 0, .int .i64 0]]) (by simp [results, Try.results62, go_sem, r0, r1, r2, r3, r4, r5, s0, s1, s2, s3, s4]) rfl ?_
      refine ActedPost.of HA.out ?_ x rfl ?_ HRLT.out
      · ((repeat (with_reducible first | exact Touch.refl _ _ | refine Touch.setC ?_ _ ?_ _ | refine Touch.drawC ?_ _ | refine Touch.drawO ?_)) <;> (dsimp only [ActR]; omega))
      · exact fun W' hT => (HA.out.repS HSTY.out W' hT).opens true H.last
  | false =>
    have HO := Lib.hid ho
    clear ho
    have HNOW := Lib.hid (now_stay (ActS R w) x H (world5 w x H ⟨1, block, data, keep⟩) (hsty.later (world5_below w x H _)) (fun k hk => hk.lt) g)
    have HREP := Lib.hid h
    have HSTY := Lib.hid hsty
    have HRLT := Lib.hid hR
    have HG := Lib.hid g
    unfold houseV at HNOW ⊢
    unfold actV
    clear h hsty hR g
    go_enter Try.func62, Try.ntmps62
    go_wp2_with fail
    refine HNOW.out.mono ?_
    rintro e w1 ⟨A, c, B, d, rfl, hst, hb⟩
    have HA := Lib.hid (HAct.new (hst.weak (fun k hk => .inl ⟨.inl hk.1, hk.2⟩)) hb)
    have HSV := Lib.hid ((hst.weak (R' := ActS R w) (fun k hk => .inl hk)).step (Touch.below ((Below.refl w1.heap.size w1).alloc (Nat.le_refl _) (.cells #[.slice A (nowH H).1.length c, .slice B (nowH H).2.length d] 30))))
    clear hst hb HNOW
    go_upto_region 3 with (fail)
    obtain ⟨W, hW⟩ : ∃ W, W = w1.alloc (.cells #[.slice A (nowH H).1.length c, .slice B (nowH H).2.length d] 30) := ⟨_, rfl⟩
    rw [← hW] at HA HSV ⊢
    obtain ⟨q, hq⟩ : ∃ q, w1.heap.size = q := ⟨_, rfl⟩
    rw [hq] at HA ⊢
    clear hW hq
    have h0 := HA.out.f.h0
    have h1 := HA.out.f.h1
    have h2 := HA.out.f.h2
    have h3 := HA.out.f.h3
    have h4 := HA.out.f.h4
    have h5 := HA.out.f.h5
    have a0 := HA.out.f.a0
    have a1 := HA.out.f.a1
    have a2 := HA.out.f.a2
    have a3 := HA.out.f.a3
    have r0 := HA.out.f.r0
    have r1 := HA.out.f.r1
    have r2 := HA.out.f.r2
    have r3 := HA.out.f.r3
    have r4 := HA.out.f.r4
    have r5 := HA.out.f.r5
    have s0 := HA.out.f.s0
    have s1 := HA.out.f.s1
    have s2 := HA.out.f.s2
    have s3 := HA.out.f.s3
    have s4 := HA.out.f.s4
    have o0 := HA.out.f.o0
    have o1 := HA.out.f.o1
    have o2 := HA.out.f.o2
    have o3 := HA.out.f.o3
    have o4 := HA.out.f.o4
    have fh0 := HA.out.f.fh 0
    have fh1 := HA.out.f.fh 1
    have fh2 := HA.out.f.fh 2
    have fh3 := HA.out.f.fh 3
    have fh4 := HA.out.f.fh 4
    have fh5 := HA.out.f.fh 5
    have fr0 := HA.out.f.fr 0
    have fr1 := HA.out.f.fr 1
    have fr2 := HA.out.f.fr 2
    have fr3 := HA.out.f.fr 3
    have fr4 := HA.out.f.fr 4
    have fr5 := HA.out.f.fr 5
    have fs0 := HA.out.f.fs 0
    have fs1 := HA.out.f.fs 1
    have fs2 := HA.out.f.fs 2
    have fs3 := HA.out.f.fs 3
    have fs4 := HA.out.f.fs 4
    have fo0 := HA.out.f.fo 0
    have fo1 := HA.out.f.fo 1
    have fo2 := HA.out.f.fo 2
    have fo3 := HA.out.f.fo 3
    have fo4 := HA.out.f.fo 4
    have v0 := HA.out.v0
    have v1 := HA.out.v1
    have q1 := HA.out.q1
    dsimp only [Ans.of, noData] at a0 a1 a2 a3 o0 o1 o2 o3 o4
    rw [HO.out] at h4
    go_wp2
    go_region
    all_goals
      go_wp2
      refine bodyPost_ret (v := .tuple #[.agg #[.slice x.A0 H.base.1.length x.c0, .slice x.A1 H.base.2.length x.c1, .slice x.AD H.deals.length x.cd, .int .i64 H.last, .bool true, .slice x.AL H.ws.length x.cl], .agg #[.int .i64 0, .string ⟨#[]⟩, .int .i64 0, .int .i64 0, .int .i64 0]]) (by simp [results, Try.results62, go_sem, r0, r1, r2, r3, r4, r5, s0, s1, s2, s3, s4]) rfl ?_
      refine ActedPost.of HA.out ?_ x rfl ?_ HRLT.out
      · ((repeat (with_reducible first | exact Touch.refl _ _ | refine Touch.setC ?_ _ ?_ _ | refine Touch.drawC ?_ _ | refine Touch.drawO ?_)) <;> (dsimp only [ActR]; omega))
      · exact fun W' hT => (HA.out.repS HSTY.out W' hT).opens true H.last

set_option maxRecDepth 100000 in
set_option maxHeartbeats 4000000 in
theorem ref_abort (x : HV) (H : Hse) (a : Acn) (R : Nat → Prop) (w : World) (hsty : HStay R w x H) (hR : ∀ k, R k → k < w.heap.size) (g : GoodH H) (hk : a.kind = 5) :
    Calls Try.prog 62 #[houseV x H, actV a] w (ActedPost R w (actH H a)) := by
  have h := hsty.now
  obtain ⟨kind, block, data, keep⟩ := a
  dsimp only at hk
  subst hk
  have e : actH H ⟨5, block, data, keep⟩ = ({ H with opened := false, ws := [] }, Ans.of (if H.opened then 0 else 7)) := by
    rw [actH, if_neg (by simp), if_neg (by simp), if_neg (by simp), if_neg (by simp), if_pos rfl]
  rw [e]
  clear e
  cases ho : H.opened with
  | true =>
    have HO := Lib.hid ho
    clear ho
    have HNOW := Lib.hid (now_stay (ActS R w) x H (world5 w x H ⟨5, block, data, keep⟩) (hsty.later (world5_below w x H _)) (fun k hk => hk.lt) g)
    have HREP := Lib.hid h
    have HSTY := Lib.hid hsty
    have HRLT := Lib.hid hR
    have HG := Lib.hid g
    unfold houseV at HNOW ⊢
    unfold actV
    clear h hsty hR g
    go_enter Try.func62, Try.ntmps62
    go_wp2_with fail
    refine HNOW.out.mono ?_
    rintro e w1 ⟨A, c, B, d, rfl, hst, hb⟩
    have HA := Lib.hid (HAct.new (hst.weak (fun k hk => .inl ⟨.inl hk.1, hk.2⟩)) hb)
    have HSV := Lib.hid ((hst.weak (R' := ActS R w) (fun k hk => .inl hk)).step (Touch.below ((Below.refl w1.heap.size w1).alloc (Nat.le_refl _) (.cells #[.slice A (nowH H).1.length c, .slice B (nowH H).2.length d] 30))))
    clear hst hb HNOW
    go_upto_region 3 with (fail)
    obtain ⟨W, hW⟩ : ∃ W, W = w1.alloc (.cells #[.slice A (nowH H).1.length c, .slice B (nowH H).2.length d] 30) := ⟨_, rfl⟩
    rw [← hW] at HA HSV ⊢
    obtain ⟨q, hq⟩ : ∃ q, w1.heap.size = q := ⟨_, rfl⟩
    rw [hq] at HA ⊢
    clear hW hq
    have h0 := HA.out.f.h0
    have h1 := HA.out.f.h1
    have h2 := HA.out.f.h2
    have h3 := HA.out.f.h3
    have h4 := HA.out.f.h4
    have h5 := HA.out.f.h5
    have a0 := HA.out.f.a0
    have a1 := HA.out.f.a1
    have a2 := HA.out.f.a2
    have a3 := HA.out.f.a3
    have r0 := HA.out.f.r0
    have r1 := HA.out.f.r1
    have r2 := HA.out.f.r2
    have r3 := HA.out.f.r3
    have r4 := HA.out.f.r4
    have r5 := HA.out.f.r5
    have s0 := HA.out.f.s0
    have s1 := HA.out.f.s1
    have s2 := HA.out.f.s2
    have s3 := HA.out.f.s3
    have s4 := HA.out.f.s4
    have o0 := HA.out.f.o0
    have o1 := HA.out.f.o1
    have o2 := HA.out.f.o2
    have o3 := HA.out.f.o3
    have o4 := HA.out.f.o4
    have fh0 := HA.out.f.fh 0
    have fh1 := HA.out.f.fh 1
    have fh2 := HA.out.f.fh 2
    have fh3 := HA.out.f.fh 3
    have fh4 := HA.out.f.fh 4
    have fh5 := HA.out.f.fh 5
    have fr0 := HA.out.f.fr 0
    have fr1 := HA.out.f.fr 1
    have fr2 := HA.out.f.fr 2
    have fr3 := HA.out.f.fr 3
    have fr4 := HA.out.f.fr 4
    have fr5 := HA.out.f.fr 5
    have fs0 := HA.out.f.fs 0
    have fs1 := HA.out.f.fs 1
    have fs2 := HA.out.f.fs 2
    have fs3 := HA.out.f.fs 3
    have fs4 := HA.out.f.fs 4
    have fo0 := HA.out.f.fo 0
    have fo1 := HA.out.f.fo 1
    have fo2 := HA.out.f.fo 2
    have fo3 := HA.out.f.fo 3
    have fo4 := HA.out.f.fo 4
    have v0 := HA.out.v0
    have v1 := HA.out.v1
    have q1 := HA.out.q1
    dsimp only [Ans.of, noData] at a0 a1 a2 a3 o0 o1 o2 o3 o4
    rw [HO.out] at h4
    go_wp2
    go_region
    all_goals
      go_wp2
      refine bodyPost_ret (v := .tuple #[.agg #[.slice x.A0 H.base.1.length x.c0, .slice x.A1 H.base.2.length x.c1, .slice x.AD H.deals.length x.cd, .int .i64 H.last, .bool false, .slice none 0 0], .agg #[.int .i64 0, .string ⟨#[]⟩, .int .i64 0, .int .i64 0, .int .i64 0]]) (by simp [results, Try.results62, go_sem, r0, r1, r2, r3, r4, r5, s0, s1, s2, s3, s4]) rfl ?_
      refine ActedPost.of HA.out ?_ { x with AL := none, cl := 0 } rfl ?_ HRLT.out
      · ((repeat (with_reducible first | exact Touch.refl _ _ | refine Touch.setC ?_ _ ?_ _ | refine Touch.drawC ?_ _ | refine Touch.drawO ?_)) <;> (dsimp only [ActR]; omega))
      · exact fun W' hT => (HA.out.repS HSTY.out W' hT).closed
  | false =>
    have HO := Lib.hid ho
    clear ho
    have HNOW := Lib.hid (now_stay (ActS R w) x H (world5 w x H ⟨5, block, data, keep⟩) (hsty.later (world5_below w x H _)) (fun k hk => hk.lt) g)
    have HREP := Lib.hid h
    have HSTY := Lib.hid hsty
    have HRLT := Lib.hid hR
    have HG := Lib.hid g
    unfold houseV at HNOW ⊢
    unfold actV
    clear h hsty hR g
    go_enter Try.func62, Try.ntmps62
    go_wp2_with fail
    refine HNOW.out.mono ?_
    rintro e w1 ⟨A, c, B, d, rfl, hst, hb⟩
    have HA := Lib.hid (HAct.new (hst.weak (fun k hk => .inl ⟨.inl hk.1, hk.2⟩)) hb)
    have HSV := Lib.hid ((hst.weak (R' := ActS R w) (fun k hk => .inl hk)).step (Touch.below ((Below.refl w1.heap.size w1).alloc (Nat.le_refl _) (.cells #[.slice A (nowH H).1.length c, .slice B (nowH H).2.length d] 30))))
    clear hst hb HNOW
    go_upto_region 3 with (fail)
    obtain ⟨W, hW⟩ : ∃ W, W = w1.alloc (.cells #[.slice A (nowH H).1.length c, .slice B (nowH H).2.length d] 30) := ⟨_, rfl⟩
    rw [← hW] at HA HSV ⊢
    obtain ⟨q, hq⟩ : ∃ q, w1.heap.size = q := ⟨_, rfl⟩
    rw [hq] at HA ⊢
    clear hW hq
    have h0 := HA.out.f.h0
    have h1 := HA.out.f.h1
    have h2 := HA.out.f.h2
    have h3 := HA.out.f.h3
    have h4 := HA.out.f.h4
    have h5 := HA.out.f.h5
    have a0 := HA.out.f.a0
    have a1 := HA.out.f.a1
    have a2 := HA.out.f.a2
    have a3 := HA.out.f.a3
    have r0 := HA.out.f.r0
    have r1 := HA.out.f.r1
    have r2 := HA.out.f.r2
    have r3 := HA.out.f.r3
    have r4 := HA.out.f.r4
    have r5 := HA.out.f.r5
    have s0 := HA.out.f.s0
    have s1 := HA.out.f.s1
    have s2 := HA.out.f.s2
    have s3 := HA.out.f.s3
    have s4 := HA.out.f.s4
    have o0 := HA.out.f.o0
    have o1 := HA.out.f.o1
    have o2 := HA.out.f.o2
    have o3 := HA.out.f.o3
    have o4 := HA.out.f.o4
    have fh0 := HA.out.f.fh 0
    have fh1 := HA.out.f.fh 1
    have fh2 := HA.out.f.fh 2
    have fh3 := HA.out.f.fh 3
    have fh4 := HA.out.f.fh 4
    have fh5 := HA.out.f.fh 5
    have fr0 := HA.out.f.fr 0
    have fr1 := HA.out.f.fr 1
    have fr2 := HA.out.f.fr 2
    have fr3 := HA.out.f.fr 3
    have fr4 := HA.out.f.fr 4
    have fr5 := HA.out.f.fr 5
    have fs0 := HA.out.f.fs 0
    have fs1 := HA.out.f.fs 1
    have fs2 := HA.out.f.fs 2
    have fs3 := HA.out.f.fs 3
    have fs4 := HA.out.f.fs 4
    have fo0 := HA.out.f.fo 0
    have fo1 := HA.out.f.fo 1
    have fo2 := HA.out.f.fo 2
    have fo3 := HA.out.f.fo 3
    have fo4 := HA.out.f.fo 4
    have v0 := HA.out.v0
    have v1 := HA.out.v1
    have q1 := HA.out.q1
    dsimp only [Ans.of, noData] at a0 a1 a2 a3 o0 o1 o2 o3 o4
    rw [HO.out] at h4
    go_wp2
    go_region
    all_goals
      go_wp2
      refine bodyPost_ret (v := .tuple #[.agg #[.slice x.A0 H.base.1.length x.c0, .slice x.A1 H.base.2.length x.c1, .slice x.AD H.deals.length x.cd, .int .i64 H.last, .bool false, .slice none 0 0], .agg #[.int .i64 7, .string ⟨#[]⟩, .int .i64 0, .int .i64 0, .int .i64 0]]) (by simp [results, Try.results62, go_sem, r0, r1, r2, r3, r4, r5, s0, s1, s2, s3, s4]) rfl ?_
      refine ActedPost.of HA.out ?_ { x with AL := none, cl := 0 } rfl ?_ HRLT.out
      · ((repeat (with_reducible first | exact Touch.refl _ _ | refine Touch.setC ?_ _ ?_ _ | refine Touch.drawC ?_ _ | refine Touch.drawO ?_)) <;> (dsimp only [ActR]; omega))
      · exact fun W' hT => (HA.out.repS HSTY.out W' hT).closed

set_option maxRecDepth 100000 in
set_option maxHeartbeats 4000000 in
theorem ref_flush (x : HV) (H : Hse) (a : Acn) (R : Nat → Prop) (w : World) (hsty : HStay R w x H) (hR : ∀ k, R k → k < w.heap.size) (g : GoodH H) (hk : a.kind = 6) :
    Calls Try.prog 62 #[houseV x H, actV a] w (ActedPost R w (actH H a)) := by
  have h := hsty.now
  obtain ⟨kind, block, data, keep⟩ := a
  dsimp only at hk
  subst hk
  have e : actH H ⟨6, block, data, keep⟩ = ({ H with opened := H.opened, last := H.deals.length }, Ans.of 0) := by
    rw [actH, if_neg (by simp), if_neg (by simp), if_neg (by simp), if_neg (by simp), if_neg (by simp), if_pos rfl]
  rw [e]
  clear e
  have HNOW := Lib.hid (now_stay (ActS R w) x H (world5 w x H ⟨6, block, data, keep⟩) (hsty.later (world5_below w x H _)) (fun k hk => hk.lt) g)
  have HREP := Lib.hid h
  have HSTY := Lib.hid hsty
  have HRLT := Lib.hid hR
  have HG := Lib.hid g
  unfold houseV at HNOW ⊢
  unfold actV
  clear h hsty hR g
  go_enter Try.func62, Try.ntmps62
  go_wp2_with fail
  refine HNOW.out.mono ?_
  rintro e w1 ⟨A, c, B, d, rfl, hst, hb⟩
  have HA := Lib.hid (HAct.new (hst.weak (fun k hk => .inl ⟨.inl hk.1, hk.2⟩)) hb)
  have HSV := Lib.hid ((hst.weak (R' := ActS R w) (fun k hk => .inl hk)).step (Touch.below ((Below.refl w1.heap.size w1).alloc (Nat.le_refl _) (.cells #[.slice A (nowH H).1.length c, .slice B (nowH H).2.length d] 30))))
  clear hst hb HNOW
  go_upto_region 3 with (fail)
  obtain ⟨W, hW⟩ : ∃ W, W = w1.alloc (.cells #[.slice A (nowH H).1.length c, .slice B (nowH H).2.length d] 30) := ⟨_, rfl⟩
  rw [← hW] at HA HSV ⊢
  obtain ⟨q, hq⟩ : ∃ q, w1.heap.size = q := ⟨_, rfl⟩
  rw [hq] at HA ⊢
  clear hW hq
  have h0 := HA.out.f.h0
  have h1 := HA.out.f.h1
  have h2 := HA.out.f.h2
  have h3 := HA.out.f.h3
  have h4 := HA.out.f.h4
  have h5 := HA.out.f.h5
  have a0 := HA.out.f.a0
  have a1 := HA.out.f.a1
  have a2 := HA.out.f.a2
  have a3 := HA.out.f.a3
  have r0 := HA.out.f.r0
  have r1 := HA.out.f.r1
  have r2 := HA.out.f.r2
  have r3 := HA.out.f.r3
  have r4 := HA.out.f.r4
  have r5 := HA.out.f.r5
  have s0 := HA.out.f.s0
  have s1 := HA.out.f.s1
  have s2 := HA.out.f.s2
  have s3 := HA.out.f.s3
  have s4 := HA.out.f.s4
  have o0 := HA.out.f.o0
  have o1 := HA.out.f.o1
  have o2 := HA.out.f.o2
  have o3 := HA.out.f.o3
  have o4 := HA.out.f.o4
  have fh0 := HA.out.f.fh 0
  have fh1 := HA.out.f.fh 1
  have fh2 := HA.out.f.fh 2
  have fh3 := HA.out.f.fh 3
  have fh4 := HA.out.f.fh 4
  have fh5 := HA.out.f.fh 5
  have fr0 := HA.out.f.fr 0
  have fr1 := HA.out.f.fr 1
  have fr2 := HA.out.f.fr 2
  have fr3 := HA.out.f.fr 3
  have fr4 := HA.out.f.fr 4
  have fr5 := HA.out.f.fr 5
  have fs0 := HA.out.f.fs 0
  have fs1 := HA.out.f.fs 1
  have fs2 := HA.out.f.fs 2
  have fs3 := HA.out.f.fs 3
  have fs4 := HA.out.f.fs 4
  have fo0 := HA.out.f.fo 0
  have fo1 := HA.out.f.fo 1
  have fo2 := HA.out.f.fo 2
  have fo3 := HA.out.f.fo 3
  have fo4 := HA.out.f.fo 4
  have v0 := HA.out.v0
  have v1 := HA.out.v1
  have q1 := HA.out.q1
  dsimp only [Ans.of, noData] at a0 a1 a2 a3 o0 o1 o2 o3 o4
  go_wp2
  go_region
  all_goals
    go_wp2
    refine bodyPost_ret (v := .tuple #[.agg #[.slice x.A0 H.base.1.length x.c0, .slice x.A1 H.base.2.length x.c1, .slice x.AD H.deals.length x.cd, .int .i64 H.deals.length, .bool H.opened, .slice x.AL H.ws.length x.cl], .agg #[.int .i64 0, .string ⟨#[]⟩, .int .i64 0, .int .i64 0, .int .i64 0]]) (by simp [results, Try.results62, go_sem, r0, r1, r2, r3, r4, r5, s0, s1, s2, s3, s4]) rfl ?_
    refine ActedPost.of HA.out ?_ x rfl ?_ HRLT.out
    · ((repeat (with_reducible first | exact Touch.refl _ _ | refine Touch.setC ?_ _ ?_ _ | refine Touch.drawC ?_ _ | refine Touch.drawO ?_)) <;> (dsimp only [ActR]; omega))
    · exact fun W' hT => (HA.out.repS HSTY.out W' hT).opens H.opened H.deals.length

set_option maxRecDepth 100000 in
set_option maxHeartbeats 4000000 in
theorem ref_mark (x : HV) (H : Hse) (a : Acn) (R : Nat → Prop) (w : World) (hsty : HStay R w x H) (hR : ∀ k, R k → k < w.heap.size) (g : GoodH H) (hk : a.kind = 8) :
    Calls Try.prog 62 #[houseV x H, actV a] w (ActedPost R w (actH H a)) := by
  have h := hsty.now
  obtain ⟨kind, block, data, keep⟩ := a
  dsimp only at hk
  subst hk
  have e : actH H ⟨8, block, data, keep⟩ = ({ H with base := nowH H, deals := [], last := 0 }, Ans.of 0) := by
    rw [actH, if_neg (by simp), if_neg (by simp), if_neg (by simp), if_neg (by simp), if_neg (by simp), if_neg (by simp), if_neg (by simp), if_pos rfl]
  rw [e]
  clear e
  have HNOW := Lib.hid (now_stay (ActS R w) x H (world5 w x H ⟨8, block, data, keep⟩) (hsty.later (world5_below w x H _)) (fun k hk => hk.lt) g)
  have HREP := Lib.hid h
  have HSTY := Lib.hid hsty
  have HRLT := Lib.hid hR
  have HG := Lib.hid g
  unfold houseV at HNOW ⊢
  unfold actV
  clear h hsty hR g
  go_enter Try.func62, Try.ntmps62
  go_wp2_with fail
  refine HNOW.out.mono ?_
  rintro e w1 ⟨A, c, B, d, rfl, hst, hb⟩
  have HA := Lib.hid (HAct.new (hst.weak (fun k hk => .inl ⟨.inl hk.1, hk.2⟩)) hb)
  have HSV := Lib.hid ((hst.weak (R' := ActS R w) (fun k hk => .inl hk)).step (Touch.below ((Below.refl w1.heap.size w1).alloc (Nat.le_refl _) (.cells #[.slice A (nowH H).1.length c, .slice B (nowH H).2.length d] 30))))
  clear hst hb HNOW
  go_upto_region 3 with (fail)
  obtain ⟨W, hW⟩ : ∃ W, W = w1.alloc (.cells #[.slice A (nowH H).1.length c, .slice B (nowH H).2.length d] 30) := ⟨_, rfl⟩
  rw [← hW] at HA HSV ⊢
  obtain ⟨q, hq⟩ : ∃ q, w1.heap.size = q := ⟨_, rfl⟩
  rw [hq] at HA ⊢
  clear hW hq
  have h0 := HA.out.f.h0
  have h1 := HA.out.f.h1
  have h2 := HA.out.f.h2
  have h3 := HA.out.f.h3
  have h4 := HA.out.f.h4
  have h5 := HA.out.f.h5
  have a0 := HA.out.f.a0
  have a1 := HA.out.f.a1
  have a2 := HA.out.f.a2
  have a3 := HA.out.f.a3
  have r0 := HA.out.f.r0
  have r1 := HA.out.f.r1
  have r2 := HA.out.f.r2
  have r3 := HA.out.f.r3
  have r4 := HA.out.f.r4
  have r5 := HA.out.f.r5
  have s0 := HA.out.f.s0
  have s1 := HA.out.f.s1
  have s2 := HA.out.f.s2
  have s3 := HA.out.f.s3
  have s4 := HA.out.f.s4
  have o0 := HA.out.f.o0
  have o1 := HA.out.f.o1
  have o2 := HA.out.f.o2
  have o3 := HA.out.f.o3
  have o4 := HA.out.f.o4
  have fh0 := HA.out.f.fh 0
  have fh1 := HA.out.f.fh 1
  have fh2 := HA.out.f.fh 2
  have fh3 := HA.out.f.fh 3
  have fh4 := HA.out.f.fh 4
  have fh5 := HA.out.f.fh 5
  have fr0 := HA.out.f.fr 0
  have fr1 := HA.out.f.fr 1
  have fr2 := HA.out.f.fr 2
  have fr3 := HA.out.f.fr 3
  have fr4 := HA.out.f.fr 4
  have fr5 := HA.out.f.fr 5
  have fs0 := HA.out.f.fs 0
  have fs1 := HA.out.f.fs 1
  have fs2 := HA.out.f.fs 2
  have fs3 := HA.out.f.fs 3
  have fs4 := HA.out.f.fs 4
  have fo0 := HA.out.f.fo 0
  have fo1 := HA.out.f.fo 1
  have fo2 := HA.out.f.fo 2
  have fo3 := HA.out.f.fo 3
  have fo4 := HA.out.f.fo 4
  have v0 := HA.out.v0
  have v1 := HA.out.v1
  have q1 := HA.out.q1
  dsimp only [Ans.of, noData] at a0 a1 a2 a3 o0 o1 o2 o3 o4
  go_wp2
  go_region
  all_goals
    go_wp2
    refine bodyPost_ret (v := .tuple #[.agg #[.slice A (nowH H).1.length c, .slice B (nowH H).2.length d, .slice none 0 0, .int .i64 0, .bool H.opened, .slice x.AL H.ws.length x.cl], .agg #[.int .i64 0, .string ⟨#[]⟩, .int .i64 0, .int .i64 0, .int .i64 0]]) (by simp [results, Try.results62, go_sem, r0, r1, r2, r3, r4, r5, s0, s1, s2, s3, s4]) rfl ?_
    refine ActedPost.of HA.out ?_ { x with A0 := A, c0 := c, A1 := B, c1 := d, AD := none, cd := 0, ds := [] } rfl ?_ HRLT.out
    · ((repeat (with_reducible first | exact Touch.refl _ _ | refine Touch.setC ?_ _ ?_ _ | refine Touch.drawC ?_ _ | refine Touch.drawO ?_)) <;> (dsimp only [ActR]; omega))
    · exact fun W' hT => (HA.out.repS HSTY.out W' hT).marked (HSV.out.rep W' hT).1 (HSV.out.rep W' hT).2 HA.out.st.n0 HA.out.st.n1

set_option maxRecDepth 100000 in
set_option maxHeartbeats 4000000 in
theorem ref_other (x : HV) (H : Hse) (a : Acn) (R : Nat → Prop) (w : World) (hsty : HStay R w x H) (hR : ∀ k, R k → k < w.heap.size) (g : GoodH H) (hk : ¬ (1 ≤ a.kind ∧ a.kind ≤ 9)) :
    Calls Try.prog 62 #[houseV x H, actV a] w (ActedPost R w (actH H a)) := by
  have h := hsty.now
  obtain ⟨kind, block, data, keep⟩ := a
  dsimp only at hk
  have e : actH H ⟨kind, block, data, keep⟩ = ({ H with opened := H.opened, last := H.last }, Ans.of 3) := by
    rw [actH]
    simp only
    rw [if_neg (by omega), if_neg (by omega), if_neg (by omega), if_neg (by omega), if_neg (by omega), if_neg (by omega), if_neg (by omega), if_neg (by omega), if_neg (by omega)]
  rw [e]
  clear e
  have hk1 : decide (kind = 1) = false := decide_eq_false (by omega)
  have hk2 : decide (kind = 2) = false := decide_eq_false (by omega)
  have hk3 : decide (kind = 3) = false := decide_eq_false (by omega)
  have hk4 : decide (kind = 4) = false := decide_eq_false (by omega)
  have hk5 : decide (kind = 5) = false := decide_eq_false (by omega)
  have hk6 : decide (kind = 6) = false := decide_eq_false (by omega)
  have hk7 : decide (kind = 7) = false := decide_eq_false (by omega)
  have hk8 : decide (kind = 8) = false := decide_eq_false (by omega)
  have hk9 : decide (kind = 9) = false := decide_eq_false (by omega)
  have HNOW := Lib.hid (now_stay (ActS R w) x H (world5 w x H ⟨kind, block, data, keep⟩) (hsty.later (world5_below w x H _)) (fun k hk => hk.lt) g)
  have HREP := Lib.hid h
  have HSTY := Lib.hid hsty
  have HRLT := Lib.hid hR
  have HG := Lib.hid g
  unfold houseV at HNOW ⊢
  unfold actV
  clear h hsty hR g
  go_enter Try.func62, Try.ntmps62
  go_wp2_with fail
  refine HNOW.out.mono ?_
  rintro e w1 ⟨A, c, B, d, rfl, hst, hb⟩
  have HA := Lib.hid (HAct.new (hst.weak (fun k hk => .inl ⟨.inl hk.1, hk.2⟩)) hb)
  have HSV := Lib.hid ((hst.weak (R' := ActS R w) (fun k hk => .inl hk)).step (Touch.below ((Below.refl w1.heap.size w1).alloc (Nat.le_refl _) (.cells #[.slice A (nowH H).1.length c, .slice B (nowH H).2.length d] 30))))
  clear hst hb HNOW
  go_upto_region 3 with (fail)
  obtain ⟨W, hW⟩ : ∃ W, W = w1.alloc (.cells #[.slice A (nowH H).1.length c, .slice B (nowH H).2.length d] 30) := ⟨_, rfl⟩
  rw [← hW] at HA HSV ⊢
  obtain ⟨q, hq⟩ : ∃ q, w1.heap.size = q := ⟨_, rfl⟩
  rw [hq] at HA ⊢
  clear hW hq
  have h0 := HA.out.f.h0
  have h1 := HA.out.f.h1
  have h2 := HA.out.f.h2
  have h3 := HA.out.f.h3
  have h4 := HA.out.f.h4
  have h5 := HA.out.f.h5
  have a0 := HA.out.f.a0
  have a1 := HA.out.f.a1
  have a2 := HA.out.f.a2
  have a3 := HA.out.f.a3
  have r0 := HA.out.f.r0
  have r1 := HA.out.f.r1
  have r2 := HA.out.f.r2
  have r3 := HA.out.f.r3
  have r4 := HA.out.f.r4
  have r5 := HA.out.f.r5
  have s0 := HA.out.f.s0
  have s1 := HA.out.f.s1
  have s2 := HA.out.f.s2
  have s3 := HA.out.f.s3
  have s4 := HA.out.f.s4
  have o0 := HA.out.f.o0
  have o1 := HA.out.f.o1
  have o2 := HA.out.f.o2
  have o3 := HA.out.f.o3
  have o4 := HA.out.f.o4
  have fh0 := HA.out.f.fh 0
  have fh1 := HA.out.f.fh 1
  have fh2 := HA.out.f.fh 2
  have fh3 := HA.out.f.fh 3
  have fh4 := HA.out.f.fh 4
  have fh5 := HA.out.f.fh 5
  have fr0 := HA.out.f.fr 0
  have fr1 := HA.out.f.fr 1
  have fr2 := HA.out.f.fr 2
  have fr3 := HA.out.f.fr 3
  have fr4 := HA.out.f.fr 4
  have fr5 := HA.out.f.fr 5
  have fs0 := HA.out.f.fs 0
  have fs1 := HA.out.f.fs 1
  have fs2 := HA.out.f.fs 2
  have fs3 := HA.out.f.fs 3
  have fs4 := HA.out.f.fs 4
  have fo0 := HA.out.f.fo 0
  have fo1 := HA.out.f.fo 1
  have fo2 := HA.out.f.fo 2
  have fo3 := HA.out.f.fo 3
  have fo4 := HA.out.f.fo 4
  have v0 := HA.out.v0
  have v1 := HA.out.v1
  have q1 := HA.out.q1
  dsimp only [Ans.of, noData] at a0 a1 a2 a3 o0 o1 o2 o3 o4
  go_wp2
  go_region
  all_goals
    go_wp2
    refine bodyPost_ret (v := .tuple #[.agg #[.slice x.A0 H.base.1.length x.c0, .slice x.A1 H.base.2.length x.c1, .slice x.AD H.deals.length x.cd, .int .i64 H.last, .bool H.opened, .slice x.AL H.ws.length x.cl], .agg #[.int .i64 3, .string ⟨#[]⟩, .int .i64 0, .int .i64 0, .int .i64 0]]) (by simp [results, Try.results62, go_sem, r0, r1, r2, r3, r4, r5, s0, s1, s2, s3, s4]) rfl ?_
    refine ActedPost.of HA.out ?_ x rfl ?_ HRLT.out
    · ((repeat (with_reducible first | exact Touch.refl _ _ | refine Touch.setC ?_ _ ?_ _ | refine Touch.drawC ?_ _ | refine Touch.drawO ?_)) <;> (dsimp only [ActR]; omega))
    · exact fun W' hT => (HA.out.repS HSTY.out W' hT).opens H.opened H.last
end Go.Proofs.Ytphbebcbbfbgpab

namespace Go.Proofs.Ytphbebcbbfbgpab
open Go Go.RowKit

theorem HRep.puts {w : World} {B : Nat} {x : HV} {H : Hse} {A : Option Addr} {c : Nat} {ws : List Wrt} (h : HRep w B x H) (hl : Rep w B 2 Wrt.cell A ws.length ws) : HRep w B { x with AL := A, cl := c } { H with ws := ws } :=
  ⟨h.items, h.blocks, h.deals, h.dws, h.eq, hl, h.n0, h.n1, h.nD, h.cap, h.cm⟩

set_option maxRecDepth 100000 in
set_option maxHeartbeats 4000000 in
theorem ref_stat (x : HV) (H : Hse) (a : Acn) (R : Nat → Prop) (w : World) (hsty : HStay R w x H) (hR : ∀ k, R k → k < w.heap.size) (g : GoodH H) (hk : a.kind = 9) :
    Calls Try.prog 62 #[houseV x H, actV a] w (ActedPost R w (actH H a)) := by
  have h := hsty.now
  obtain ⟨kind, block, data, keep⟩ := a
  dsimp only at hk
  subst hk
  have e : actH H ⟨9, block, data, keep⟩ = ({ H with opened := H.opened, last := H.last }, ⟨0, noData, (nowH H).1.length, lenH H H.deals.length, 0⟩) := by
    rw [actH, if_neg (by simp), if_neg (by simp), if_neg (by simp), if_neg (by simp), if_neg (by simp), if_neg (by simp), if_neg (by simp), if_neg (by simp), if_pos rfl]
  rw [e]
  clear e
  have hlen : ∀ W', HRep W' W'.heap.size x H → Calls Try.prog 87 #[houseV x H, .int .i64 H.deals.length] W' fun e w' => e = .returned (.int .i64 (lenH H H.deals.length)) ∧ Below W'.heap.size W' w' := fun W' hr => length_any x H _ W' hr g (Nat.le_refl _)
  have h500 := g.nd
  have h4000 := g.sum
  unfold houseV at hlen
  have HLEN := Lib.hid hlen
  clear hlen
  have HNOW := Lib.hid (now_stay (ActS R w) x H (world5 w x H ⟨9, block, data, keep⟩) (hsty.later (world5_below w x H _)) (fun k hk => hk.lt) g)
  have HREP := Lib.hid h
  have HSTY := Lib.hid hsty
  have HRLT := Lib.hid hR
  have HG := Lib.hid g
  unfold houseV at HNOW ⊢
  unfold actV
  clear h hsty hR g
  go_enter Try.func62, Try.ntmps62
  go_wp2_with fail
  refine HNOW.out.mono ?_
  rintro e w1 ⟨A, c, B, d, rfl, hst, hb⟩
  have HA := Lib.hid (HAct.new (hst.weak (fun k hk => .inl ⟨.inl hk.1, hk.2⟩)) hb)
  have HSV := Lib.hid ((hst.weak (R' := ActS R w) (fun k hk => .inl hk)).step (Touch.below ((Below.refl w1.heap.size w1).alloc (Nat.le_refl _) (.cells #[.slice A (nowH H).1.length c, .slice B (nowH H).2.length d] 30))))
  clear hst hb HNOW
  go_upto_region 3 with (fail)
  obtain ⟨W, hW⟩ : ∃ W, W = w1.alloc (.cells #[.slice A (nowH H).1.length c, .slice B (nowH H).2.length d] 30) := ⟨_, rfl⟩
  rw [← hW] at HA HSV ⊢
  obtain ⟨q, hq⟩ : ∃ q, w1.heap.size = q := ⟨_, rfl⟩
  rw [hq] at HA ⊢
  clear hW hq
  have hn1 : (nowH H).1.length ≤ 1000 := by have := (HG.out.pre H.deals.length).good.1; rw [List.take_of_length_le (Nat.le_refl _)] at this; exact Nat.le_trans this (by omega)
  have hn2 : (nowH H).2.length ≤ 1000 := by have := (HG.out.pre H.deals.length).hi; rw [List.take_of_length_le (Nat.le_refl _)] at this; exact Nat.le_trans this (by omega)
  have h0 := HA.out.f.h0
  have h1 := HA.out.f.h1
  have h2 := HA.out.f.h2
  have h3 := HA.out.f.h3
  have h4 := HA.out.f.h4
  have h5 := HA.out.f.h5
  have a0 := HA.out.f.a0
  have a1 := HA.out.f.a1
  have a2 := HA.out.f.a2
  have a3 := HA.out.f.a3
  have r0 := HA.out.f.r0
  have r1 := HA.out.f.r1
  have r2 := HA.out.f.r2
  have r3 := HA.out.f.r3
  have r4 := HA.out.f.r4
  have r5 := HA.out.f.r5
  have s0 := HA.out.f.s0
  have s1 := HA.out.f.s1
  have s2 := HA.out.f.s2
  have s3 := HA.out.f.s3
  have s4 := HA.out.f.s4
  have o0 := HA.out.f.o0
  have o1 := HA.out.f.o1
  have o2 := HA.out.f.o2
  have o3 := HA.out.f.o3
  have o4 := HA.out.f.o4
  have fh0 := HA.out.f.fh 0
  have fh1 := HA.out.f.fh 1
  have fh2 := HA.out.f.fh 2
  have fh3 := HA.out.f.fh 3
  have fh4 := HA.out.f.fh 4
  have fh5 := HA.out.f.fh 5
  have fr0 := HA.out.f.fr 0
  have fr1 := HA.out.f.fr 1
  have fr2 := HA.out.f.fr 2
  have fr3 := HA.out.f.fr 3
  have fr4 := HA.out.f.fr 4
  have fr5 := HA.out.f.fr 5
  have fs0 := HA.out.f.fs 0
  have fs1 := HA.out.f.fs 1
  have fs2 := HA.out.f.fs 2
  have fs3 := HA.out.f.fs 3
  have fs4 := HA.out.f.fs 4
  have fo0 := HA.out.f.fo 0
  have fo1 := HA.out.f.fo 1
  have fo2 := HA.out.f.fo 2
  have fo3 := HA.out.f.fo 3
  have fo4 := HA.out.f.fo 4
  have v0 := HA.out.v0
  have v1 := HA.out.v1
  have q1 := HA.out.q1
  dsimp only [Ans.of, noData] at a0 a1 a2 a3 o0 o1 o2 o3 o4
  go_wp2_with fail
  refine (HLEN.out _ (HA.out.rep HREP.out _ (by ((repeat (with_reducible first | exact Touch.refl _ _ | refine Touch.setC ?_ _ ?_ _ | refine Touch.drawC ?_ _ | refine Touch.drawO ?_)) <;> (dsimp only [ActR]; omega))))).mono ?_
  rintro e w2 ⟨rfl, hb2⟩
  have HA2 := Lib.hid ((HA.out.setItems ((nowH H).1.length : Int)).step hb2)
  clear hb2
  clear h0 h1 h2 h3 h4 h5 a0 a1 a2 a3 r0 r1 r2 r3 r4 r5 s0 s1 s2 s3 s4 o0 o1 o2 o3 o4 fh0 fr0 fh1 fr1 fh2 fr2 fh3 fr3 fh4 fr4 fh5 fr5 fs0 fo0 fs1 fo1 fs2 fo2 fs3 fo3 fs4 fo4 v0 v1 q1
  have h0 := HA2.out.f.h0
  have h1 := HA2.out.f.h1
  have h2 := HA2.out.f.h2
  have h3 := HA2.out.f.h3
  have h4 := HA2.out.f.h4
  have h5 := HA2.out.f.h5
  have a0 := HA2.out.f.a0
  have a1 := HA2.out.f.a1
  have a2 := HA2.out.f.a2
  have a3 := HA2.out.f.a3
  have r0 := HA2.out.f.r0
  have r1 := HA2.out.f.r1
  have r2 := HA2.out.f.r2
  have r3 := HA2.out.f.r3
  have r4 := HA2.out.f.r4
  have r5 := HA2.out.f.r5
  have s0 := HA2.out.f.s0
  have s1 := HA2.out.f.s1
  have s2 := HA2.out.f.s2
  have s3 := HA2.out.f.s3
  have s4 := HA2.out.f.s4
  have o0 := HA2.out.f.o0
  have o1 := HA2.out.f.o1
  have o2 := HA2.out.f.o2
  have o3 := HA2.out.f.o3
  have o4 := HA2.out.f.o4
  have fh0 := HA2.out.f.fh 0
  have fh1 := HA2.out.f.fh 1
  have fh2 := HA2.out.f.fh 2
  have fh3 := HA2.out.f.fh 3
  have fh4 := HA2.out.f.fh 4
  have fh5 := HA2.out.f.fh 5
  have fr0 := HA2.out.f.fr 0
  have fr1 := HA2.out.f.fr 1
  have fr2 := HA2.out.f.fr 2
  have fr3 := HA2.out.f.fr 3
  have fr4 := HA2.out.f.fr 4
  have fr5 := HA2.out.f.fr 5
  have fs0 := HA2.out.f.fs 0
  have fs1 := HA2.out.f.fs 1
  have fs2 := HA2.out.f.fs 2
  have fs3 := HA2.out.f.fs 3
  have fs4 := HA2.out.f.fs 4
  have fo0 := HA2.out.f.fo 0
  have fo1 := HA2.out.f.fo 1
  have fo2 := HA2.out.f.fo 2
  have fo3 := HA2.out.f.fo 3
  have fo4 := HA2.out.f.fo 4
  have v0 := HA2.out.v0
  have v1 := HA2.out.v1
  have q1 := HA2.out.q1
  dsimp only [Ans.of, noData] at a0 a1 a2 a3 o0 o1 o2 o3 o4
  go_wp2
  go_region
  all_goals
    go_wp2
    refine bodyPost_ret (v := .tuple #[.agg #[.slice x.A0 H.base.1.length x.c0, .slice x.A1 H.base.2.length x.c1, .slice x.AD H.deals.length x.cd, .int .i64 H.last, .bool H.opened, .slice x.AL H.ws.length x.cl], .agg #[.int .i64 0, .string ⟨#[]⟩, .int .i64 (nowH H).1.length, .int .i64 (lenH H H.deals.length), .int .i64 0]]) (by simp [results, Try.results62, go_sem, r0, r1, r2, r3, r4, r5, s0, s1, s2, s3, s4]) rfl ?_
    refine ActedPost.of HA2.out ?_ x rfl ?_ HRLT.out
    · ((repeat (with_reducible first | exact Touch.refl _ _ | refine Touch.setC ?_ _ ?_ _ | refine Touch.drawC ?_ _ | refine Touch.drawO ?_)) <;> (dsimp only [ActR]; omega))
    · exact fun W' hT => (HA2.out.repS HSTY.out W' hT).opens H.opened H.last

set_option maxRecDepth 100000 in
set_option maxHeartbeats 4000000 in
theorem ref_put (x : HV) (H : Hse) (a : Acn) (R : Nat → Prop) (w : World) (hsty : HStay R w x H) (hR : ∀ k, R k → k < w.heap.size) (g : GoodH H) (hk : a.kind = 2) (hb64 : i64Ok a.block) :
    Calls Try.prog 62 #[houseV x H, actV a] w (ActedPost R w (actH H a)) := by
  have h := hsty.now
  obtain ⟨kind, block, data, keep⟩ := a
  dsimp only at hk
  subst hk
  have e : actH H ⟨2, block, data, keep⟩ = ((putH H block data).1, Ans.of (putH H block data).2) := by
    rw [actH, if_neg (by simp), if_pos rfl]
  rw [e]
  clear e
  have hw12 := g.ws.len
  have hwl := withF_len ⟨block, data⟩ false H.ws
  have hwith : ∀ W', Rep W' W'.heap.size 2 Wrt.cell x.AL H.ws.length H.ws → Calls Try.prog 85 #[.slice x.AL H.ws.length x.cl, .agg #[.int .i64 block, .string data]] W' (WithPost W' (withF ⟨block, data⟩ false H.ws)) := fun W' hr => with_any x.AL H.ws.length x.cl block data H.ws W' hr hw12
  obtain ⟨z, hz⟩ : ∃ z, withF ⟨block, data⟩ false H.ws = z := ⟨_, rfl⟩
  rw [hz] at hwith hwl
  simp only [Bool.false_eq_true, if_false] at hwl
  have HZ := Lib.hid hz
  have HWITH := Lib.hid hwith
  clear hwith hz
  cases ho : H.opened with
  | false =>
    have hp : putH H block data = ({ H with opened := H.opened, last := H.last }, 7) := by rw [putH, ho]; simp
    rw [hp]
    have HO := Lib.hid ho
    clear ho hp
    have HNOW := Lib.hid (now_stay (ActS R w) x H (world5 w x H ⟨2, block, data, keep⟩) (hsty.later (world5_below w x H _)) (fun k hk => hk.lt) g)
    have HREP := Lib.hid h
    have HSTY := Lib.hid hsty
    have HRLT := Lib.hid hR
    have HG := Lib.hid g
    unfold houseV at HNOW ⊢
    unfold actV
    clear h hsty hR g
    go_enter Try.func62, Try.ntmps62
    go_wp2_with fail
    refine HNOW.out.mono ?_
    rintro e w1 ⟨A, c, B, d, rfl, hst, hb⟩
    have HA := Lib.hid (HAct.new (hst.weak (fun k hk => .inl ⟨.inl hk.1, hk.2⟩)) hb)
    have HSV := Lib.hid ((hst.weak (R' := ActS R w) (fun k hk => .inl hk)).step (Touch.below ((Below.refl w1.heap.size w1).alloc (Nat.le_refl _) (.cells #[.slice A (nowH H).1.length c, .slice B (nowH H).2.length d] 30))))
    clear hst hb HNOW
    go_upto_region 3 with (fail)
    obtain ⟨W, hW⟩ : ∃ W, W = w1.alloc (.cells #[.slice A (nowH H).1.length c, .slice B (nowH H).2.length d] 30) := ⟨_, rfl⟩
    rw [← hW] at HA HSV ⊢
    obtain ⟨q, hq⟩ : ∃ q, w1.heap.size = q := ⟨_, rfl⟩
    rw [hq] at HA ⊢
    clear hW hq
    have hn1 : (nowH H).1.length ≤ 1000 := by have := (HG.out.pre H.deals.length).good.1; rw [List.take_of_length_le (Nat.le_refl _)] at this; exact Nat.le_trans this (by omega)
    have hn2 : (nowH H).2.length ≤ 1000 := by have := (HG.out.pre H.deals.length).hi; rw [List.take_of_length_le (Nat.le_refl _)] at this; exact Nat.le_trans this (by omega)
    have h0 := HA.out.f.h0
    have h1 := HA.out.f.h1
    have h2 := HA.out.f.h2
    have h3 := HA.out.f.h3
    have h4 := HA.out.f.h4
    have h5 := HA.out.f.h5
    have a0 := HA.out.f.a0
    have a1 := HA.out.f.a1
    have a2 := HA.out.f.a2
    have a3 := HA.out.f.a3
    have r0 := HA.out.f.r0
    have r1 := HA.out.f.r1
    have r2 := HA.out.f.r2
    have r3 := HA.out.f.r3
    have r4 := HA.out.f.r4
    have r5 := HA.out.f.r5
    have s0 := HA.out.f.s0
    have s1 := HA.out.f.s1
    have s2 := HA.out.f.s2
    have s3 := HA.out.f.s3
    have s4 := HA.out.f.s4
    have o0 := HA.out.f.o0
    have o1 := HA.out.f.o1
    have o2 := HA.out.f.o2
    have o3 := HA.out.f.o3
    have o4 := HA.out.f.o4
    have fh0 := HA.out.f.fh 0
    have fh1 := HA.out.f.fh 1
    have fh2 := HA.out.f.fh 2
    have fh3 := HA.out.f.fh 3
    have fh4 := HA.out.f.fh 4
    have fh5 := HA.out.f.fh 5
    have fr0 := HA.out.f.fr 0
    have fr1 := HA.out.f.fr 1
    have fr2 := HA.out.f.fr 2
    have fr3 := HA.out.f.fr 3
    have fr4 := HA.out.f.fr 4
    have fr5 := HA.out.f.fr 5
    have fs0 := HA.out.f.fs 0
    have fs1 := HA.out.f.fs 1
    have fs2 := HA.out.f.fs 2
    have fs3 := HA.out.f.fs 3
    have fs4 := HA.out.f.fs 4
    have fo0 := HA.out.f.fo 0
    have fo1 := HA.out.f.fo 1
    have fo2 := HA.out.f.fo 2
    have fo3 := HA.out.f.fo 3
    have fo4 := HA.out.f.fo 4
    have v0 := HA.out.v0
    have v1 := HA.out.v1
    have q1 := HA.out.q1
    dsimp only [Ans.of, noData] at a0 a1 a2 a3 o0 o1 o2 o3 o4
    rw [HO.out] at h4
    go_wp2_with fail
    refine (HWITH.out _ (HA.out.rep HREP.out _ (Touch.refl _ _)).l).mono ?_
    rintro e w2 ⟨A2, c2, rfl, hown, hb2⟩
    have HA2 := Lib.hid (HA.out.step hb2)
    have HO2 := Lib.hid (own_mono hown (base' := w.heap.size + 1 + 1 + 1 + 1 + 1) (by have := HA.out.f.sz; omega))
    clear hb2 hown
    clear h0 h1 h2 h3 h4 h5 a0 a1 a2 a3 r0 r1 r2 r3 r4 r5 s0 s1 s2 s3 s4 o0 o1 o2 o3 o4 fh0 fr0 fh1 fr1 fh2 fr2 fh3 fr3 fh4 fr4 fh5 fr5 fs0 fo0 fs1 fo1 fs2 fo2 fs3 fo3 fs4 fo4 v0 v1 q1
    have h0 := HA2.out.f.h0
    have h1 := HA2.out.f.h1
    have h2 := HA2.out.f.h2
    have h3 := HA2.out.f.h3
    have h4 := HA2.out.f.h4
    have h5 := HA2.out.f.h5
    have a0 := HA2.out.f.a0
    have a1 := HA2.out.f.a1
    have a2 := HA2.out.f.a2
    have a3 := HA2.out.f.a3
    have r0 := HA2.out.f.r0
    have r1 := HA2.out.f.r1
    have r2 := HA2.out.f.r2
    have r3 := HA2.out.f.r3
    have r4 := HA2.out.f.r4
    have r5 := HA2.out.f.r5
    have s0 := HA2.out.f.s0
    have s1 := HA2.out.f.s1
    have s2 := HA2.out.f.s2
    have s3 := HA2.out.f.s3
    have s4 := HA2.out.f.s4
    have o0 := HA2.out.f.o0
    have o1 := HA2.out.f.o1
    have o2 := HA2.out.f.o2
    have o3 := HA2.out.f.o3
    have o4 := HA2.out.f.o4
    have fh0 := HA2.out.f.fh 0
    have fh1 := HA2.out.f.fh 1
    have fh2 := HA2.out.f.fh 2
    have fh3 := HA2.out.f.fh 3
    have fh4 := HA2.out.f.fh 4
    have fh5 := HA2.out.f.fh 5
    have fr0 := HA2.out.f.fr 0
    have fr1 := HA2.out.f.fr 1
    have fr2 := HA2.out.f.fr 2
    have fr3 := HA2.out.f.fr 3
    have fr4 := HA2.out.f.fr 4
    have fr5 := HA2.out.f.fr 5
    have fs0 := HA2.out.f.fs 0
    have fs1 := HA2.out.f.fs 1
    have fs2 := HA2.out.f.fs 2
    have fs3 := HA2.out.f.fs 3
    have fs4 := HA2.out.f.fs 4
    have fo0 := HA2.out.f.fo 0
    have fo1 := HA2.out.f.fo 1
    have fo2 := HA2.out.f.fo 2
    have fo3 := HA2.out.f.fo 3
    have fo4 := HA2.out.f.fo 4
    have v0 := HA2.out.v0
    have v1 := HA2.out.v1
    have q1 := HA2.out.q1
    dsimp only [Ans.of, noData] at a0 a1 a2 a3 o0 o1 o2 o3 o4
    rw [HO.out] at h4
    go_wp2
    go_region
    all_goals
      go_wp2
      refine bodyPost_ret (v := .tuple #[.agg #[.slice x.A0 H.base.1.length x.c0, .slice x.A1 H.base.2.length x.c1, .slice x.AD H.deals.length x.cd, .int .i64 H.last, .bool false, .slice x.AL H.ws.length x.cl], .agg #[.int .i64 7, .string ⟨#[]⟩, .int .i64 0, .int .i64 0, .int .i64 0]]) (by simp [results, Try.results62, go_sem, r0, r1, r2, r3, r4, r5, s0, s1, s2, s3, s4]) rfl ?_
      refine ActedPost.of HA2.out ?_ x (by unfold houseV ansV; simp only [HO.out]; rfl) ?_ HRLT.out
      · ((repeat (with_reducible first | exact Touch.refl _ _ | refine Touch.setC ?_ _ ?_ _ | refine Touch.drawC ?_ _ | refine Touch.drawO ?_)) <;> (dsimp only [ActR]; omega))
      · exact fun W' hT => HA2.out.repS HSTY.out W' hT
  | true =>
    have HO := Lib.hid ho
    by_cases hin : 0 ≤ block ∧ block ≤ ((nowH H).2.length : Int) - 1
    · by_cases hd : data.size ≤ 48
      · by_cases hl : z.length ≤ 12
        · have hp : putH H block data = ({ H with ws := z }, 0) := by rw [putH, if_pos ho, if_pos hin, HZ.out, if_pos ⟨hd, hl⟩]
          rw [hp]
          have d1 : decide ((data.size : Int) > 48) = false := decide_eq_false (by omega)
          have d2 : decide ((z.length : Int) > 12) = false := decide_eq_false (by omega)
          obtain ⟨hin1, hin2⟩ := hin
          clear ho hp
          have HNOW := Lib.hid (now_stay (ActS R w) x H (world5 w x H ⟨2, block, data, keep⟩) (hsty.later (world5_below w x H _)) (fun k hk => hk.lt) g)
          have HREP := Lib.hid h
          have HSTY := Lib.hid hsty
          have HRLT := Lib.hid hR
          have HG := Lib.hid g
          unfold houseV at HNOW ⊢
          unfold actV
          clear h hsty hR g
          go_enter Try.func62, Try.ntmps62
          go_wp2_with fail
          refine HNOW.out.mono ?_
          rintro e w1 ⟨A, c, B, d, rfl, hst, hb⟩
          have HA := Lib.hid (HAct.new (hst.weak (fun k hk => .inl ⟨.inl hk.1, hk.2⟩)) hb)
          have HSV := Lib.hid ((hst.weak (R' := ActS R w) (fun k hk => .inl hk)).step (Touch.below ((Below.refl w1.heap.size w1).alloc (Nat.le_refl _) (.cells #[.slice A (nowH H).1.length c, .slice B (nowH H).2.length d] 30))))
          clear hst hb HNOW
          go_upto_region 3 with (fail)
          obtain ⟨W, hW⟩ : ∃ W, W = w1.alloc (.cells #[.slice A (nowH H).1.length c, .slice B (nowH H).2.length d] 30) := ⟨_, rfl⟩
          rw [← hW] at HA HSV ⊢
          obtain ⟨q, hq⟩ : ∃ q, w1.heap.size = q := ⟨_, rfl⟩
          rw [hq] at HA ⊢
          clear hW hq
          have hn1 : (nowH H).1.length ≤ 1000 := by have := (HG.out.pre H.deals.length).good.1; rw [List.take_of_length_le (Nat.le_refl _)] at this; exact Nat.le_trans this (by omega)
          have hn2 : (nowH H).2.length ≤ 1000 := by have := (HG.out.pre H.deals.length).hi; rw [List.take_of_length_le (Nat.le_refl _)] at this; exact Nat.le_trans this (by omega)
          have h0 := HA.out.f.h0
          have h1 := HA.out.f.h1
          have h2 := HA.out.f.h2
          have h3 := HA.out.f.h3
          have h4 := HA.out.f.h4
          have h5 := HA.out.f.h5
          have a0 := HA.out.f.a0
          have a1 := HA.out.f.a1
          have a2 := HA.out.f.a2
          have a3 := HA.out.f.a3
          have r0 := HA.out.f.r0
          have r1 := HA.out.f.r1
          have r2 := HA.out.f.r2
          have r3 := HA.out.f.r3
          have r4 := HA.out.f.r4
          have r5 := HA.out.f.r5
          have s0 := HA.out.f.s0
          have s1 := HA.out.f.s1
          have s2 := HA.out.f.s2
          have s3 := HA.out.f.s3
          have s4 := HA.out.f.s4
          have o0 := HA.out.f.o0
          have o1 := HA.out.f.o1
          have o2 := HA.out.f.o2
          have o3 := HA.out.f.o3
          have o4 := HA.out.f.o4
          have fh0 := HA.out.f.fh 0
          have fh1 := HA.out.f.fh 1
          have fh2 := HA.out.f.fh 2
          have fh3 := HA.out.f.fh 3
          have fh4 := HA.out.f.fh 4
          have fh5 := HA.out.f.fh 5
          have fr0 := HA.out.f.fr 0
          have fr1 := HA.out.f.fr 1
          have fr2 := HA.out.f.fr 2
          have fr3 := HA.out.f.fr 3
          have fr4 := HA.out.f.fr 4
          have fr5 := HA.out.f.fr 5
          have fs0 := HA.out.f.fs 0
          have fs1 := HA.out.f.fs 1
          have fs2 := HA.out.f.fs 2
          have fs3 := HA.out.f.fs 3
          have fs4 := HA.out.f.fs 4
          have fo0 := HA.out.f.fo 0
          have fo1 := HA.out.f.fo 1
          have fo2 := HA.out.f.fo 2
          have fo3 := HA.out.f.fo 3
          have fo4 := HA.out.f.fo 4
          have v0 := HA.out.v0
          have v1 := HA.out.v1
          have q1 := HA.out.q1
          dsimp only [Ans.of, noData] at a0 a1 a2 a3 o0 o1 o2 o3 o4
          rw [HO.out] at h4
          go_wp2_with fail
          refine (HWITH.out _ (HA.out.rep HREP.out _ (Touch.refl _ _)).l).mono ?_
          rintro e w2 ⟨A2, c2, rfl, hown, hb2⟩
          have HA2 := Lib.hid (HA.out.step hb2)
          have HO2 := Lib.hid (own_mono hown (base' := w.heap.size + 1 + 1 + 1 + 1 + 1) (by have := HA.out.f.sz; omega))
          clear hb2 hown
          clear h0 h1 h2 h3 h4 h5 a0 a1 a2 a3 r0 r1 r2 r3 r4 r5 s0 s1 s2 s3 s4 o0 o1 o2 o3 o4 fh0 fr0 fh1 fr1 fh2 fr2 fh3 fr3 fh4 fr4 fh5 fr5 fs0 fo0 fs1 fo1 fs2 fo2 fs3 fo3 fs4 fo4 v0 v1 q1
          have h0 := HA2.out.f.h0
          have h1 := HA2.out.f.h1
          have h2 := HA2.out.f.h2
          have h3 := HA2.out.f.h3
          have h4 := HA2.out.f.h4
          have h5 := HA2.out.f.h5
          have a0 := HA2.out.f.a0
          have a1 := HA2.out.f.a1
          have a2 := HA2.out.f.a2
          have a3 := HA2.out.f.a3
          have r0 := HA2.out.f.r0
          have r1 := HA2.out.f.r1
          have r2 := HA2.out.f.r2
          have r3 := HA2.out.f.r3
          have r4 := HA2.out.f.r4
          have r5 := HA2.out.f.r5
          have s0 := HA2.out.f.s0
          have s1 := HA2.out.f.s1
          have s2 := HA2.out.f.s2
          have s3 := HA2.out.f.s3
          have s4 := HA2.out.f.s4
          have o0 := HA2.out.f.o0
          have o1 := HA2.out.f.o1
          have o2 := HA2.out.f.o2
          have o3 := HA2.out.f.o3
          have o4 := HA2.out.f.o4
          have fh0 := HA2.out.f.fh 0
          have fh1 := HA2.out.f.fh 1
          have fh2 := HA2.out.f.fh 2
          have fh3 := HA2.out.f.fh 3
          have fh4 := HA2.out.f.fh 4
          have fh5 := HA2.out.f.fh 5
          have fr0 := HA2.out.f.fr 0
          have fr1 := HA2.out.f.fr 1
          have fr2 := HA2.out.f.fr 2
          have fr3 := HA2.out.f.fr 3
          have fr4 := HA2.out.f.fr 4
          have fr5 := HA2.out.f.fr 5
          have fs0 := HA2.out.f.fs 0
          have fs1 := HA2.out.f.fs 1
          have fs2 := HA2.out.f.fs 2
          have fs3 := HA2.out.f.fs 3
          have fs4 := HA2.out.f.fs 4
          have fo0 := HA2.out.f.fo 0
          have fo1 := HA2.out.f.fo 1
          have fo2 := HA2.out.f.fo 2
          have fo3 := HA2.out.f.fo 3
          have fo4 := HA2.out.f.fo 4
          have v0 := HA2.out.v0
          have v1 := HA2.out.v1
          have q1 := HA2.out.q1
          dsimp only [Ans.of, noData] at a0 a1 a2 a3 o0 o1 o2 o3 o4
          rw [HO.out] at h4
          go_wp2_with (go_at_call 39; (with_reducible refine (in_yes block 0 _ _ hin1 hin2).mono ?_); rintro e w' ⟨rfl, rfl⟩)
          go_wp2
          go_region
          all_goals
            go_wp2
            refine bodyPost_ret (v := .tuple #[.agg #[.slice x.A0 H.base.1.length x.c0, .slice x.A1 H.base.2.length x.c1, .slice x.AD H.deals.length x.cd, .int .i64 H.last, .bool true, .slice A2 z.length c2], .agg #[.int .i64 0, .string ⟨#[]⟩, .int .i64 0, .int .i64 0, .int .i64 0]]) (by simp [results, Try.results62, go_sem, r0, r1, r2, r3, r4, r5, s0, s1, s2, s3, s4]) rfl ?_
            refine ActedPost.of HA2.out ?_ { x with AL := A2, cl := c2 } (by unfold houseV ansV; simp only [HO.out]; rfl) ?_ HRLT.out
            · ((repeat (with_reducible first | exact Touch.refl _ _ | refine Touch.setC ?_ _ ?_ _ | refine Touch.drawC ?_ _ | refine Touch.drawO ?_)) <;> (dsimp only [ActR]; omega))
            · exact fun W' hT => (HA2.out.repS HSTY.out W' hT).puts (Rep.of_own rfl (own_touch HO2.out hT (fun g hg r => by have h1 := (HO2.out.lt g hg).1; have h2 := r.2; omega)) (Nat.le_refl _))
        · have hp : putH H block data = ({ H with opened := H.opened, last := H.last }, 1) := by rw [putH, if_pos ho, if_pos hin, HZ.out, if_neg (fun h => hl h.2)]
          rw [hp]
          have d1 : decide ((data.size : Int) > 48) = false := decide_eq_false (by omega)
          have d2 : decide ((z.length : Int) > 12) = true := decide_eq_true (by omega)
          obtain ⟨hin1, hin2⟩ := hin
          clear ho hp
          have HNOW := Lib.hid (now_stay (ActS R w) x H (world5 w x H ⟨2, block, data, keep⟩) (hsty.later (world5_below w x H _)) (fun k hk => hk.lt) g)
          have HREP := Lib.hid h
          have HSTY := Lib.hid hsty
          have HRLT := Lib.hid hR
          have HG := Lib.hid g
          unfold houseV at HNOW ⊢
          unfold actV
          clear h hsty hR g
          go_enter Try.func62, Try.ntmps62
          go_wp2_with fail
          refine HNOW.out.mono ?_
          rintro e w1 ⟨A, c, B, d, rfl, hst, hb⟩
          have HA := Lib.hid (HAct.new (hst.weak (fun k hk => .inl ⟨.inl hk.1, hk.2⟩)) hb)
          have HSV := Lib.hid ((hst.weak (R' := ActS R w) (fun k hk => .inl hk)).step (Touch.below ((Below.refl w1.heap.size w1).alloc (Nat.le_refl _) (.cells #[.slice A (nowH H).1.length c, .slice B (nowH H).2.length d] 30))))
          clear hst hb HNOW
          go_upto_region 3 with (fail)
          obtain ⟨W, hW⟩ : ∃ W, W = w1.alloc (.cells #[.slice A (nowH H).1.length c, .slice B (nowH H).2.length d] 30) := ⟨_, rfl⟩
          rw [← hW] at HA HSV ⊢
          obtain ⟨q, hq⟩ : ∃ q, w1.heap.size = q := ⟨_, rfl⟩
          rw [hq] at HA ⊢
          clear hW hq
          have hn1 : (nowH H).1.length ≤ 1000 := by have := (HG.out.pre H.deals.length).good.1; rw [List.take_of_length_le (Nat.le_refl _)] at this; exact Nat.le_trans this (by omega)
          have hn2 : (nowH H).2.length ≤ 1000 := by have := (HG.out.pre H.deals.length).hi; rw [List.take_of_length_le (Nat.le_refl _)] at this; exact Nat.le_trans this (by omega)
          have h0 := HA.out.f.h0
          have h1 := HA.out.f.h1
          have h2 := HA.out.f.h2
          have h3 := HA.out.f.h3
          have h4 := HA.out.f.h4
          have h5 := HA.out.f.h5
          have a0 := HA.out.f.a0
          have a1 := HA.out.f.a1
          have a2 := HA.out.f.a2
          have a3 := HA.out.f.a3
          have r0 := HA.out.f.r0
          have r1 := HA.out.f.r1
          have r2 := HA.out.f.r2
          have r3 := HA.out.f.r3
          have r4 := HA.out.f.r4
          have r5 := HA.out.f.r5
          have s0 := HA.out.f.s0
          have s1 := HA.out.f.s1
          have s2 := HA.out.f.s2
          have s3 := HA.out.f.s3
          have s4 := HA.out.f.s4
          have o0 := HA.out.f.o0
          have o1 := HA.out.f.o1
          have o2 := HA.out.f.o2
          have o3 := HA.out.f.o3
          have o4 := HA.out.f.o4
          have fh0 := HA.out.f.fh 0
          have fh1 := HA.out.f.fh 1
          have fh2 := HA.out.f.fh 2
          have fh3 := HA.out.f.fh 3
          have fh4 := HA.out.f.fh 4
          have fh5 := HA.out.f.fh 5
          have fr0 := HA.out.f.fr 0
          have fr1 := HA.out.f.fr 1
          have fr2 := HA.out.f.fr 2
          have fr3 := HA.out.f.fr 3
          have fr4 := HA.out.f.fr 4
          have fr5 := HA.out.f.fr 5
          have fs0 := HA.out.f.fs 0
          have fs1 := HA.out.f.fs 1
          have fs2 := HA.out.f.fs 2
          have fs3 := HA.out.f.fs 3
          have fs4 := HA.out.f.fs 4
          have fo0 := HA.out.f.fo 0
          have fo1 := HA.out.f.fo 1
          have fo2 := HA.out.f.fo 2
          have fo3 := HA.out.f.fo 3
          have fo4 := HA.out.f.fo 4
          have v0 := HA.out.v0
          have v1 := HA.out.v1
          have q1 := HA.out.q1
          dsimp only [Ans.of, noData] at a0 a1 a2 a3 o0 o1 o2 o3 o4
          rw [HO.out] at h4
          go_wp2_with fail
          refine (HWITH.out _ (HA.out.rep HREP.out _ (Touch.refl _ _)).l).mono ?_
          rintro e w2 ⟨A2, c2, rfl, hown, hb2⟩
          have HA2 := Lib.hid (HA.out.step hb2)
          have HO2 := Lib.hid (own_mono hown (base' := w.heap.size + 1 + 1 + 1 + 1 + 1) (by have := HA.out.f.sz; omega))
          clear hb2 hown
          clear h0 h1 h2 h3 h4 h5 a0 a1 a2 a3 r0 r1 r2 r3 r4 r5 s0 s1 s2 s3 s4 o0 o1 o2 o3 o4 fh0 fr0 fh1 fr1 fh2 fr2 fh3 fr3 fh4 fr4 fh5 fr5 fs0 fo0 fs1 fo1 fs2 fo2 fs3 fo3 fs4 fo4 v0 v1 q1
          have h0 := HA2.out.f.h0
          have h1 := HA2.out.f.h1
          have h2 := HA2.out.f.h2
          have h3 := HA2.out.f.h3
          have h4 := HA2.out.f.h4
          have h5 := HA2.out.f.h5
          have a0 := HA2.out.f.a0
          have a1 := HA2.out.f.a1
          have a2 := HA2.out.f.a2
          have a3 := HA2.out.f.a3
          have r0 := HA2.out.f.r0
          have r1 := HA2.out.f.r1
          have r2 := HA2.out.f.r2
          have r3 := HA2.out.f.r3
          have r4 := HA2.out.f.r4
          have r5 := HA2.out.f.r5
          have s0 := HA2.out.f.s0
          have s1 := HA2.out.f.s1
          have s2 := HA2.out.f.s2
          have s3 := HA2.out.f.s3
          have s4 := HA2.out.f.s4
          have o0 := HA2.out.f.o0
          have o1 := HA2.out.f.o1
          have o2 := HA2.out.f.o2
          have o3 := HA2.out.f.o3
          have o4 := HA2.out.f.o4
          have fh0 := HA2.out.f.fh 0
          have fh1 := HA2.out.f.fh 1
          have fh2 := HA2.out.f.fh 2
          have fh3 := HA2.out.f.fh 3
          have fh4 := HA2.out.f.fh 4
          have fh5 := HA2.out.f.fh 5
          have fr0 := HA2.out.f.fr 0
          have fr1 := HA2.out.f.fr 1
          have fr2 := HA2.out.f.fr 2
          have fr3 := HA2.out.f.fr 3
          have fr4 := HA2.out.f.fr 4
          have fr5 := HA2.out.f.fr 5
          have fs0 := HA2.out.f.fs 0
          have fs1 := HA2.out.f.fs 1
          have fs2 := HA2.out.f.fs 2
          have fs3 := HA2.out.f.fs 3
          have fs4 := HA2.out.f.fs 4
          have fo0 := HA2.out.f.fo 0
          have fo1 := HA2.out.f.fo 1
          have fo2 := HA2.out.f.fo 2
          have fo3 := HA2.out.f.fo 3
          have fo4 := HA2.out.f.fo 4
          have v0 := HA2.out.v0
          have v1 := HA2.out.v1
          have q1 := HA2.out.q1
          dsimp only [Ans.of, noData] at a0 a1 a2 a3 o0 o1 o2 o3 o4
          rw [HO.out] at h4
          go_wp2_with (go_at_call 39; (with_reducible refine (in_yes block 0 _ _ hin1 hin2).mono ?_); rintro e w' ⟨rfl, rfl⟩)
          go_wp2
          go_region
          all_goals
            go_wp2
            refine bodyPost_ret (v := .tuple #[.agg #[.slice x.A0 H.base.1.length x.c0, .slice x.A1 H.base.2.length x.c1, .slice x.AD H.deals.length x.cd, .int .i64 H.last, .bool true, .slice x.AL H.ws.length x.cl], .agg #[.int .i64 1, .string ⟨#[]⟩, .int .i64 0, .int .i64 0, .int .i64 0]]) (by simp [results, Try.results62, go_sem, r0, r1, r2, r3, r4, r5, s0, s1, s2, s3, s4]) rfl ?_
            refine ActedPost.of HA2.out ?_ x (by unfold houseV ansV; simp only [HO.out]; rfl) ?_ HRLT.out
            · ((repeat (with_reducible first | exact Touch.refl _ _ | refine Touch.setC ?_ _ ?_ _ | refine Touch.drawC ?_ _ | refine Touch.drawO ?_)) <;> (dsimp only [ActR]; omega))
            · exact fun W' hT => HA2.out.repS HSTY.out W' hT
      · have hp : putH H block data = ({ H with opened := H.opened, last := H.last }, 1) := by rw [putH, if_pos ho, if_pos hin, HZ.out, if_neg (fun h => hd h.1)]
        rw [hp]
        have d1 : decide ((data.size : Int) > 48) = true := decide_eq_true (by omega)
        obtain ⟨hin1, hin2⟩ := hin
        clear ho hp
        have HNOW := Lib.hid (now_stay (ActS R w) x H (world5 w x H ⟨2, block, data, keep⟩) (hsty.later (world5_below w x H _)) (fun k hk => hk.lt) g)
        have HREP := Lib.hid h
        have HSTY := Lib.hid hsty
        have HRLT := Lib.hid hR
        have HG := Lib.hid g
        unfold houseV at HNOW ⊢
        unfold actV
        clear h hsty hR g
        go_enter Try.func62, Try.ntmps62
        go_wp2_with fail
        refine HNOW.out.mono ?_
        rintro e w1 ⟨A, c, B, d, rfl, hst, hb⟩
        have HA := Lib.hid (HAct.new (hst.weak (fun k hk => .inl ⟨.inl hk.1, hk.2⟩)) hb)
        have HSV := Lib.hid ((hst.weak (R' := ActS R w) (fun k hk => .inl hk)).step (Touch.below ((Below.refl w1.heap.size w1).alloc (Nat.le_refl _) (.cells #[.slice A (nowH H).1.length c, .slice B (nowH H).2.length d] 30))))
        clear hst hb HNOW
        go_upto_region 3 with (fail)
        obtain ⟨W, hW⟩ : ∃ W, W = w1.alloc (.cells #[.slice A (nowH H).1.length c, .slice B (nowH H).2.length d] 30) := ⟨_, rfl⟩
        rw [← hW] at HA HSV ⊢
        obtain ⟨q, hq⟩ : ∃ q, w1.heap.size = q := ⟨_, rfl⟩
        rw [hq] at HA ⊢
        clear hW hq
        have hn1 : (nowH H).1.length ≤ 1000 := by have := (HG.out.pre H.deals.length).good.1; rw [List.take_of_length_le (Nat.le_refl _)] at this; exact Nat.le_trans this (by omega)
        have hn2 : (nowH H).2.length ≤ 1000 := by have := (HG.out.pre H.deals.length).hi; rw [List.take_of_length_le (Nat.le_refl _)] at this; exact Nat.le_trans this (by omega)
        have h0 := HA.out.f.h0
        have h1 := HA.out.f.h1
        have h2 := HA.out.f.h2
        have h3 := HA.out.f.h3
        have h4 := HA.out.f.h4
        have h5 := HA.out.f.h5
        have a0 := HA.out.f.a0
        have a1 := HA.out.f.a1
        have a2 := HA.out.f.a2
        have a3 := HA.out.f.a3
        have r0 := HA.out.f.r0
        have r1 := HA.out.f.r1
        have r2 := HA.out.f.r2
        have r3 := HA.out.f.r3
        have r4 := HA.out.f.r4
        have r5 := HA.out.f.r5
        have s0 := HA.out.f.s0
        have s1 := HA.out.f.s1
        have s2 := HA.out.f.s2
        have s3 := HA.out.f.s3
        have s4 := HA.out.f.s4
        have o0 := HA.out.f.o0
        have o1 := HA.out.f.o1
        have o2 := HA.out.f.o2
        have o3 := HA.out.f.o3
        have o4 := HA.out.f.o4
        have fh0 := HA.out.f.fh 0
        have fh1 := HA.out.f.fh 1
        have fh2 := HA.out.f.fh 2
        have fh3 := HA.out.f.fh 3
        have fh4 := HA.out.f.fh 4
        have fh5 := HA.out.f.fh 5
        have fr0 := HA.out.f.fr 0
        have fr1 := HA.out.f.fr 1
        have fr2 := HA.out.f.fr 2
        have fr3 := HA.out.f.fr 3
        have fr4 := HA.out.f.fr 4
        have fr5 := HA.out.f.fr 5
        have fs0 := HA.out.f.fs 0
        have fs1 := HA.out.f.fs 1
        have fs2 := HA.out.f.fs 2
        have fs3 := HA.out.f.fs 3
        have fs4 := HA.out.f.fs 4
        have fo0 := HA.out.f.fo 0
        have fo1 := HA.out.f.fo 1
        have fo2 := HA.out.f.fo 2
        have fo3 := HA.out.f.fo 3
        have fo4 := HA.out.f.fo 4
        have v0 := HA.out.v0
        have v1 := HA.out.v1
        have q1 := HA.out.q1
        dsimp only [Ans.of, noData] at a0 a1 a2 a3 o0 o1 o2 o3 o4
        rw [HO.out] at h4
        go_wp2_with fail
        refine (HWITH.out _ (HA.out.rep HREP.out _ (Touch.refl _ _)).l).mono ?_
        rintro e w2 ⟨A2, c2, rfl, hown, hb2⟩
        have HA2 := Lib.hid (HA.out.step hb2)
        have HO2 := Lib.hid (own_mono hown (base' := w.heap.size + 1 + 1 + 1 + 1 + 1) (by have := HA.out.f.sz; omega))
        clear hb2 hown
        clear h0 h1 h2 h3 h4 h5 a0 a1 a2 a3 r0 r1 r2 r3 r4 r5 s0 s1 s2 s3 s4 o0 o1 o2 o3 o4 fh0 fr0 fh1 fr1 fh2 fr2 fh3 fr3 fh4 fr4 fh5 fr5 fs0 fo0 fs1 fo1 fs2 fo2 fs3 fo3 fs4 fo4 v0 v1 q1
        have h0 := HA2.out.f.h0
        have h1 := HA2.out.f.h1
        have h2 := HA2.out.f.h2
        have h3 := HA2.out.f.h3
        have h4 := HA2.out.f.h4
        have h5 := HA2.out.f.h5
        have a0 := HA2.out.f.a0
        have a1 := HA2.out.f.a1
        have a2 := HA2.out.f.a2
        have a3 := HA2.out.f.a3
        have r0 := HA2.out.f.r0
        have r1 := HA2.out.f.r1
        have r2 := HA2.out.f.r2
        have r3 := HA2.out.f.r3
        have r4 := HA2.out.f.r4
        have r5 := HA2.out.f.r5
        have s0 := HA2.out.f.s0
        have s1 := HA2.out.f.s1
        have s2 := HA2.out.f.s2
        have s3 := HA2.out.f.s3
        have s4 := HA2.out.f.s4
        have o0 := HA2.out.f.o0
        have o1 := HA2.out.f.o1
        have o2 := HA2.out.f.o2
        have o3 := HA2.out.f.o3
        have o4 := HA2.out.f.o4
        have fh0 := HA2.out.f.fh 0
        have fh1 := HA2.out.f.fh 1
        have fh2 := HA2.out.f.fh 2
        have fh3 := HA2.out.f.fh 3
        have fh4 := HA2.out.f.fh 4
        have fh5 := HA2.out.f.fh 5
        have fr0 := HA2.out.f.fr 0
        have fr1 := HA2.out.f.fr 1
        have fr2 := HA2.out.f.fr 2
        have fr3 := HA2.out.f.fr 3
        have fr4 := HA2.out.f.fr 4
        have fr5 := HA2.out.f.fr 5
        have fs0 := HA2.out.f.fs 0
        have fs1 := HA2.out.f.fs 1
        have fs2 := HA2.out.f.fs 2
        have fs3 := HA2.out.f.fs 3
        have fs4 := HA2.out.f.fs 4
        have fo0 := HA2.out.f.fo 0
        have fo1 := HA2.out.f.fo 1
        have fo2 := HA2.out.f.fo 2
        have fo3 := HA2.out.f.fo 3
        have fo4 := HA2.out.f.fo 4
        have v0 := HA2.out.v0
        have v1 := HA2.out.v1
        have q1 := HA2.out.q1
        dsimp only [Ans.of, noData] at a0 a1 a2 a3 o0 o1 o2 o3 o4
        rw [HO.out] at h4
        go_wp2_with (go_at_call 39; (with_reducible refine (in_yes block 0 _ _ hin1 hin2).mono ?_); rintro e w' ⟨rfl, rfl⟩)
        go_wp2
        go_region
        all_goals
          go_wp2
          refine bodyPost_ret (v := .tuple #[.agg #[.slice x.A0 H.base.1.length x.c0, .slice x.A1 H.base.2.length x.c1, .slice x.AD H.deals.length x.cd, .int .i64 H.last, .bool true, .slice x.AL H.ws.length x.cl], .agg #[.int .i64 1, .string ⟨#[]⟩, .int .i64 0, .int .i64 0, .int .i64 0]]) (by simp [results, Try.results62, go_sem, r0, r1, r2, r3, r4, r5, s0, s1, s2, s3, s4]) rfl ?_
          refine ActedPost.of HA2.out ?_ x (by unfold houseV ansV; simp only [HO.out]; rfl) ?_ HRLT.out
          · ((repeat (with_reducible first | exact Touch.refl _ _ | refine Touch.setC ?_ _ ?_ _ | refine Touch.drawC ?_ _ | refine Touch.drawO ?_)) <;> (dsimp only [ActR]; omega))
          · exact fun W' hT => HA2.out.repS HSTY.out W' hT
    · have hp : putH H block data = ({ H with opened := H.opened, last := H.last }, 6) := by rw [putH, if_pos ho, if_neg hin]
      rw [hp]
      have hno : block < 0 ∨ ((nowH H).2.length : Int) - 1 < block := by omega
      have HNO := Lib.hid hno
      clear ho hp hin hno
      have HNOW := Lib.hid (now_stay (ActS R w) x H (world5 w x H ⟨2, block, data, keep⟩) (hsty.later (world5_below w x H _)) (fun k hk => hk.lt) g)
      have HREP := Lib.hid h
      have HSTY := Lib.hid hsty
      have HRLT := Lib.hid hR
      have HG := Lib.hid g
      unfold houseV at HNOW ⊢
      unfold actV
      clear h hsty hR g
      go_enter Try.func62, Try.ntmps62
      go_wp2_with fail
      refine HNOW.out.mono ?_
      rintro e w1 ⟨A, c, B, d, rfl, hst, hb⟩
      have HA := Lib.hid (HAct.new (hst.weak (fun k hk => .inl ⟨.inl hk.1, hk.2⟩)) hb)
      have HSV := Lib.hid ((hst.weak (R' := ActS R w) (fun k hk => .inl hk)).step (Touch.below ((Below.refl w1.heap.size w1).alloc (Nat.le_refl _) (.cells #[.slice A (nowH H).1.length c, .slice B (nowH H).2.length d] 30))))
      clear hst hb HNOW
      go_upto_region 3 with (fail)
      obtain ⟨W, hW⟩ : ∃ W, W = w1.alloc (.cells #[.slice A (nowH H).1.length c, .slice B (nowH H).2.length d] 30) := ⟨_, rfl⟩
      rw [← hW] at HA HSV ⊢
      obtain ⟨q, hq⟩ : ∃ q, w1.heap.size = q := ⟨_, rfl⟩
      rw [hq] at HA ⊢
      clear hW hq
      have hn1 : (nowH H).1.length ≤ 1000 := by have := (HG.out.pre H.deals.length).good.1; rw [List.take_of_length_le (Nat.le_refl _)] at this; exact Nat.le_trans this (by omega)
      have hn2 : (nowH H).2.length ≤ 1000 := by have := (HG.out.pre H.deals.length).hi; rw [List.take_of_length_le (Nat.le_refl _)] at this; exact Nat.le_trans this (by omega)
      have h0 := HA.out.f.h0
      have h1 := HA.out.f.h1
      have h2 := HA.out.f.h2
      have h3 := HA.out.f.h3
      have h4 := HA.out.f.h4
      have h5 := HA.out.f.h5
      have a0 := HA.out.f.a0
      have a1 := HA.out.f.a1
      have a2 := HA.out.f.a2
      have a3 := HA.out.f.a3
      have r0 := HA.out.f.r0
      have r1 := HA.out.f.r1
      have r2 := HA.out.f.r2
      have r3 := HA.out.f.r3
      have r4 := HA.out.f.r4
      have r5 := HA.out.f.r5
      have s0 := HA.out.f.s0
      have s1 := HA.out.f.s1
      have s2 := HA.out.f.s2
      have s3 := HA.out.f.s3
      have s4 := HA.out.f.s4
      have o0 := HA.out.f.o0
      have o1 := HA.out.f.o1
      have o2 := HA.out.f.o2
      have o3 := HA.out.f.o3
      have o4 := HA.out.f.o4
      have fh0 := HA.out.f.fh 0
      have fh1 := HA.out.f.fh 1
      have fh2 := HA.out.f.fh 2
      have fh3 := HA.out.f.fh 3
      have fh4 := HA.out.f.fh 4
      have fh5 := HA.out.f.fh 5
      have fr0 := HA.out.f.fr 0
      have fr1 := HA.out.f.fr 1
      have fr2 := HA.out.f.fr 2
      have fr3 := HA.out.f.fr 3
      have fr4 := HA.out.f.fr 4
      have fr5 := HA.out.f.fr 5
      have fs0 := HA.out.f.fs 0
      have fs1 := HA.out.f.fs 1
      have fs2 := HA.out.f.fs 2
      have fs3 := HA.out.f.fs 3
      have fs4 := HA.out.f.fs 4
      have fo0 := HA.out.f.fo 0
      have fo1 := HA.out.f.fo 1
      have fo2 := HA.out.f.fo 2
      have fo3 := HA.out.f.fo 3
      have fo4 := HA.out.f.fo 4
      have v0 := HA.out.v0
      have v1 := HA.out.v1
      have q1 := HA.out.q1
      dsimp only [Ans.of, noData] at a0 a1 a2 a3 o0 o1 o2 o3 o4
      rw [HO.out] at h4
      go_wp2_with fail
      refine (HWITH.out _ (HA.out.rep HREP.out _ (Touch.refl _ _)).l).mono ?_
      rintro e w2 ⟨A2, c2, rfl, hown, hb2⟩
      have HA2 := Lib.hid (HA.out.step hb2)
      have HO2 := Lib.hid (own_mono hown (base' := w.heap.size + 1 + 1 + 1 + 1 + 1) (by have := HA.out.f.sz; omega))
      clear hb2 hown
      clear h0 h1 h2 h3 h4 h5 a0 a1 a2 a3 r0 r1 r2 r3 r4 r5 s0 s1 s2 s3 s4 o0 o1 o2 o3 o4 fh0 fr0 fh1 fr1 fh2 fr2 fh3 fr3 fh4 fr4 fh5 fr5 fs0 fo0 fs1 fo1 fs2 fo2 fs3 fo3 fs4 fo4 v0 v1 q1
      have h0 := HA2.out.f.h0
      have h1 := HA2.out.f.h1
      have h2 := HA2.out.f.h2
      have h3 := HA2.out.f.h3
      have h4 := HA2.out.f.h4
      have h5 := HA2.out.f.h5
      have a0 := HA2.out.f.a0
      have a1 := HA2.out.f.a1
      have a2 := HA2.out.f.a2
      have a3 := HA2.out.f.a3
      have r0 := HA2.out.f.r0
      have r1 := HA2.out.f.r1
      have r2 := HA2.out.f.r2
      have r3 := HA2.out.f.r3
      have r4 := HA2.out.f.r4
      have r5 := HA2.out.f.r5
      have s0 := HA2.out.f.s0
      have s1 := HA2.out.f.s1
      have s2 := HA2.out.f.s2
      have s3 := HA2.out.f.s3
      have s4 := HA2.out.f.s4
      have o0 := HA2.out.f.o0
      have o1 := HA2.out.f.o1
      have o2 := HA2.out.f.o2
      have o3 := HA2.out.f.o3
      have o4 := HA2.out.f.o4
      have fh0 := HA2.out.f.fh 0
      have fh1 := HA2.out.f.fh 1
      have fh2 := HA2.out.f.fh 2
      have fh3 := HA2.out.f.fh 3
      have fh4 := HA2.out.f.fh 4
      have fh5 := HA2.out.f.fh 5
      have fr0 := HA2.out.f.fr 0
      have fr1 := HA2.out.f.fr 1
      have fr2 := HA2.out.f.fr 2
      have fr3 := HA2.out.f.fr 3
      have fr4 := HA2.out.f.fr 4
      have fr5 := HA2.out.f.fr 5
      have fs0 := HA2.out.f.fs 0
      have fs1 := HA2.out.f.fs 1
      have fs2 := HA2.out.f.fs 2
      have fs3 := HA2.out.f.fs 3
      have fs4 := HA2.out.f.fs 4
      have fo0 := HA2.out.f.fo 0
      have fo1 := HA2.out.f.fo 1
      have fo2 := HA2.out.f.fo 2
      have fo3 := HA2.out.f.fo 3
      have fo4 := HA2.out.f.fo 4
      have v0 := HA2.out.v0
      have v1 := HA2.out.v1
      have q1 := HA2.out.q1
      dsimp only [Ans.of, noData] at a0 a1 a2 a3 o0 o1 o2 o3 o4
      rw [HO.out] at h4
      go_wp2_with (go_at_call 39; (with_reducible refine (in_no block 0 _ _ HNO.out).mono ?_); rintro e w' ⟨rfl, rfl⟩)
      go_wp2
      go_region
      all_goals
        go_wp2
        refine bodyPost_ret (v := .tuple #[.agg #[.slice x.A0 H.base.1.length x.c0, .slice x.A1 H.base.2.length x.c1, .slice x.AD H.deals.length x.cd, .int .i64 H.last, .bool true, .slice x.AL H.ws.length x.cl], .agg #[.int .i64 6, .string ⟨#[]⟩, .int .i64 0, .int .i64 0, .int .i64 0]]) (by simp [results, Try.results62, go_sem, r0, r1, r2, r3, r4, r5, s0, s1, s2, s3, s4]) rfl ?_
        refine ActedPost.of HA2.out ?_ x (by unfold houseV ansV; simp only [HO.out]; rfl) ?_ HRLT.out
        · ((repeat (with_reducible first | exact Touch.refl _ _ | refine Touch.setC ?_ _ ?_ _ | refine Touch.drawC ?_ _ | refine Touch.drawO ?_)) <;> (dsimp only [ActR]; omega))
        · exact fun W' hT => HA2.out.repS HSTY.out W' hT
end Go.Proofs.Ytphbebcbbfbgpab

namespace Go.Proofs.Ytphbebcbbfbgpab
open Go Go.RowKit

theorem lastData_snoc (b : Int) (z : ByteArray) (ws : List Wrt) {i : Nat} (h : i < ws.length) : lastData b z (ws.take (i + 1)) = if ws[i].block = b then ws[i].data else lastData b z (ws.take i) := by
  rw [lastData, List.take_succ_eq_append_getElem h, List.foldl_append]; rfl

set_option maxRecDepth 100000 in
set_option maxHeartbeats 4000000 in
theorem ref_read (x : HV) (H : Hse) (a : Acn) (R : Nat → Prop) (w : World) (hsty : HStay R w x H) (hR : ∀ k, R k → k < w.heap.size) (g : GoodH H) (hk : a.kind = 3) (hb64 : i64Ok a.block) :
    Calls Try.prog 62 #[houseV x H, actV a] w (ActedPost R w (actH H a)) := by
  have h := hsty.now
  obtain ⟨kind, block, data, keep⟩ := a
  dsimp only at hk
  subst hk
  dsimp only at hb64
  have e : actH H ⟨3, block, data, keep⟩ = (H, ⟨(readR (nowH H).1 (nowH H).2 block).2, lastData block (readR (nowH H).1 (nowH H).2 block).1 H.ws, 0, 0, 0⟩) := by
    rw [actH, if_neg (by simp), if_neg (by simp), if_pos rfl]
  rw [e]
  clear e
  have hw12 := g.ws.len
  obtain ⟨rr, hrr⟩ : ∃ rr, readR (nowH H).1 (nowH H).2 block = rr := ⟨_, rfl⟩
  rw [hrr]
  obtain ⟨z0, k0⟩ := rr
  dsimp only
  have HRR := Lib.hid hrr
  clear hrr
  obtain ⟨n, hn⟩ : ∃ n, H.ws.length = n := ⟨_, rfl⟩
  rw [hn] at hw12
  have HN := Lib.hid hn
  clear hn
  have HNOW := Lib.hid (now_stay (ActS R w) x H (world5 w x H ⟨3, block, data, keep⟩) (hsty.later (world5_below w x H _)) (fun k hk => hk.lt) g)
  have HREP := Lib.hid h
  have HSTY := Lib.hid hsty
  have HRLT := Lib.hid hR
  have HG := Lib.hid g
  unfold houseV at HNOW ⊢
  unfold actV
  clear h hsty hR g
  go_enter Try.func62, Try.ntmps62
  go_wp2_with fail
  refine HNOW.out.mono ?_
  rintro e w1 ⟨A, c, B, d, rfl, hst, hb⟩
  have HA := Lib.hid (HAct.new (hst.weak (fun k hk => .inl ⟨.inl hk.1, hk.2⟩)) hb)
  have HSV := Lib.hid ((hst.weak (R' := ActS R w) (fun k hk => .inl hk)).step (Touch.below ((Below.refl w1.heap.size w1).alloc (Nat.le_refl _) (.cells #[.slice A (nowH H).1.length c, .slice B (nowH H).2.length d] 30))))
  clear hst hb HNOW
  go_upto_region 3 with (fail)
  obtain ⟨W, hW⟩ : ∃ W, W = w1.alloc (.cells #[.slice A (nowH H).1.length c, .slice B (nowH H).2.length d] 30) := ⟨_, rfl⟩
  rw [← hW] at HA HSV ⊢
  obtain ⟨q, hq⟩ : ∃ q, w1.heap.size = q := ⟨_, rfl⟩
  rw [hq] at HA ⊢
  clear hW hq
  have hn1 : (nowH H).1.length ≤ 1000 := by have := (HG.out.pre H.deals.length).good.1; rw [List.take_of_length_le (Nat.le_refl _)] at this; exact Nat.le_trans this (by omega)
  have hn2 : (nowH H).2.length ≤ 1000 := by have := (HG.out.pre H.deals.length).hi; rw [List.take_of_length_le (Nat.le_refl _)] at this; exact Nat.le_trans this (by omega)
  have h0 := HA.out.f.h0
  have h1 := HA.out.f.h1
  have h2 := HA.out.f.h2
  have h3 := HA.out.f.h3
  have h4 := HA.out.f.h4
  have h5 := HA.out.f.h5
  have a0 := HA.out.f.a0
  have a1 := HA.out.f.a1
  have a2 := HA.out.f.a2
  have a3 := HA.out.f.a3
  have r0 := HA.out.f.r0
  have r1 := HA.out.f.r1
  have r2 := HA.out.f.r2
  have r3 := HA.out.f.r3
  have r4 := HA.out.f.r4
  have r5 := HA.out.f.r5
  have s0 := HA.out.f.s0
  have s1 := HA.out.f.s1
  have s2 := HA.out.f.s2
  have s3 := HA.out.f.s3
  have s4 := HA.out.f.s4
  have o0 := HA.out.f.o0
  have o1 := HA.out.f.o1
  have o2 := HA.out.f.o2
  have o3 := HA.out.f.o3
  have o4 := HA.out.f.o4
  have fh0 := HA.out.f.fh 0
  have fh1 := HA.out.f.fh 1
  have fh2 := HA.out.f.fh 2
  have fh3 := HA.out.f.fh 3
  have fh4 := HA.out.f.fh 4
  have fh5 := HA.out.f.fh 5
  have fr0 := HA.out.f.fr 0
  have fr1 := HA.out.f.fr 1
  have fr2 := HA.out.f.fr 2
  have fr3 := HA.out.f.fr 3
  have fr4 := HA.out.f.fr 4
  have fr5 := HA.out.f.fr 5
  have fs0 := HA.out.f.fs 0
  have fs1 := HA.out.f.fs 1
  have fs2 := HA.out.f.fs 2
  have fs3 := HA.out.f.fs 3
  have fs4 := HA.out.f.fs 4
  have fo0 := HA.out.f.fo 0
  have fo1 := HA.out.f.fo 1
  have fo2 := HA.out.f.fo 2
  have fo3 := HA.out.f.fo 3
  have fo4 := HA.out.f.fo 4
  have v0 := HA.out.v0
  have v1 := HA.out.v1
  have q1 := HA.out.q1
  dsimp only [Ans.of, noData] at a0 a1 a2 a3 o0 o1 o2 o3 o4
  rw [HN.out] at h5
  go_wp2_with fail
  refine (readOf_any A B _ c _ d block _ _ _ HA.out.st.now.1 HA.out.st.now.2 (by unfold maxLen; omega) (by unfold maxLen; omega) hb64).mono ?_
  rintro e w2 ⟨he, hb2⟩
  rw [ReadPost, HRR.out] at he
  subst he
  have HA2 := Lib.hid (HA.out.step hb2)
  clear hb2
  clear h0 h1 h2 h3 h4 h5 a0 a1 a2 a3 r0 r1 r2 r3 r4 r5 s0 s1 s2 s3 s4 o0 o1 o2 o3 o4 fh0 fr0 fh1 fr1 fh2 fr2 fh3 fr3 fh4 fr4 fh5 fr5 fs0 fo0 fs1 fo1 fs2 fo2 fs3 fo3 fs4 fo4 v0 v1 q1
  have h0 := HA2.out.f.h0
  have h1 := HA2.out.f.h1
  have h2 := HA2.out.f.h2
  have h3 := HA2.out.f.h3
  have h4 := HA2.out.f.h4
  have h5 := HA2.out.f.h5
  have a0 := HA2.out.f.a0
  have a1 := HA2.out.f.a1
  have a2 := HA2.out.f.a2
  have a3 := HA2.out.f.a3
  have r0 := HA2.out.f.r0
  have r1 := HA2.out.f.r1
  have r2 := HA2.out.f.r2
  have r3 := HA2.out.f.r3
  have r4 := HA2.out.f.r4
  have r5 := HA2.out.f.r5
  have s0 := HA2.out.f.s0
  have s1 := HA2.out.f.s1
  have s2 := HA2.out.f.s2
  have s3 := HA2.out.f.s3
  have s4 := HA2.out.f.s4
  have o0 := HA2.out.f.o0
  have o1 := HA2.out.f.o1
  have o2 := HA2.out.f.o2
  have o3 := HA2.out.f.o3
  have o4 := HA2.out.f.o4
  have fh0 := HA2.out.f.fh 0
  have fh1 := HA2.out.f.fh 1
  have fh2 := HA2.out.f.fh 2
  have fh3 := HA2.out.f.fh 3
  have fh4 := HA2.out.f.fh 4
  have fh5 := HA2.out.f.fh 5
  have fr0 := HA2.out.f.fr 0
  have fr1 := HA2.out.f.fr 1
  have fr2 := HA2.out.f.fr 2
  have fr3 := HA2.out.f.fr 3
  have fr4 := HA2.out.f.fr 4
  have fr5 := HA2.out.f.fr 5
  have fs0 := HA2.out.f.fs 0
  have fs1 := HA2.out.f.fs 1
  have fs2 := HA2.out.f.fs 2
  have fs3 := HA2.out.f.fs 3
  have fs4 := HA2.out.f.fs 4
  have fo0 := HA2.out.f.fo 0
  have fo1 := HA2.out.f.fo 1
  have fo2 := HA2.out.f.fo 2
  have fo3 := HA2.out.f.fo 3
  have fo4 := HA2.out.f.fo 4
  have v0 := HA2.out.v0
  have v1 := HA2.out.v1
  have q1 := HA2.out.q1
  dsimp only [Ans.of, noData] at a0 a1 a2 a3 o0 o1 o2 o3 o4
  rw [HN.out] at h5
  have HA3 : Hid (HAct w x H ⟨3, block, data, keep⟩ q A c B d (nowH H) ⟨k0, z0, 0, 0, 0⟩ _) := Lib.hid ((HA2.out.setData z0).setCode k0)
  go_wp2
  clear h0 h1 h2 h3 h4 h5 a0 a1 a2 a3 r0 r1 r2 r3 r4 r5 s0 s1 s2 s3 s4 o0 o1 o2 o3 o4 fh0 fr0 fh1 fr1 fh2 fr2 fh3 fr3 fh4 fr4 fh5 fr5 fs0 fo0 fs1 fo1 fs2 fo2 fs3 fo3 fs4 fo4 v0 v1 q1
  go_loopw [9] (fun t wr => ∃ (i : Nat) (z : ByteArray), i ≤ n ∧ t = .int .i64 i ∧ HAct w x H ⟨3, block, data, keep⟩ q A c B d (nowH H) ⟨k0, z, 0, 0, 0⟩ wr ∧ Hid (z = lastData block z0 (H.ws.take i))) (fun t _ => n - (intOf t).toNat)
  case atStart => exact ⟨0, z0, Nat.zero_le _, rfl, HA3.out, Lib.hid (by rw [List.take_zero]; rfl)⟩
  case round =>
    obtain ⟨i, z, hi, rfl, hal, hz⟩ := hrel
    have HAL := Lib.hid hal
    have hrl := (hal.rep HREP.out wr (Touch.refl _ _)).l
    rw [HN.out] at hrl
    clear hal
    have h0 := HAL.out.f.h0
    have h1 := HAL.out.f.h1
    have h2 := HAL.out.f.h2
    have h3 := HAL.out.f.h3
    have h4 := HAL.out.f.h4
    have h5 := HAL.out.f.h5
    have a0 := HAL.out.f.a0
    have a1 := HAL.out.f.a1
    have a2 := HAL.out.f.a2
    have a3 := HAL.out.f.a3
    have r0 := HAL.out.f.r0
    have r1 := HAL.out.f.r1
    have r2 := HAL.out.f.r2
    have r3 := HAL.out.f.r3
    have r4 := HAL.out.f.r4
    have r5 := HAL.out.f.r5
    have s0 := HAL.out.f.s0
    have s1 := HAL.out.f.s1
    have s2 := HAL.out.f.s2
    have s3 := HAL.out.f.s3
    have s4 := HAL.out.f.s4
    have o0 := HAL.out.f.o0
    have o1 := HAL.out.f.o1
    have o2 := HAL.out.f.o2
    have o3 := HAL.out.f.o3
    have o4 := HAL.out.f.o4
    have fh0 := HAL.out.f.fh 0
    have fh1 := HAL.out.f.fh 1
    have fh2 := HAL.out.f.fh 2
    have fh3 := HAL.out.f.fh 3
    have fh4 := HAL.out.f.fh 4
    have fh5 := HAL.out.f.fh 5
    have fr0 := HAL.out.f.fr 0
    have fr1 := HAL.out.f.fr 1
    have fr2 := HAL.out.f.fr 2
    have fr3 := HAL.out.f.fr 3
    have fr4 := HAL.out.f.fr 4
    have fr5 := HAL.out.f.fr 5
    have fs0 := HAL.out.f.fs 0
    have fs1 := HAL.out.f.fs 1
    have fs2 := HAL.out.f.fs 2
    have fs3 := HAL.out.f.fs 3
    have fs4 := HAL.out.f.fs 4
    have fo0 := HAL.out.f.fo 0
    have fo1 := HAL.out.f.fo 1
    have fo2 := HAL.out.f.fo 2
    have fo3 := HAL.out.f.fo 3
    have fo4 := HAL.out.f.fo 4
    have v0 := HAL.out.v0
    have v1 := HAL.out.v1
    have q1 := HAL.out.q1
    dsimp only [Ans.of, noData] at a0 a1 a2 a3 o0 o1 o2 o3 o4
    rw [HN.out] at h5
    by_cases hlt : i < n
    · have hil : i < H.ws.length := by have := HN.out; omega
      obtain ⟨b, off, hAL, _, c0, c1⟩ := writes_at (k := i) hrl hlt
      rw [hAL] at h5
      have hnext := lastData_snoc block z0 H.ws hil
      obtain ⟨y, hy⟩ : ∃ y, H.ws[i]'hil = y := ⟨_, rfl⟩
      rw [hy] at c0 c1 hnext
      obtain ⟨xb, xd⟩ := y
      dsimp only at c0 c1 hnext
      by_cases hxb : xb = block
      · rw [if_pos hxb] at hnext
        have HNX := Lib.hid hnext.symm
        have d1 : (xb == block) = true := by simp [hxb]
        have HXB := Lib.hid hxb
        clear hnext hy hAL hrl hz hxb
        go_wp2
        go_quiet (fail)
        go_wp2
        go_roundw
        case rel => exact ⟨i + 1, xd, by omega, by go_num, (HAL.out.step (below_drewN (Below.refl _ _) _)).setData xd, HNX⟩
        case measure => simp [intOf]; omega
      · rw [if_neg hxb, ← hz.out] at hnext
        have HNX := Lib.hid hnext.symm
        have d1 : (xb == block) = false := by simp [hxb]
        have HXB := Lib.hid hxb
        clear hnext hy hAL hrl hz hxb
        go_wp2
        go_quiet (fail)
        go_wp2
        go_roundw
        case rel => exact ⟨i + 1, z, by omega, by go_num, HAL.out.step (below_drewN (Below.refl _ _) _), HNX⟩
        case measure => simp [intOf]; omega
    · have hfin : lastData block z0 H.ws = z := by rw [hz.out, List.take_of_length_le (by have := HN.out; omega)]
      have HFIN := Lib.hid hfin
      clear hfin hz hrl
      go_wp2
      go_region
      all_goals
        go_wp2
        refine bodyPost_ret (v := .tuple #[.agg #[.slice x.A0 H.base.1.length x.c0, .slice x.A1 H.base.2.length x.c1, .slice x.AD H.deals.length x.cd, .int .i64 H.last, .bool H.opened, .slice x.AL n x.cl], .agg #[.int .i64 k0, .string z, .int .i64 0, .int .i64 0, .int .i64 0]]) (by simp [results, Try.results62, go_sem, r0, r1, r2, r3, r4, r5, s0, s1, s2, s3, s4]) rfl ?_
        refine ActedPost.of HAL.out ?_ x (by unfold houseV ansV; simp only [HN.out, HFIN.out]) ?_ HRLT.out
        · ((repeat (with_reducible first | exact Touch.refl _ _ | refine Touch.setC ?_ _ ?_ _ | refine Touch.drawC ?_ _ | refine Touch.drawO ?_)) <;> (dsimp only [ActR]; omega))
        · exact fun W' hT => HAL.out.repS HSTY.out W' hT
end Go.Proofs.Ytphbebcbbfbgpab
