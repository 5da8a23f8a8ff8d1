/- The engine's act. The engine's act: each kind. -/
import Derived.Test.YtphbebcbbfbgpacDoorEngCrashed
import Derived.Deep.Cut
namespace Go.Proofs.YtphbebcbbfbgpacDoor
open Go Go.RowKit
set_option linter.unusedSimpArgs false
set_option linter.unusedVariables false

def actV (a : Acn) : Value := .agg #[.int .i64 a.kind, .int .i64 a.block, .string a.data, .int .i64 a.keep]
def ansV (x : Ans) : Value := .agg #[.int .i64 x.code, .string x.data, .int .i64 x.items, .int .i64 x.log, .int .i64 x.count]

section
variable {B g : Nat} {E : Eng} {A0 A1 A2 A3 A7 : Option Addr} {c0 c1 c2 c3 c7 : Nat} {w : World}
theorem EngF.opens (h : EngF B g E ⟨A0, c0, A1, c1, A2, c2, A3, c3, A7, c7⟩ w) :
    EngF B g { E with opened := true } ⟨A0, c0, A1, c1, A2, c2, A3, c3, A7, c7⟩ (w.setCell ⟨g, 6, none⟩ (.bool true)) := by
  obtain ⟨k0, k1, k2, k3, k4, k5, k6, k7, fz, tg, gb, gs, o0, o1, o2, o3, o7, n0, n1, n2, n3, n7⟩ := h
  dsimp only at k0 k1 k2 k3 k4 k5 k6 k7
  have h : EngF B g E ⟨A0, c0, A1, c1, A2, c2, A3, c3, A7, c7⟩ w := ⟨k0, k1, k2, k3, k4, k5, k6, k7, fz, tg, gb, gs, o0, o1, o2, o3, o7, n0, n1, n2, n3, n7⟩
  refine h.set (Touch.setCell (R := fun k => k = g) ⟨g, 6, none⟩ rfl _) ?_ ?_ ?_ ?_ ?_ ?_ ?_ ?_ ?_ ?_ o0 o1 o2 o3 o7
  all_goals first
    | exact tg.setCell _ _
    | (intro i; simp)
    | simp [go_sem, k0, k1, k2, k3, k4, k5, k6, k7]
theorem EngF.flush (h : EngF B g E ⟨A0, c0, A1, c1, A2, c2, A3, c3, A7, c7⟩ w) :
    EngF B g { E with log := E.log ++ E.pend, pend := [] } ⟨A0, c0, A1, c1, A2, c2, A3, c3, A7, c7⟩ ((w.setCell ⟨g, 4, none⟩ (.string (bstr E.log ++ bstr E.pend))).setCell ⟨g, 5, none⟩ (.string ⟨#[]⟩)) := by
  obtain ⟨k0, k1, k2, k3, k4, k5, k6, k7, fz, tg, gb, gs, o0, o1, o2, o3, o7, n0, n1, n2, n3, n7⟩ := h
  dsimp only at k0 k1 k2 k3 k4 k5 k6 k7
  have h : EngF B g E ⟨A0, c0, A1, c1, A2, c2, A3, c3, A7, c7⟩ w := ⟨k0, k1, k2, k3, k4, k5, k6, k7, fz, tg, gb, gs, o0, o1, o2, o3, o7, n0, n1, n2, n3, n7⟩
  have hb := bstr_append E.log E.pend
  refine h.set ((Touch.setCell (R := fun k => k = g) ⟨g, 4, none⟩ rfl _).trans (Touch.setCell (R := fun k => k = g) ⟨g, 5, none⟩ rfl _)) ?_ ?_ ?_ ?_ ?_ ?_ ?_ ?_ ?_ ?_ o0 o1 o2 o3 o7
  all_goals first
    | exact (tg.setCell _ _).setCell _ _
    | (intro i; simp)
    | (simp [go_sem, k0, k1, k2, k3, k4, k5, k6, k7, hb]; done)
    | (simp [go_sem, k0, k1, k2, k3, k4, k5, k6, k7]; rfl)
end

/-- What stands in the three blocks that act lays: the act, the result's place, the answer in the making. -/
structure ActF (w : World) (a : Acn) (W : World) : Prop where
  a0 : W.cell? ⟨w.heap.size, 0, none⟩ = some (.int .i64 a.kind)
  a1 : W.cell? ⟨w.heap.size, 1, none⟩ = some (.int .i64 a.block)
  a2 : W.cell? ⟨w.heap.size, 2, none⟩ = some (.string a.data)
  a3 : W.cell? ⟨w.heap.size, 3, none⟩ = some (.int .i64 a.keep)
  r0 : W.cell? ⟨w.heap.size + 1, 0, none⟩ = some (.int .i64 0)
  r1 : W.cell? ⟨w.heap.size + 1, 1, none⟩ = some (.string ⟨#[]⟩)
  r2 : W.cell? ⟨w.heap.size + 1, 2, none⟩ = some (.int .i64 0)
  r3 : W.cell? ⟨w.heap.size + 1, 3, none⟩ = some (.int .i64 0)
  r4 : W.cell? ⟨w.heap.size + 1, 4, none⟩ = some (.int .i64 0)
  o0 : W.cell? ⟨w.heap.size + 1 + 1, 0, none⟩ = some (.int .i64 0)
  o1 : W.cell? ⟨w.heap.size + 1 + 1, 1, none⟩ = some (.string ⟨#[]⟩)
  o2 : W.cell? ⟨w.heap.size + 1 + 1, 2, none⟩ = some (.int .i64 0)
  o3 : W.cell? ⟨w.heap.size + 1 + 1, 3, none⟩ = some (.int .i64 0)
  o4 : W.cell? ⟨w.heap.size + 1 + 1, 4, none⟩ = some (.int .i64 0)
  fr : ∀ i, W.frozen? ⟨w.heap.size + 1, i, none⟩ = false
  fo : ∀ i, W.frozen? ⟨w.heap.size + 1 + 1, i, none⟩ = false
  sz : w.heap.size + 1 + 1 < W.heap.size
theorem ActF.touch {w W W' : World} {a : Acn} {R : Nat → Prop} (h : ActF w a W) (hT : Touch R W W') (hR : ∀ k, R k → k < w.heap.size) : ActF w a W' := by
  have hs := h.sz
  have h0 : ∀ i, W'.cell? ⟨w.heap.size, i, none⟩ = W.cell? ⟨w.heap.size, i, none⟩ := fun i => hT.cell (by dsimp only; omega) (fun r => by have := hR _ r; dsimp only at this; omega)
  have h1 : ∀ i, W'.cell? ⟨w.heap.size + 1, i, none⟩ = W.cell? ⟨w.heap.size + 1, i, none⟩ := fun i => hT.cell (by dsimp only; omega) (fun r => by have := hR _ r; dsimp only at this; omega)
  have h2 : ∀ i, W'.cell? ⟨w.heap.size + 1 + 1, i, none⟩ = W.cell? ⟨w.heap.size + 1 + 1, i, none⟩ := fun i => hT.cell (by dsimp only; omega) (fun r => by have := hR _ r; dsimp only at this; omega)
  have g1 : ∀ i, W'.frozen? ⟨w.heap.size + 1, i, none⟩ = W.frozen? ⟨w.heap.size + 1, i, none⟩ := fun i => hT.frozen (by dsimp only; omega) (fun r => by have := hR _ r; dsimp only at this; omega)
  have g2 : ∀ i, W'.frozen? ⟨w.heap.size + 1 + 1, i, none⟩ = W.frozen? ⟨w.heap.size + 1 + 1, i, none⟩ := fun i => hT.frozen (by dsimp only; omega) (fun r => by have := hR _ r; dsimp only at this; omega)
  exact ⟨(h0 _).trans h.a0, (h0 _).trans h.a1, (h0 _).trans h.a2, (h0 _).trans h.a3, (h1 _).trans h.r0, (h1 _).trans h.r1, (h1 _).trans h.r2, (h1 _).trans h.r3, (h1 _).trans h.r4, (h2 _).trans h.o0, (h2 _).trans h.o1, (h2 _).trans h.o2, (h2 _).trans h.o3, (h2 _).trans h.o4,
    fun i => (g1 i).trans (h.fr i), fun i => (g2 i).trans (h.fo i), Nat.lt_of_lt_of_le hs hT.size⟩
theorem ActF.new (w : World) (a : Acn) : ActF w a (((w.alloc (.cells #[.int .i64 a.kind, .int .i64 a.block, .string a.data, .int .i64 a.keep] 36)).alloc (.cells #[.int .i64 0, .string ⟨#[]⟩, .int .i64 0, .int .i64 0, .int .i64 0] 39)).alloc (.cells #[.int .i64 0, .string ⟨#[]⟩, .int .i64 0, .int .i64 0, .int .i64 0] 39)) := by
  constructor
  all_goals first
    | (simp [go_sem]; done)
    | (intro i; simp [go_sem]; done)
    | (simp; omega)
theorem engR_lt {B g : Nat} {E : Eng} {S : SlotsE} {W : World} (h : EngF B g E S W) : ∀ k, engR g S k → k < W.heap.size := by
  intro k hk
  rcases hk with rfl | hk
  · exact h.gs
  · exact (h.o7.lt k ((ownBlock_len _ _ _ _ _).trans hk)).2
/-- an engine, and the two places of the answer, in act's call -/
def AE (B g : Nat) (E : Eng) (S : SlotsE) (w W : World) : Prop :=
  ∃ S', EngF B g E S' W ∧ IsCells W (w.heap.size + 1) 39 ∧ IsCells W (w.heap.size + 1 + 1) 39 ∧ Touch (engR g S) w W ∧ g < w.heap.size
section
variable {B g : Nat} {E : Eng} {S : SlotsE} {w W W' : World}
theorem EngF.farA {P : Nat} (h : EngF B g E S W) (tp : IsCells W P 39) (hne : g ≠ P) (hT : Touch (fun k => k = P) W W') : EngF B g E S W' :=
  h.far hne (fun r hr => own_not h.o0 tp (by decide) r ((ownBlock_len _ _ _ _ _).trans hr)) (fun r hr => own_not h.o1 tp (by decide) r ((ownBlock_len _ _ _ _ _).trans hr)) (fun r hr => own_not h.o2 tp (by decide) r ((ownBlock_len _ _ _ _ _).trans hr))
    (fun r hr => own_not h.o3 tp (by decide) r ((ownBlock_len _ _ _ _ _).trans hr)) (fun r hr => own_not h.o7 tp (by decide) r ((ownBlock_len _ _ _ _ _).trans hr)) hT
theorem AE.res (h : AE B g E S w W) (i : Nat) (v : Value) : AE B g E S w (W.setCell ⟨w.heap.size + 1, i, none⟩ v) := by
  obtain ⟨S', h1, h2, h3, h4, h5⟩ := h
  exact ⟨S', h1.farA h2 (by omega) (Touch.setCell (R := fun k => k = w.heap.size + 1) ⟨w.heap.size + 1, i, none⟩ rfl v), h2.setCell _ _, h3.setCell _ _, h4.setNew _ (by dsimp only; omega) _, h5⟩
theorem AE.out (h : AE B g E S w W) (i : Nat) (v : Value) : AE B g E S w (W.setCell ⟨w.heap.size + 1 + 1, i, none⟩ v) := by
  obtain ⟨S', h1, h2, h3, h4, h5⟩ := h
  exact ⟨S', h1.farA h3 (by omega) (Touch.setCell (R := fun k => k = w.heap.size + 1 + 1) ⟨w.heap.size + 1 + 1, i, none⟩ rfl v), h2.setCell _ _, h3.setCell _ _, h4.setNew _ (by dsimp only; omega) _, h5⟩
theorem AE.step (h : AE B g E S w W) (hb : Below W.heap.size W W') : AE B g E S w W' := by
  obtain ⟨S', h1, h2, h3, h4, h5⟩ := h
  exact ⟨S', h1.step hb, h2.below hb, h3.below hb, h4.trans (Touch.below hb), h5⟩
theorem AE.drewN (h : AE B g E S w W) (n : Nat) : AE B g E S w (W.drewN n) := h.step (below_drewN (Below.refl _ _) _)
theorem AE.drew (h : AE B g E S w W) : AE B g E S w W.drew := h.step (Below.refl _ _).drew
theorem AE.post (h : AE B g E S w W) (v : Value) : EngPost B g E S w v (.returned v) W := by
  obtain ⟨S', h1, _, _, h4, _⟩ := h
  exact ⟨rfl, S', h1, h4⟩
/-- behind a method's call on the engine -/
theorem AE.call {E' : Eng} {S1 : SlotsE} (h1 : EngF B g E S1 W) (tr : IsCells W (w.heap.size + 1) 39) (to : IsCells W (w.heap.size + 1 + 1) 39) (hT : Touch (engR g S) w W) (hg : g < w.heap.size) (hR : ∀ k, engR g S1 k → k < w.heap.size) (hRS : ∀ k, engR g S1 k → engR g S k)
    {S2 : SlotsE} (h2 : EngF B g E' S2 W') (hT2 : Touch (engR g S1) W W') : AE B g E' S w W' :=
  ⟨S2, h2, tr.touch hT2 (fun r => by have := hR _ r; omega), to.touch hT2 (fun r => by have := hR _ r; omega), hT.trans (hT2.mono (fun k _ hk => hRS k hk)), hg⟩
end
/-- the world in which act begins its switch -/
structure ActW (B g : Nat) (E : Eng) (S : SlotsE) (w : World) (a : Acn) (W : World) : Prop where
  af : ActF w a W
  ef : EngF B g E S W
  tr : IsCells W (w.heap.size + 1) 39
  to : IsCells W (w.heap.size + 1 + 1) 39
  be : Below w.heap.size w W
  gs : g < w.heap.size
  rl : ∀ k, engR g S k → k < w.heap.size
theorem ActW.new {B g : Nat} {E : Eng} {S : SlotsE} {w : World} (a : Acn) (h : EngF B g E S w) : ActW B g E S w a (((w.alloc (.cells #[.int .i64 a.kind, .int .i64 a.block, .string a.data, .int .i64 a.keep] 36)).alloc (.cells #[.int .i64 0, .string ⟨#[]⟩, .int .i64 0, .int .i64 0, .int .i64 0] 39)).alloc (.cells #[.int .i64 0, .string ⟨#[]⟩, .int .i64 0, .int .i64 0, .int .i64 0] 39)) := by
  have hb : Below w.heap.size w (((w.alloc (.cells #[.int .i64 a.kind, .int .i64 a.block, .string a.data, .int .i64 a.keep] 36)).alloc (.cells #[.int .i64 0, .string ⟨#[]⟩, .int .i64 0, .int .i64 0, .int .i64 0] 39)).alloc (.cells #[.int .i64 0, .string ⟨#[]⟩, .int .i64 0, .int .i64 0, .int .i64 0] 39)) :=
    (((Below.refl _ _).alloc (Nat.le_refl _) _).alloc (by simp) _).alloc (by simp; omega) _
  refine ⟨ActF.new w a, h.step hb, ?_, ?_, hb, h.gs, engR_lt h⟩
  · have h1 := IsCells.new (w.alloc (.cells #[.int .i64 a.kind, .int .i64 a.block, .string a.data, .int .i64 a.keep] 36)) #[.int .i64 0, .string ⟨#[]⟩, .int .i64 0, .int .i64 0, .int .i64 0] 39
    have h2 := h1.below ((Below.refl _ _).alloc (Nat.le_refl _) (.cells #[.int .i64 0, .string ⟨#[]⟩, .int .i64 0, .int .i64 0, .int .i64 0] 39))
    rwa [World.size_alloc] at h2
  · have h1 := IsCells.new ((w.alloc (.cells #[.int .i64 a.kind, .int .i64 a.block, .string a.data, .int .i64 a.keep] 36)).alloc (.cells #[.int .i64 0, .string ⟨#[]⟩, .int .i64 0, .int .i64 0, .int .i64 0] 39)) #[.int .i64 0, .string ⟨#[]⟩, .int .i64 0, .int .i64 0, .int .i64 0] 39
    rwa [World.size_alloc, World.size_alloc] at h1
theorem ActW.ae {B g : Nat} {E E' : Eng} {S S2 : SlotsE} {w W W' : World} {a : Acn} (h : ActW B g E S w a W) (h2 : EngF B g E' S2 W') (hT2 : Touch (engR g S) W W') : AE B g E' S w W' :=
  AE.call h.ef h.tr h.to (Touch.below h.be) h.gs h.rl (fun _ hk => hk) h2 hT2
theorem ActW.same {B g : Nat} {E : Eng} {S : SlotsE} {w W : World} {a : Acn} (h : ActW B g E S w a W) : AE B g E S w W := h.ae h.ef (Touch.refl _ _)
end Go.Proofs.YtphbebcbbfbgpacDoor

namespace Go.Proofs.YtphbebcbbfbgpacDoor
open Go Go.RowKit
set_option linter.unusedSimpArgs false
set_option linter.unusedVariables false

section
variable {B g : Nat} {E : Eng} {S : SlotsE} {w W W' : World}
theorem AE.closed (h : AE B g E S w W) : AE B g { E with opened := false, ws := [] } S w ((W.setCell ⟨g, 6, none⟩ (.bool false)).setCell ⟨g, 7, none⟩ (.slice none 0 0)) := by
  obtain ⟨⟨A0, c0, A1, c1, A2, c2, A3, c3, A7, c7⟩, h1, h2, h3, h4, h5⟩ := h
  exact ⟨_, h1.closed, (h2.setCell _ _).setCell _ _, (h3.setCell _ _).setCell _ _, (h4.trans (Touch.setCell ⟨g, 6, none⟩ (.inl rfl) _)).trans (Touch.setCell ⟨g, 7, none⟩ (.inl rfl) _), h5⟩
theorem AE.flush (h : AE B g E S w W) : AE B g { E with log := E.log ++ E.pend, pend := [] } S w ((W.setCell ⟨g, 4, none⟩ (.string (bstr E.log ++ bstr E.pend))).setCell ⟨g, 5, none⟩ (.string ⟨#[]⟩)) := by
  obtain ⟨⟨A0, c0, A1, c1, A2, c2, A3, c3, A7, c7⟩, h1, h2, h3, h4, h5⟩ := h
  exact ⟨_, h1.flush, (h2.setCell _ _).setCell _ _, (h3.setCell _ _).setCell _ _, (h4.trans (Touch.setCell ⟨g, 4, none⟩ (.inl rfl) _)).trans (Touch.setCell ⟨g, 5, none⟩ (.inl rfl) _), h5⟩
theorem AE.mark {A A' : Option Addr} {c c' : Nat} (h : AE B g E S w W) (o2 : W.ownsRow B 42 3 (.slice A E.v.1.length c) E.v.1.length (flat Itm.cell 3 E.v.1)) (o3 : W.ownsRow B 3 1 (.slice A' E.v.2.length c') E.v.2.length (flat intCell 1 E.v.2)) :
    AE B g { E with base := E.v, log := [], pend := [] } S w ((((W.setCell ⟨g, 2, none⟩ (.slice A E.v.1.length c)).setCell ⟨g, 3, none⟩ (.slice A' E.v.2.length c')).setCell ⟨g, 4, none⟩ (.string ⟨#[]⟩)).setCell ⟨g, 5, none⟩ (.string ⟨#[]⟩)) := by
  obtain ⟨⟨A0, c0, A1, c1, A2, c2, A3, c3, A7, c7⟩, h1, h2, h3, h4, h5⟩ := h
  refine ⟨⟨A0, c0, A1, c1, A, c, A', c', A7, c7⟩, ?_, (((h2.setCell _ _).setCell _ _).setCell _ _).setCell _ _, (((h3.setCell _ _).setCell _ _).setCell _ _).setCell _ _, (((h4.trans (Touch.setCell ⟨g, 2, none⟩ (.inl rfl) _)).trans (Touch.setCell ⟨g, 3, none⟩ (.inl rfl) _)).trans (Touch.setCell ⟨g, 4, none⟩ (.inl rfl) _)).trans (Touch.setCell ⟨g, 5, none⟩ (.inl rfl) _), h5⟩
  obtain ⟨k0, k1, k2, k3, k4, k5, k6, k7, fz, tg, gb, gs, p0, p1, p2, p3, p7, n0, n1, n2, n3, n7⟩ := h1
  dsimp only at k0 k1 k2 k3 k4 k5 k6 k7
  have h : EngF B g E ⟨A0, c0, A1, c1, A2, c2, A3, c3, A7, c7⟩ W := ⟨k0, k1, k2, k3, k4, k5, k6, k7, fz, tg, gb, gs, p0, p1, p2, p3, p7, n0, n1, n2, n3, n7⟩
  refine h.set ((((Touch.setCell (R := fun k => k = g) ⟨g, 2, none⟩ rfl _).trans (Touch.setCell (R := fun k => k = g) ⟨g, 3, none⟩ rfl _)).trans (Touch.setCell (R := fun k => k = g) ⟨g, 4, none⟩ rfl _)).trans (Touch.setCell (R := fun k => k = g) ⟨g, 5, none⟩ rfl _)) ?_ ?_ ?_ ?_ ?_ ?_ ?_ ?_ ?_ ?_ p0 p1 o2 o3 p7
  all_goals first
    | exact (((tg.setCell _ _).setCell _ _).setCell _ _).setCell _ _
    | (intro i; simp; done)
    | (simp [go_sem, k0, k1, k2, k3, k4, k5, k6, k7]; done)
    | (simp [go_sem, k0, k1, k2, k3, k4, k5, k6, k7]; rfl)
end

set_option maxRecDepth 100000 in
set_option maxHeartbeats 2000000 in
theorem act_begin (B g : Nat) (E : Eng) (S : SlotsE) (a : Acn) (w : World) (h : EngF B g E S w) (hk : a.kind = 1) :
    Calls Tryd.prog 45 #[.pointer (some ⟨g, 0, none⟩), actV a] w (EngPost B g (actE E a).1 S w (ansV (actE E a).2)) := by
  obtain ⟨A0, c0, A1, c1, A2, c2, A3, c3, A7, c7⟩ := S
  obtain ⟨kind, block, data, keep⟩ := a
  dsimp only at hk
  subst hk
  have HAW := Lib.hid (ActW.new ⟨1, block, data, keep⟩ h)
  unfold actV ansV
  cases ho : E.opened with
  | true =>
    have e : actE E ⟨1, block, data, keep⟩ = (E, Ans.of 7) := by rw [actE, if_pos rfl, if_pos ho]
    rw [e]
    have HO := Lib.hid ho
    clear e ho h
    dsimp only [Ans.of]
    go_enter Tryd.func45, Tryd.ntmps45
    go_upto_region 2 with (fail)
    obtain ⟨W, hW⟩ : ∃ W, W = (((w.alloc (.cells #[.int .i64 1, .int .i64 block, .string data, .int .i64 keep] 36)).alloc (.cells #[.int .i64 0, .string ⟨#[]⟩, .int .i64 0, .int .i64 0, .int .i64 0] 39)).alloc (.cells #[.int .i64 0, .string ⟨#[]⟩, .int .i64 0, .int .i64 0, .int .i64 0] 39)) := ⟨_, rfl⟩
    have haw := HAW.out
    rw [← hW] at haw ⊢
    have HW := Lib.hid haw
    have a0 := haw.af.a0
    have a1 := haw.af.a1
    have a2 := haw.af.a2
    have a3 := haw.af.a3
    have r0 := haw.af.r0
    have r1 := haw.af.r1
    have r2 := haw.af.r2
    have r3 := haw.af.r3
    have r4 := haw.af.r4
    have o0 := haw.af.o0
    have o1 := haw.af.o1
    have o2 := haw.af.o2
    have o3 := haw.af.o3
    have o4 := haw.af.o4
    have y0 := haw.af.fr 0
    have y1 := haw.af.fr 1
    have y2 := haw.af.fr 2
    have y3 := haw.af.fr 3
    have y4 := haw.af.fr 4
    have x0 := haw.af.fo 0
    have x1 := haw.af.fo 1
    have x2 := haw.af.fo 2
    have x3 := haw.af.fo 3
    have x4 := haw.af.fo 4
    have gs := haw.gs
    have hne0 : ¬ g = w.heap.size := by omega
    have hne1 : ¬ g = w.heap.size + 1 := by omega
    have hne2 : ¬ g = w.heap.size + 1 + 1 := by omega
    have hnf0 : ¬ w.heap.size = g := by omega
    have hnf1 : ¬ w.heap.size + 1 = g := by omega
    have hnf2 : ¬ w.heap.size + 1 + 1 = g := by omega
    dsimp only at a0 a1 a2 a3
    clear haw hW
    have k6 := HW.out.ef.k6
    rw [HO.out] at k6
    have HAE := Lib.hid HW.out.same
    go_wp2
    refine bodyPost_ret (v := .agg #[.int .i64 7, .string ⟨#[]⟩, .int .i64 0, .int .i64 0, .int .i64 0]) (by simp [results, Tryd.results45, go_sem, r0, r1, r2, r3, r4]) rfl ?_
    refine AE.post ?_ _
    repeat (first | (with_reducible exact HAE.out) | (with_reducible refine AE.res ?_ _ _) | (with_reducible refine AE.out ?_ _ _) | (with_reducible refine AE.drewN ?_ _) | (with_reducible refine AE.drew ?_))
  | false =>
    have e : actE E ⟨1, block, data, keep⟩ = ({ E with opened := true }, Ans.of 0) := by rw [actE, if_pos rfl, ho]; rfl
    rw [e]
    have HO := Lib.hid ho
    clear e ho h
    dsimp only [Ans.of]
    go_enter Tryd.func45, Tryd.ntmps45
    go_upto_region 2 with (fail)
    obtain ⟨W, hW⟩ : ∃ W, W = (((w.alloc (.cells #[.int .i64 1, .int .i64 block, .string data, .int .i64 keep] 36)).alloc (.cells #[.int .i64 0, .string ⟨#[]⟩, .int .i64 0, .int .i64 0, .int .i64 0] 39)).alloc (.cells #[.int .i64 0, .string ⟨#[]⟩, .int .i64 0, .int .i64 0, .int .i64 0] 39)) := ⟨_, rfl⟩
    have haw := HAW.out
    rw [← hW] at haw ⊢
    have HW := Lib.hid haw
    have a0 := haw.af.a0
    have a1 := haw.af.a1
    have a2 := haw.af.a2
    have a3 := haw.af.a3
    have r0 := haw.af.r0
    have r1 := haw.af.r1
    have r2 := haw.af.r2
    have r3 := haw.af.r3
    have r4 := haw.af.r4
    have o0 := haw.af.o0
    have o1 := haw.af.o1
    have o2 := haw.af.o2
    have o3 := haw.af.o3
    have o4 := haw.af.o4
    have y0 := haw.af.fr 0
    have y1 := haw.af.fr 1
    have y2 := haw.af.fr 2
    have y3 := haw.af.fr 3
    have y4 := haw.af.fr 4
    have x0 := haw.af.fo 0
    have x1 := haw.af.fo 1
    have x2 := haw.af.fo 2
    have x3 := haw.af.fo 3
    have x4 := haw.af.fo 4
    have gs := haw.gs
    have hne0 : ¬ g = w.heap.size := by omega
    have hne1 : ¬ g = w.heap.size + 1 := by omega
    have hne2 : ¬ g = w.heap.size + 1 + 1 := by omega
    have hnf0 : ¬ w.heap.size = g := by omega
    have hnf1 : ¬ w.heap.size + 1 = g := by omega
    have hnf2 : ¬ w.heap.size + 1 + 1 = g := by omega
    dsimp only at a0 a1 a2 a3
    clear haw hW
    have k6 := HW.out.ef.k6
    have z6 := HW.out.ef.fz 6
    rw [HO.out] at k6
    have HAE := Lib.hid (HW.out.ae HW.out.ef.opens (Touch.setCell (R := engR g ⟨A0, c0, A1, c1, A2, c2, A3, c3, A7, c7⟩) ⟨g, 6, none⟩ (.inl rfl) _))
    go_wp2
    refine bodyPost_ret (v := .agg #[.int .i64 0, .string ⟨#[]⟩, .int .i64 0, .int .i64 0, .int .i64 0]) (by simp [results, Tryd.results45, go_sem, r0, r1, r2, r3, r4]) rfl ?_
    refine AE.post ?_ _
    repeat (first | (with_reducible exact HAE.out) | (with_reducible refine AE.res ?_ _ _) | (with_reducible refine AE.out ?_ _ _) | (with_reducible refine AE.drewN ?_ _) | (with_reducible refine AE.drew ?_))

set_option maxRecDepth 100000 in
set_option maxHeartbeats 2000000 in
theorem act_put (B g : Nat) (E : Eng) (S : SlotsE) (a : Acn) (w : World) (h : EngF B g E S w) (hG : GoodE E) (hb : i64Ok a.block) (hd : a.data.size ≤ maxLen) (hk : a.kind = 2) :
    Calls Tryd.prog 45 #[.pointer (some ⟨g, 0, none⟩), actV a] w (EngPost B g (actE E a).1 S w (ansV (actE E a).2)) := by
  obtain ⟨A0, c0, A1, c1, A2, c2, A3, c3, A7, c7⟩ := S
  obtain ⟨kind, block, data, keep⟩ := a
  dsimp only at hk
  subst hk
  have HAW := Lib.hid (ActW.new ⟨2, block, data, keep⟩ h)
  unfold actV ansV
  have e : actE E ⟨2, block, data, keep⟩ = ((putE E block data).1, Ans.of (putE E block data).2) := by rw [actE, if_neg (by simp), if_pos rfl]
  rw [e]
  dsimp only [Ans.of] at hb hd ⊢
  have hp := fun (W : World) (S : SlotsE) (hW : EngF B g E S W) => put_any B g E S block data W hW hG hb hd
  obtain ⟨E', z, hz⟩ : ∃ E' z, putE E block data = (E', z) := ⟨_, _, rfl⟩
  rw [hz] at hp ⊢
  have HP := Lib.hid hp
  clear e h hp hz hG hb hd
  go_enter Tryd.func45, Tryd.ntmps45
  go_upto_region 2 with (fail)
  obtain ⟨W, hW⟩ : ∃ W, W = (((w.alloc (.cells #[.int .i64 2, .int .i64 block, .string data, .int .i64 keep] 36)).alloc (.cells #[.int .i64 0, .string ⟨#[]⟩, .int .i64 0, .int .i64 0, .int .i64 0] 39)).alloc (.cells #[.int .i64 0, .string ⟨#[]⟩, .int .i64 0, .int .i64 0, .int .i64 0] 39)) := ⟨_, rfl⟩
  have haw := HAW.out
  rw [← hW] at haw ⊢
  have HW := Lib.hid haw
  have a0 := haw.af.a0
  have a1 := haw.af.a1
  have a2 := haw.af.a2
  have a3 := haw.af.a3
  have r0 := haw.af.r0
  have r1 := haw.af.r1
  have r2 := haw.af.r2
  have r3 := haw.af.r3
  have r4 := haw.af.r4
  have o0 := haw.af.o0
  have o1 := haw.af.o1
  have o2 := haw.af.o2
  have o3 := haw.af.o3
  have o4 := haw.af.o4
  have y0 := haw.af.fr 0
  have y1 := haw.af.fr 1
  have y2 := haw.af.fr 2
  have y3 := haw.af.fr 3
  have y4 := haw.af.fr 4
  have x0 := haw.af.fo 0
  have x1 := haw.af.fo 1
  have x2 := haw.af.fo 2
  have x3 := haw.af.fo 3
  have x4 := haw.af.fo 4
  have gs := haw.gs
  have hne0 : ¬ g = w.heap.size := by omega
  have hne1 : ¬ g = w.heap.size + 1 := by omega
  have hne2 : ¬ g = w.heap.size + 1 + 1 := by omega
  have hnf0 : ¬ w.heap.size = g := by omega
  have hnf1 : ¬ w.heap.size + 1 = g := by omega
  have hnf2 : ¬ w.heap.size + 1 + 1 = g := by omega
  dsimp only at a0 a1 a2 a3
  clear haw hW
  have hpw := HP.out W _ HW.out.ef
  have HPW := Lib.hid hpw
  clear hpw
  go_wp2_with fail
  refine HPW.out.mono ?_
  rintro e W2 ⟨rfl, S2, h2, hT2⟩
  have af2 := HW.out.af.touch hT2 HW.out.rl
  have p0 := af2.r0
  have p1 := af2.r1
  have p2 := af2.r2
  have p3 := af2.r3
  have p4 := af2.r4
  have q0 := af2.o0
  have q1 := af2.o1
  have q2 := af2.o2
  have q3 := af2.o3
  have q4 := af2.o4
  have w0 := af2.fr 0
  have w1' := af2.fr 1
  have w2' := af2.fr 2
  have w3' := af2.fr 3
  have w4' := af2.fr 4
  have v0 := af2.fo 0
  have v1 := af2.fo 1
  have v2 := af2.fo 2
  have v3 := af2.fo 3
  have v4 := af2.fo 4
  have HAE := Lib.hid (HW.out.ae h2 hT2)
  clear af2 hT2 h2 a0 a1 a2 a3 r0 r1 r2 r3 r4 o0 o1 o2 o3 o4 y0 y1 y2 y3 y4 x0 x1 x2 x3 x4
  go_wp2
  refine bodyPost_ret (v := .agg #[.int .i64 z, .string ⟨#[]⟩, .int .i64 0, .int .i64 0, .int .i64 0]) (by simp [results, Tryd.results45, go_sem, p0, p1, p2, p3, p4]) rfl ?_
  refine AE.post ?_ _
  repeat (first | (with_reducible exact HAE.out) | (with_reducible refine AE.res ?_ _ _) | (with_reducible refine AE.out ?_ _ _) | (with_reducible refine AE.drewN ?_ _) | (with_reducible refine AE.drew ?_))


set_option maxRecDepth 100000 in
set_option maxHeartbeats 2000000 in
theorem act_read (B g : Nat) (E : Eng) (S : SlotsE) (a : Acn) (w : World) (h : EngF B g E S w) (hG : GoodE E) (hb : i64Ok a.block) (hk : a.kind = 3) :
    Calls Tryd.prog 45 #[.pointer (some ⟨g, 0, none⟩), actV a] w (EngPost B g (actE E a).1 S w (ansV (actE E a).2)) := by
  obtain ⟨A0, c0, A1, c1, A2, c2, A3, c3, A7, c7⟩ := S
  obtain ⟨kind, block, data, keep⟩ := a
  dsimp only at hk
  subst hk
  have HAW := Lib.hid (ActW.new ⟨3, block, data, keep⟩ h)
  unfold actV ansV
  have e : actE E ⟨3, block, data, keep⟩ = (E, ⟨(readE E block).2, (readE E block).1, 0, 0, 0⟩) := by rw [actE, if_neg (by simp), if_neg (by simp), if_pos rfl]
  rw [e]
  dsimp only at hb ⊢
  have hp := fun (W : World) (S : SlotsE) (hW : EngF B g E S W) => engRead_any B g E S block W hW hG hb
  obtain ⟨s, z, hz⟩ : ∃ s z, readE E block = (s, z) := ⟨_, _, rfl⟩
  rw [hz] at hp ⊢
  have HP := Lib.hid hp
  clear e h hp hz hG hb
  go_enter Tryd.func45, Tryd.ntmps45
  go_upto_region 2 with (fail)
  obtain ⟨W, hW⟩ : ∃ W, W = (((w.alloc (.cells #[.int .i64 3, .int .i64 block, .string data, .int .i64 keep] 36)).alloc (.cells #[.int .i64 0, .string ⟨#[]⟩, .int .i64 0, .int .i64 0, .int .i64 0] 39)).alloc (.cells #[.int .i64 0, .string ⟨#[]⟩, .int .i64 0, .int .i64 0, .int .i64 0] 39)) := ⟨_, rfl⟩
  have haw := HAW.out
  rw [← hW] at haw ⊢
  have HW := Lib.hid haw
  have a0 := haw.af.a0
  have a1 := haw.af.a1
  have a2 := haw.af.a2
  have a3 := haw.af.a3
  have r0 := haw.af.r0
  have r1 := haw.af.r1
  have r2 := haw.af.r2
  have r3 := haw.af.r3
  have r4 := haw.af.r4
  have o0 := haw.af.o0
  have o1 := haw.af.o1
  have o2 := haw.af.o2
  have o3 := haw.af.o3
  have o4 := haw.af.o4
  have y0 := haw.af.fr 0
  have y1 := haw.af.fr 1
  have y2 := haw.af.fr 2
  have y3 := haw.af.fr 3
  have y4 := haw.af.fr 4
  have x0 := haw.af.fo 0
  have x1 := haw.af.fo 1
  have x2 := haw.af.fo 2
  have x3 := haw.af.fo 3
  have x4 := haw.af.fo 4
  have gs := haw.gs
  have hne0 : ¬ g = w.heap.size := by omega
  have hne1 : ¬ g = w.heap.size + 1 := by omega
  have hne2 : ¬ g = w.heap.size + 1 + 1 := by omega
  have hnf0 : ¬ w.heap.size = g := by omega
  have hnf1 : ¬ w.heap.size + 1 = g := by omega
  have hnf2 : ¬ w.heap.size + 1 + 1 = g := by omega
  dsimp only at a0 a1 a2 a3
  clear haw hW
  have hpw := HP.out W _ HW.out.ef
  have HPW := Lib.hid hpw
  clear hpw
  go_wp2_with fail
  refine HPW.out.mono ?_
  rintro e W2 ⟨rfl, S2, h2, hT2⟩
  have af2 := HW.out.af.touch hT2 HW.out.rl
  have p0 := af2.r0
  have p1 := af2.r1
  have p2 := af2.r2
  have p3 := af2.r3
  have p4 := af2.r4
  have q0 := af2.o0
  have q1 := af2.o1
  have q2 := af2.o2
  have q3 := af2.o3
  have q4 := af2.o4
  have w0 := af2.fr 0
  have w1' := af2.fr 1
  have w2' := af2.fr 2
  have w3' := af2.fr 3
  have w4' := af2.fr 4
  have v0 := af2.fo 0
  have v1 := af2.fo 1
  have v2 := af2.fo 2
  have v3 := af2.fo 3
  have v4 := af2.fo 4
  have HAE := Lib.hid (HW.out.ae h2 hT2)
  clear af2 hT2 h2 a0 a1 a2 a3 r0 r1 r2 r3 r4 o0 o1 o2 o3 o4 y0 y1 y2 y3 y4 x0 x1 x2 x3 x4
  go_wp2
  refine bodyPost_ret (v := .agg #[.int .i64 z, .string s, .int .i64 0, .int .i64 0, .int .i64 0]) (by simp [results, Tryd.results45, go_sem, p0, p1, p2, p3, p4]) rfl ?_
  refine AE.post ?_ _
  repeat (first | (with_reducible exact HAE.out) | (with_reducible refine AE.res ?_ _ _) | (with_reducible refine AE.out ?_ _ _) | (with_reducible refine AE.drewN ?_ _) | (with_reducible refine AE.drew ?_))


set_option maxRecDepth 100000 in
set_option maxHeartbeats 2000000 in
theorem act_commit (B g : Nat) (E : Eng) (S : SlotsE) (a : Acn) (w : World) (h : EngF B g E S w) (hG : GoodE E) (hk : a.kind = 4) :
    Calls Tryd.prog 45 #[.pointer (some ⟨g, 0, none⟩), actV a] w (EngPost B g (actE E a).1 S w (ansV (actE E a).2)) := by
  obtain ⟨A0, c0, A1, c1, A2, c2, A3, c3, A7, c7⟩ := S
  obtain ⟨kind, block, data, keep⟩ := a
  dsimp only at hk
  subst hk
  have HAW := Lib.hid (ActW.new ⟨4, block, data, keep⟩ h)
  unfold actV ansV
  have e : actE E ⟨4, block, data, keep⟩ = ((commitE E).1, Ans.of (commitE E).2) := by rw [actE, if_neg (by simp), if_neg (by simp), if_neg (by simp), if_pos rfl]
  rw [e]
  dsimp only [Ans.of]
  have hp := fun (W : World) (S : SlotsE) (hW : EngF B g E S W) => commit_any B g E S W hW hG
  obtain ⟨E', z, hz⟩ : ∃ E' z, commitE E = (E', z) := ⟨_, _, rfl⟩
  rw [hz] at hp ⊢
  have HP := Lib.hid hp
  clear e h hp hz hG
  go_enter Tryd.func45, Tryd.ntmps45
  go_upto_region 2 with (fail)
  obtain ⟨W, hW⟩ : ∃ W, W = (((w.alloc (.cells #[.int .i64 4, .int .i64 block, .string data, .int .i64 keep] 36)).alloc (.cells #[.int .i64 0, .string ⟨#[]⟩, .int .i64 0, .int .i64 0, .int .i64 0] 39)).alloc (.cells #[.int .i64 0, .string ⟨#[]⟩, .int .i64 0, .int .i64 0, .int .i64 0] 39)) := ⟨_, rfl⟩
  have haw := HAW.out
  rw [← hW] at haw ⊢
  have HW := Lib.hid haw
  have a0 := haw.af.a0
  have a1 := haw.af.a1
  have a2 := haw.af.a2
  have a3 := haw.af.a3
  have r0 := haw.af.r0
  have r1 := haw.af.r1
  have r2 := haw.af.r2
  have r3 := haw.af.r3
  have r4 := haw.af.r4
  have o0 := haw.af.o0
  have o1 := haw.af.o1
  have o2 := haw.af.o2
  have o3 := haw.af.o3
  have o4 := haw.af.o4
  have y0 := haw.af.fr 0
  have y1 := haw.af.fr 1
  have y2 := haw.af.fr 2
  have y3 := haw.af.fr 3
  have y4 := haw.af.fr 4
  have x0 := haw.af.fo 0
  have x1 := haw.af.fo 1
  have x2 := haw.af.fo 2
  have x3 := haw.af.fo 3
  have x4 := haw.af.fo 4
  have gs := haw.gs
  have hne0 : ¬ g = w.heap.size := by omega
  have hne1 : ¬ g = w.heap.size + 1 := by omega
  have hne2 : ¬ g = w.heap.size + 1 + 1 := by omega
  have hnf0 : ¬ w.heap.size = g := by omega
  have hnf1 : ¬ w.heap.size + 1 = g := by omega
  have hnf2 : ¬ w.heap.size + 1 + 1 = g := by omega
  dsimp only at a0 a1 a2 a3
  clear haw hW
  have hpw := HP.out W _ HW.out.ef
  have HPW := Lib.hid hpw
  clear hpw
  go_wp2_with fail
  refine HPW.out.mono ?_
  rintro e W2 ⟨rfl, S2, h2, hT2⟩
  have af2 := HW.out.af.touch hT2 HW.out.rl
  have p0 := af2.r0
  have p1 := af2.r1
  have p2 := af2.r2
  have p3 := af2.r3
  have p4 := af2.r4
  have q0 := af2.o0
  have q1 := af2.o1
  have q2 := af2.o2
  have q3 := af2.o3
  have q4 := af2.o4
  have w0 := af2.fr 0
  have w1' := af2.fr 1
  have w2' := af2.fr 2
  have w3' := af2.fr 3
  have w4' := af2.fr 4
  have v0 := af2.fo 0
  have v1 := af2.fo 1
  have v2 := af2.fo 2
  have v3 := af2.fo 3
  have v4 := af2.fo 4
  have HAE := Lib.hid (HW.out.ae h2 hT2)
  clear af2 hT2 h2 a0 a1 a2 a3 r0 r1 r2 r3 r4 o0 o1 o2 o3 o4 y0 y1 y2 y3 y4 x0 x1 x2 x3 x4
  go_wp2
  refine bodyPost_ret (v := .agg #[.int .i64 z, .string ⟨#[]⟩, .int .i64 0, .int .i64 0, .int .i64 0]) (by simp [results, Tryd.results45, go_sem, p0, p1, p2, p3, p4]) rfl ?_
  refine AE.post ?_ _
  repeat (first | (with_reducible exact HAE.out) | (with_reducible refine AE.res ?_ _ _) | (with_reducible refine AE.out ?_ _ _) | (with_reducible refine AE.drewN ?_ _) | (with_reducible refine AE.drew ?_))


set_option maxRecDepth 100000 in
set_option maxHeartbeats 2000000 in
theorem act_abort (B g : Nat) (E : Eng) (S : SlotsE) (a : Acn) (w : World) (h : EngF B g E S w) (hk : a.kind = 5) :
    Calls Tryd.prog 45 #[.pointer (some ⟨g, 0, none⟩), actV a] w (EngPost B g (actE E a).1 S w (ansV (actE E a).2)) := by
  obtain ⟨A0, c0, A1, c1, A2, c2, A3, c3, A7, c7⟩ := S
  obtain ⟨kind, block, data, keep⟩ := a
  dsimp only at hk
  subst hk
  have HAW := Lib.hid (ActW.new ⟨5, block, data, keep⟩ h)
  unfold actV ansV
  cases ho : E.opened with
  | true =>
    have e : actE E ⟨5, block, data, keep⟩ = ({ E with opened := false, ws := [] }, Ans.of 0) := by rw [actE, if_neg (by simp), if_neg (by simp), if_neg (by simp), if_neg (by simp), if_pos rfl, ho]; rfl
    rw [e]
    have HO := Lib.hid ho
    clear e ho h
    dsimp only [Ans.of]
    go_enter Tryd.func45, Tryd.ntmps45
    go_upto_region 2 with (fail)
    obtain ⟨W, hW⟩ : ∃ W, W = (((w.alloc (.cells #[.int .i64 5, .int .i64 block, .string data, .int .i64 keep] 36)).alloc (.cells #[.int .i64 0, .string ⟨#[]⟩, .int .i64 0, .int .i64 0, .int .i64 0] 39)).alloc (.cells #[.int .i64 0, .string ⟨#[]⟩, .int .i64 0, .int .i64 0, .int .i64 0] 39)) := ⟨_, rfl⟩
    have haw := HAW.out
    rw [← hW] at haw ⊢
    have HW := Lib.hid haw
    have a0 := haw.af.a0
    have a1 := haw.af.a1
    have a2 := haw.af.a2
    have a3 := haw.af.a3
    have r0 := haw.af.r0
    have r1 := haw.af.r1
    have r2 := haw.af.r2
    have r3 := haw.af.r3
    have r4 := haw.af.r4
    have o0 := haw.af.o0
    have o1 := haw.af.o1
    have o2 := haw.af.o2
    have o3 := haw.af.o3
    have o4 := haw.af.o4
    have y0 := haw.af.fr 0
    have y1 := haw.af.fr 1
    have y2 := haw.af.fr 2
    have y3 := haw.af.fr 3
    have y4 := haw.af.fr 4
    have x0 := haw.af.fo 0
    have x1 := haw.af.fo 1
    have x2 := haw.af.fo 2
    have x3 := haw.af.fo 3
    have x4 := haw.af.fo 4
    have gs := haw.gs
    have hne0 : ¬ g = w.heap.size := by omega
    have hne1 : ¬ g = w.heap.size + 1 := by omega
    have hne2 : ¬ g = w.heap.size + 1 + 1 := by omega
    have hnf0 : ¬ w.heap.size = g := by omega
    have hnf1 : ¬ w.heap.size + 1 = g := by omega
    have hnf2 : ¬ w.heap.size + 1 + 1 = g := by omega
    dsimp only at a0 a1 a2 a3
    clear haw hW
    have k6 := HW.out.ef.k6
    have k7 := HW.out.ef.k7
    have z6 := HW.out.ef.fz 6
    have z7 := HW.out.ef.fz 7
    dsimp only at k7
    rw [HO.out] at k6
    have HAE := Lib.hid (HW.out.same.closed)
    go_wp2
    refine bodyPost_ret (v := .agg #[.int .i64 0, .string ⟨#[]⟩, .int .i64 0, .int .i64 0, .int .i64 0]) (by simp [results, Tryd.results45, go_sem, r0, r1, r2, r3, r4]) rfl ?_
    refine AE.post ?_ _
    repeat (first | (with_reducible exact HAE.out) | (with_reducible refine AE.res ?_ _ _) | (with_reducible refine AE.out ?_ _ _) | (with_reducible refine AE.drewN ?_ _) | (with_reducible refine AE.drew ?_))
  | false =>
    have e : actE E ⟨5, block, data, keep⟩ = ({ E with opened := false, ws := [] }, Ans.of 7) := by rw [actE, if_neg (by simp), if_neg (by simp), if_neg (by simp), if_neg (by simp), if_pos rfl, ho]; rfl
    rw [e]
    have HO := Lib.hid ho
    clear e ho h
    dsimp only [Ans.of]
    go_enter Tryd.func45, Tryd.ntmps45
    go_upto_region 2 with (fail)
    obtain ⟨W, hW⟩ : ∃ W, W = (((w.alloc (.cells #[.int .i64 5, .int .i64 block, .string data, .int .i64 keep] 36)).alloc (.cells #[.int .i64 0, .string ⟨#[]⟩, .int .i64 0, .int .i64 0, .int .i64 0] 39)).alloc (.cells #[.int .i64 0, .string ⟨#[]⟩, .int .i64 0, .int .i64 0, .int .i64 0] 39)) := ⟨_, rfl⟩
    have haw := HAW.out
    rw [← hW] at haw ⊢
    have HW := Lib.hid haw
    have a0 := haw.af.a0
    have a1 := haw.af.a1
    have a2 := haw.af.a2
    have a3 := haw.af.a3
    have r0 := haw.af.r0
    have r1 := haw.af.r1
    have r2 := haw.af.r2
    have r3 := haw.af.r3
    have r4 := haw.af.r4
    have o0 := haw.af.o0
    have o1 := haw.af.o1
    have o2 := haw.af.o2
    have o3 := haw.af.o3
    have o4 := haw.af.o4
    have y0 := haw.af.fr 0
    have y1 := haw.af.fr 1
    have y2 := haw.af.fr 2
    have y3 := haw.af.fr 3
    have y4 := haw.af.fr 4
    have x0 := haw.af.fo 0
    have x1 := haw.af.fo 1
    have x2 := haw.af.fo 2
    have x3 := haw.af.fo 3
    have x4 := haw.af.fo 4
    have gs := haw.gs
    have hne0 : ¬ g = w.heap.size := by omega
    have hne1 : ¬ g = w.heap.size + 1 := by omega
    have hne2 : ¬ g = w.heap.size + 1 + 1 := by omega
    have hnf0 : ¬ w.heap.size = g := by omega
    have hnf1 : ¬ w.heap.size + 1 = g := by omega
    have hnf2 : ¬ w.heap.size + 1 + 1 = g := by omega
    dsimp only at a0 a1 a2 a3
    clear haw hW
    have k6 := HW.out.ef.k6
    have k7 := HW.out.ef.k7
    have z6 := HW.out.ef.fz 6
    have z7 := HW.out.ef.fz 7
    dsimp only at k7
    rw [HO.out] at k6
    have HAE := Lib.hid ((HW.out.same.out 0 (.int .i64 7)).closed)
    go_wp2
    refine bodyPost_ret (v := .agg #[.int .i64 7, .string ⟨#[]⟩, .int .i64 0, .int .i64 0, .int .i64 0]) (by simp [results, Tryd.results45, go_sem, r0, r1, r2, r3, r4]) rfl ?_
    refine AE.post ?_ _
    repeat (first | (with_reducible exact HAE.out) | (with_reducible refine AE.res ?_ _ _) | (with_reducible refine AE.out ?_ _ _) | (with_reducible refine AE.drewN ?_ _) | (with_reducible refine AE.drew ?_))


set_option maxRecDepth 100000 in
set_option maxHeartbeats 2000000 in
theorem act_flush (B g : Nat) (E : Eng) (S : SlotsE) (a : Acn) (w : World) (h : EngF B g E S w) (hG : GoodE E) (hk : a.kind = 6) :
    Calls Tryd.prog 45 #[.pointer (some ⟨g, 0, none⟩), actV a] w (EngPost B g (actE E a).1 S w (ansV (actE E a).2)) := by
  obtain ⟨A0, c0, A1, c1, A2, c2, A3, c3, A7, c7⟩ := S
  obtain ⟨kind, block, data, keep⟩ := a
  dsimp only at hk
  subst hk
  have HAW := Lib.hid (ActW.new ⟨6, block, data, keep⟩ h)
  unfold actV ansV
  have e : actE E ⟨6, block, data, keep⟩ = ({ E with log := E.log ++ E.pend, pend := [] }, Ans.of 0) := by rw [actE, if_neg (by simp), if_neg (by simp), if_neg (by simp), if_neg (by simp), if_neg (by simp), if_pos rfl]
  rw [e]
  dsimp only [Ans.of]
  have hls : (bstr E.log).size + (bstr E.pend).size ≤ 4000 := by rw [bstr_size, bstr_size]; exact hG.log
  clear e h hG
  go_enter Tryd.func45, Tryd.ntmps45
  go_upto_region 2 with (fail)
  obtain ⟨W, hW⟩ : ∃ W, W = (((w.alloc (.cells #[.int .i64 6, .int .i64 block, .string data, .int .i64 keep] 36)).alloc (.cells #[.int .i64 0, .string ⟨#[]⟩, .int .i64 0, .int .i64 0, .int .i64 0] 39)).alloc (.cells #[.int .i64 0, .string ⟨#[]⟩, .int .i64 0, .int .i64 0, .int .i64 0] 39)) := ⟨_, rfl⟩
  have haw := HAW.out
  rw [← hW] at haw ⊢
  have HW := Lib.hid haw
  have a0 := haw.af.a0
  have a1 := haw.af.a1
  have a2 := haw.af.a2
  have a3 := haw.af.a3
  have r0 := haw.af.r0
  have r1 := haw.af.r1
  have r2 := haw.af.r2
  have r3 := haw.af.r3
  have r4 := haw.af.r4
  have o0 := haw.af.o0
  have o1 := haw.af.o1
  have o2 := haw.af.o2
  have o3 := haw.af.o3
  have o4 := haw.af.o4
  have y0 := haw.af.fr 0
  have y1 := haw.af.fr 1
  have y2 := haw.af.fr 2
  have y3 := haw.af.fr 3
  have y4 := haw.af.fr 4
  have x0 := haw.af.fo 0
  have x1 := haw.af.fo 1
  have x2 := haw.af.fo 2
  have x3 := haw.af.fo 3
  have x4 := haw.af.fo 4
  have gs := haw.gs
  have hne0 : ¬ g = w.heap.size := by omega
  have hne1 : ¬ g = w.heap.size + 1 := by omega
  have hne2 : ¬ g = w.heap.size + 1 + 1 := by omega
  have hnf0 : ¬ w.heap.size = g := by omega
  have hnf1 : ¬ w.heap.size + 1 = g := by omega
  have hnf2 : ¬ w.heap.size + 1 + 1 = g := by omega
  dsimp only at a0 a1 a2 a3
  clear haw hW
  have k4 := HW.out.ef.k4
  have k5 := HW.out.ef.k5
  have z4 := HW.out.ef.fz 4
  have z5 := HW.out.ef.fz 5
  have HAE := Lib.hid HW.out.same.flush
  go_wp2
  go_region
  go_wp2
  refine bodyPost_ret (v := .agg #[.int .i64 0, .string ⟨#[]⟩, .int .i64 0, .int .i64 0, .int .i64 0]) (by simp [results, Tryd.results45, go_sem, r0, r1, r2, r3, r4]) rfl ?_
  refine AE.post ?_ _
  repeat (first | (with_reducible exact HAE.out) | (with_reducible refine AE.res ?_ _ _) | (with_reducible refine AE.out ?_ _ _) | (with_reducible refine AE.drewN ?_ _) | (with_reducible refine AE.drew ?_))


set_option maxRecDepth 100000 in
set_option maxHeartbeats 2000000 in
theorem act_crash (B g : Nat) (E : Eng) (S : SlotsE) (a : Acn) (w : World) (h : EngF B g E S w) (hG : GoodE E) (hb : i64Ok a.keep) (hk : a.kind = 7) :
    Calls Tryd.prog 45 #[.pointer (some ⟨g, 0, none⟩), actV a] w (EngPost B g (actE E a).1 S w (ansV (actE E a).2)) := by
  obtain ⟨A0, c0, A1, c1, A2, c2, A3, c3, A7, c7⟩ := S
  obtain ⟨kind, block, data, keep⟩ := a
  dsimp only at hk
  subst hk
  have HAW := Lib.hid (ActW.new ⟨7, block, data, keep⟩ h)
  unfold actV ansV
  have e : actE E ⟨7, block, data, keep⟩ = ((crashE E keep).1, ⟨(crashE E keep).2.2, noData, 0, 0, (crashE E keep).2.1⟩) := by rw [actE, if_neg (by simp), if_neg (by simp), if_neg (by simp), if_neg (by simp), if_neg (by simp), if_neg (by simp), if_pos rfl]
  rw [e]
  dsimp only at hb ⊢
  have hp := fun (W : World) (S : SlotsE) (hW : EngF B g E S W) => crash_any B g E S keep W hW hG hb
  obtain ⟨E', y, z, hz⟩ : ∃ E' y z, crashE E keep = (E', y, z) := ⟨_, _, _, rfl⟩
  rw [hz] at hp ⊢
  have HP := Lib.hid hp
  clear e h hp hz hG hb
  go_enter Tryd.func45, Tryd.ntmps45
  go_upto_region 2 with (fail)
  obtain ⟨W, hW⟩ : ∃ W, W = (((w.alloc (.cells #[.int .i64 7, .int .i64 block, .string data, .int .i64 keep] 36)).alloc (.cells #[.int .i64 0, .string ⟨#[]⟩, .int .i64 0, .int .i64 0, .int .i64 0] 39)).alloc (.cells #[.int .i64 0, .string ⟨#[]⟩, .int .i64 0, .int .i64 0, .int .i64 0] 39)) := ⟨_, rfl⟩
  have haw := HAW.out
  rw [← hW] at haw ⊢
  have HW := Lib.hid haw
  have a0 := haw.af.a0
  have a1 := haw.af.a1
  have a2 := haw.af.a2
  have a3 := haw.af.a3
  have r0 := haw.af.r0
  have r1 := haw.af.r1
  have r2 := haw.af.r2
  have r3 := haw.af.r3
  have r4 := haw.af.r4
  have o0 := haw.af.o0
  have o1 := haw.af.o1
  have o2 := haw.af.o2
  have o3 := haw.af.o3
  have o4 := haw.af.o4
  have y0 := haw.af.fr 0
  have y1 := haw.af.fr 1
  have y2 := haw.af.fr 2
  have y3 := haw.af.fr 3
  have y4 := haw.af.fr 4
  have x0 := haw.af.fo 0
  have x1 := haw.af.fo 1
  have x2 := haw.af.fo 2
  have x3 := haw.af.fo 3
  have x4 := haw.af.fo 4
  have gs := haw.gs
  have hne0 : ¬ g = w.heap.size := by omega
  have hne1 : ¬ g = w.heap.size + 1 := by omega
  have hne2 : ¬ g = w.heap.size + 1 + 1 := by omega
  have hnf0 : ¬ w.heap.size = g := by omega
  have hnf1 : ¬ w.heap.size + 1 = g := by omega
  have hnf2 : ¬ w.heap.size + 1 + 1 = g := by omega
  dsimp only at a0 a1 a2 a3
  clear haw hW
  have hpw := HP.out W _ HW.out.ef
  have HPW := Lib.hid hpw
  clear hpw
  go_wp2_with fail
  refine HPW.out.mono ?_
  rintro e W2 ⟨rfl, S2, h2, hT2⟩
  have af2 := HW.out.af.touch hT2 HW.out.rl
  have p0 := af2.r0
  have p1 := af2.r1
  have p2 := af2.r2
  have p3 := af2.r3
  have p4 := af2.r4
  have q0 := af2.o0
  have q1 := af2.o1
  have q2 := af2.o2
  have q3 := af2.o3
  have q4 := af2.o4
  have w0 := af2.fr 0
  have w1' := af2.fr 1
  have w2' := af2.fr 2
  have w3' := af2.fr 3
  have w4' := af2.fr 4
  have v0 := af2.fo 0
  have v1 := af2.fo 1
  have v2 := af2.fo 2
  have v3 := af2.fo 3
  have v4 := af2.fo 4
  have HAE := Lib.hid (HW.out.ae h2 hT2)
  clear af2 hT2 h2 a0 a1 a2 a3 r0 r1 r2 r3 r4 o0 o1 o2 o3 o4 y0 y1 y2 y3 y4 x0 x1 x2 x3 x4
  go_wp2
  refine bodyPost_ret (v := .agg #[.int .i64 z, .string ⟨#[]⟩, .int .i64 0, .int .i64 0, .int .i64 y]) (by simp [results, Tryd.results45, go_sem, p0, p1, p2, p3, p4]) rfl ?_
  refine AE.post ?_ _
  repeat (first | (with_reducible exact HAE.out) | (with_reducible refine AE.res ?_ _ _) | (with_reducible refine AE.out ?_ _ _) | (with_reducible refine AE.drewN ?_ _) | (with_reducible refine AE.drew ?_))


set_option maxRecDepth 100000 in
set_option maxHeartbeats 2000000 in
theorem act_mark (B g : Nat) (E : Eng) (S : SlotsE) (a : Acn) (w : World) (h : EngF B g E S w) (hG : GoodE E) (hk : a.kind = 8) :
    Calls Tryd.prog 45 #[.pointer (some ⟨g, 0, none⟩), actV a] w (EngPost B g (actE E a).1 S w (ansV (actE E a).2)) := by
  obtain ⟨A0, c0, A1, c1, A2, c2, A3, c3, A7, c7⟩ := S
  obtain ⟨kind, block, data, keep⟩ := a
  dsimp only at hk
  subst hk
  have HAW := Lib.hid (ActW.new ⟨8, block, data, keep⟩ h)
  unfold actV ansV
  have e : actE E ⟨8, block, data, keep⟩ = ({ E with base := E.v, log := [], pend := [] }, Ans.of 0) := by rw [actE, if_neg (by simp), if_neg (by simp), if_neg (by simp), if_neg (by simp), if_neg (by simp), if_neg (by simp), if_neg (by simp), if_pos rfl]
  rw [e]
  dsimp only [Ans.of]
  have hb1 : E.v.1.length ≤ 24 := hG.vol.good.1
  have hb2 : E.v.2.length ≤ 32 := hG.vol.hi
  have HB1 := Lib.hid hb1
  have HB2 := Lib.hid hb2
  clear e h hG hb1 hb2
  go_enter Tryd.func45, Tryd.ntmps45
  go_upto_region 2 with (fail)
  obtain ⟨W, hW⟩ : ∃ W, W = (((w.alloc (.cells #[.int .i64 8, .int .i64 block, .string data, .int .i64 keep] 36)).alloc (.cells #[.int .i64 0, .string ⟨#[]⟩, .int .i64 0, .int .i64 0, .int .i64 0] 39)).alloc (.cells #[.int .i64 0, .string ⟨#[]⟩, .int .i64 0, .int .i64 0, .int .i64 0] 39)) := ⟨_, rfl⟩
  have haw := HAW.out
  rw [← hW] at haw ⊢
  have HW := Lib.hid haw
  have a0 := haw.af.a0
  have a1 := haw.af.a1
  have a2 := haw.af.a2
  have a3 := haw.af.a3
  have r0 := haw.af.r0
  have r1 := haw.af.r1
  have r2 := haw.af.r2
  have r3 := haw.af.r3
  have r4 := haw.af.r4
  have o0 := haw.af.o0
  have o1 := haw.af.o1
  have o2 := haw.af.o2
  have o3 := haw.af.o3
  have o4 := haw.af.o4
  have y0 := haw.af.fr 0
  have y1 := haw.af.fr 1
  have y2 := haw.af.fr 2
  have y3 := haw.af.fr 3
  have y4 := haw.af.fr 4
  have x0 := haw.af.fo 0
  have x1 := haw.af.fo 1
  have x2 := haw.af.fo 2
  have x3 := haw.af.fo 3
  have x4 := haw.af.fo 4
  have gs := haw.gs
  have hne0 : ¬ g = w.heap.size := by omega
  have hne1 : ¬ g = w.heap.size + 1 := by omega
  have hne2 : ¬ g = w.heap.size + 1 + 1 := by omega
  have hnf0 : ¬ w.heap.size = g := by omega
  have hnf1 : ¬ w.heap.size + 1 = g := by omega
  have hnf2 : ¬ w.heap.size + 1 + 1 = g := by omega
  dsimp only at a0 a1 a2 a3
  clear haw hW
  have k0 := HW.out.ef.k0
  have k1 := HW.out.ef.k1
  dsimp only at k0 k1
  have hcp := copy_any A0 A1 E.v.1.length c0 E.v.2.length c1 E.v.1 E.v.2 W HW.out.ef.repV HW.out.ef.repVB (own_nil HW.out.ef.o0).2 (own_nil HW.out.ef.o1).2 (by have := HB1.out; omega) (by have := HB2.out; omega)
  have HCP := Lib.hid hcp
  clear hcp
  go_wp2_with fail
  refine HCP.out.mono ?_
  rintro e W2 ⟨A8, c8, A9, c9, rfl, ho1, ho2, hbe, _, _, _, _, _, _⟩
  have hT2 : Touch (engR g ⟨A0, c0, A1, c1, A2, c2, A3, c3, A7, c7⟩) W W2 := Touch.below hbe
  have h2 := HW.out.ef.step hbe
  have hBW : B ≤ W.heap.size := by have := HW.out.ef.gb; have := HW.out.ef.gs; omega
  have k2' := h2.k2
  have k3' := h2.k3
  have k4' := h2.k4
  have k5' := h2.k5
  have z2' := h2.fz 2
  have z3' := h2.fz 3
  have z4' := h2.fz 4
  have z5' := h2.fz 5
  dsimp only at k2' k3' k4' k5'
  have HM := Lib.hid ((HW.out.ae h2 hT2).mark (own_mono ho1 hBW) (own_mono ho2 hBW))
  clear ho1 ho2 hbe hBW k0 k1
  have af2 := HW.out.af.touch hT2 HW.out.rl
  have p0 := af2.r0
  have p1 := af2.r1
  have p2 := af2.r2
  have p3 := af2.r3
  have p4 := af2.r4
  have q0 := af2.o0
  have q1 := af2.o1
  have q2 := af2.o2
  have q3 := af2.o3
  have q4 := af2.o4
  have w0 := af2.fr 0
  have w1' := af2.fr 1
  have w2' := af2.fr 2
  have w3' := af2.fr 3
  have w4' := af2.fr 4
  have v0 := af2.fo 0
  have v1 := af2.fo 1
  have v2 := af2.fo 2
  have v3 := af2.fo 3
  have v4 := af2.fo 4
  have HAE := HM
  clear af2 hT2 h2 a0 a1 a2 a3 r0 r1 r2 r3 r4 o0 o1 o2 o3 o4 y0 y1 y2 y3 y4 x0 x1 x2 x3 x4
  go_wp2
  refine bodyPost_ret (v := .agg #[.int .i64 0, .string ⟨#[]⟩, .int .i64 0, .int .i64 0, .int .i64 0]) (by simp [results, Tryd.results45, go_sem, p0, p1, p2, p3, p4]) rfl ?_
  refine AE.post ?_ _
  repeat (first | (with_reducible exact HAE.out) | (with_reducible refine AE.res ?_ _ _) | (with_reducible refine AE.out ?_ _ _) | (with_reducible refine AE.drewN ?_ _) | (with_reducible refine AE.drew ?_))


set_option maxRecDepth 100000 in
set_option maxHeartbeats 2000000 in
theorem act_stat (B g : Nat) (E : Eng) (S : SlotsE) (a : Acn) (w : World) (h : EngF B g E S w) (hG : GoodE E) (hk : a.kind = 9) :
    Calls Tryd.prog 45 #[.pointer (some ⟨g, 0, none⟩), actV a] w (EngPost B g (actE E a).1 S w (ansV (actE E a).2)) := by
  obtain ⟨A0, c0, A1, c1, A2, c2, A3, c3, A7, c7⟩ := S
  obtain ⟨kind, block, data, keep⟩ := a
  dsimp only at hk
  subst hk
  have HAW := Lib.hid (ActW.new ⟨9, block, data, keep⟩ h)
  unfold actV ansV
  have e : actE E ⟨9, block, data, keep⟩ = (E, ⟨0, noData, E.v.1.length, E.log.length + E.pend.length, 0⟩) := by rw [actE, if_neg (by simp), if_neg (by simp), if_neg (by simp), if_neg (by simp), if_neg (by simp), if_neg (by simp), if_neg (by simp), if_neg (by simp), if_pos rfl]
  rw [e]
  dsimp only
  obtain ⟨L, hL⟩ : ∃ L, bstr E.log = L := ⟨_, rfl⟩
  obtain ⟨D, hD⟩ : ∃ D, bstr E.pend = D := ⟨_, rfl⟩
  have hLs : E.log.length = L.size := by rw [← hL, bstr_size]
  have hDs : E.pend.length = D.size := by rw [← hD, bstr_size]
  have hls : L.size + D.size ≤ 4000 := by rw [← hLs, ← hDs]; exact hG.log
  rw [hLs, hDs]
  have HL := Lib.hid hL
  have HD := Lib.hid hD
  clear e h hG hL hD hLs hDs
  go_enter Tryd.func45, Tryd.ntmps45
  go_upto_region 2 with (fail)
  obtain ⟨W, hW⟩ : ∃ W, W = (((w.alloc (.cells #[.int .i64 9, .int .i64 block, .string data, .int .i64 keep] 36)).alloc (.cells #[.int .i64 0, .string ⟨#[]⟩, .int .i64 0, .int .i64 0, .int .i64 0] 39)).alloc (.cells #[.int .i64 0, .string ⟨#[]⟩, .int .i64 0, .int .i64 0, .int .i64 0] 39)) := ⟨_, rfl⟩
  have haw := HAW.out
  rw [← hW] at haw ⊢
  have HW := Lib.hid haw
  have a0 := haw.af.a0
  have a1 := haw.af.a1
  have a2 := haw.af.a2
  have a3 := haw.af.a3
  have r0 := haw.af.r0
  have r1 := haw.af.r1
  have r2 := haw.af.r2
  have r3 := haw.af.r3
  have r4 := haw.af.r4
  have o0 := haw.af.o0
  have o1 := haw.af.o1
  have o2 := haw.af.o2
  have o3 := haw.af.o3
  have o4 := haw.af.o4
  have y0 := haw.af.fr 0
  have y1 := haw.af.fr 1
  have y2 := haw.af.fr 2
  have y3 := haw.af.fr 3
  have y4 := haw.af.fr 4
  have x0 := haw.af.fo 0
  have x1 := haw.af.fo 1
  have x2 := haw.af.fo 2
  have x3 := haw.af.fo 3
  have x4 := haw.af.fo 4
  have gs := haw.gs
  have hne0 : ¬ g = w.heap.size := by omega
  have hne1 : ¬ g = w.heap.size + 1 := by omega
  have hne2 : ¬ g = w.heap.size + 1 + 1 := by omega
  have hnf0 : ¬ w.heap.size = g := by omega
  have hnf1 : ¬ w.heap.size + 1 = g := by omega
  have hnf2 : ¬ w.heap.size + 1 + 1 = g := by omega
  dsimp only at a0 a1 a2 a3
  clear haw hW
  have k0 := HW.out.ef.k0
  have k4 := HW.out.ef.k4
  have k5 := HW.out.ef.k5
  dsimp only at k0 k4 k5
  rw [HL.out] at k4
  rw [HD.out] at k5
  have HAE := Lib.hid HW.out.same
  go_wp2
  go_region
  go_wp2
  refine bodyPost_ret (v := .agg #[.int .i64 0, .string ⟨#[]⟩, .int .i64 E.v.1.length, .int .i64 ((L.size : Int) + (D.size : Int)), .int .i64 0]) (by simp [results, Tryd.results45, go_sem, r0, r1, r2, r3, r4]) rfl ?_
  refine AE.post ?_ _
  repeat (first | (with_reducible exact HAE.out) | (with_reducible refine AE.res ?_ _ _) | (with_reducible refine AE.out ?_ _ _) | (with_reducible refine AE.drewN ?_ _) | (with_reducible refine AE.drew ?_))


set_option maxRecDepth 100000 in
set_option maxHeartbeats 2000000 in
theorem act_other (B g : Nat) (E : Eng) (S : SlotsE) (a : Acn) (w : World) (h : EngF B g E S w) (hk : a.kind < 1 ∨ 9 < a.kind) :
    Calls Tryd.prog 45 #[.pointer (some ⟨g, 0, none⟩), actV a] w (EngPost B g (actE E a).1 S w (ansV (actE E a).2)) := by
  obtain ⟨A0, c0, A1, c1, A2, c2, A3, c3, A7, c7⟩ := S
  obtain ⟨kind, block, data, keep⟩ := a
  dsimp only at hk
  have HAW := Lib.hid (ActW.new ⟨kind, block, data, keep⟩ h)
  unfold actV ansV
  have e : actE E ⟨kind, block, data, keep⟩ = (E, Ans.of 3) := by
    rw [actE, if_neg (by dsimp only; omega), if_neg (by dsimp only; omega), if_neg (by dsimp only; omega), if_neg (by dsimp only; omega), if_neg (by dsimp only; omega), if_neg (by dsimp only; omega), if_neg (by dsimp only; omega), if_neg (by dsimp only; omega), if_neg (by dsimp only; omega)]
  rw [e]
  have d1 : (kind == 1) = false := by rw [beq_eq_false_iff_ne]; omega
  have d2 : (kind == 2) = false := by rw [beq_eq_false_iff_ne]; omega
  have d3 : (kind == 3) = false := by rw [beq_eq_false_iff_ne]; omega
  have d4 : (kind == 4) = false := by rw [beq_eq_false_iff_ne]; omega
  have d5 : (kind == 5) = false := by rw [beq_eq_false_iff_ne]; omega
  have d6 : (kind == 6) = false := by rw [beq_eq_false_iff_ne]; omega
  have d7 : (kind == 7) = false := by rw [beq_eq_false_iff_ne]; omega
  have d8 : (kind == 8) = false := by rw [beq_eq_false_iff_ne]; omega
  have d9 : (kind == 9) = false := by rw [beq_eq_false_iff_ne]; omega
  clear e h hk
  dsimp only [Ans.of]
  go_enter Tryd.func45, Tryd.ntmps45
  go_upto_region 2 with (fail)
  obtain ⟨W, hW⟩ : ∃ W, W = (((w.alloc (.cells #[.int .i64 kind, .int .i64 block, .string data, .int .i64 keep] 36)).alloc (.cells #[.int .i64 0, .string ⟨#[]⟩, .int .i64 0, .int .i64 0, .int .i64 0] 39)).alloc (.cells #[.int .i64 0, .string ⟨#[]⟩, .int .i64 0, .int .i64 0, .int .i64 0] 39)) := ⟨_, rfl⟩
  have haw := HAW.out
  rw [← hW] at haw ⊢
  have HW := Lib.hid haw
  have a0 := haw.af.a0
  have a1 := haw.af.a1
  have a2 := haw.af.a2
  have a3 := haw.af.a3
  have r0 := haw.af.r0
  have r1 := haw.af.r1
  have r2 := haw.af.r2
  have r3 := haw.af.r3
  have r4 := haw.af.r4
  have o0 := haw.af.o0
  have o1 := haw.af.o1
  have o2 := haw.af.o2
  have o3 := haw.af.o3
  have o4 := haw.af.o4
  have y0 := haw.af.fr 0
  have y1 := haw.af.fr 1
  have y2 := haw.af.fr 2
  have y3 := haw.af.fr 3
  have y4 := haw.af.fr 4
  have x0 := haw.af.fo 0
  have x1 := haw.af.fo 1
  have x2 := haw.af.fo 2
  have x3 := haw.af.fo 3
  have x4 := haw.af.fo 4
  have gs := haw.gs
  have hne0 : ¬ g = w.heap.size := by omega
  have hne1 : ¬ g = w.heap.size + 1 := by omega
  have hne2 : ¬ g = w.heap.size + 1 + 1 := by omega
  have hnf0 : ¬ w.heap.size = g := by omega
  have hnf1 : ¬ w.heap.size + 1 = g := by omega
  have hnf2 : ¬ w.heap.size + 1 + 1 = g := by omega
  dsimp only at a0 a1 a2 a3
  clear haw hW
  have HAE := Lib.hid HW.out.same
  go_wp2
  refine bodyPost_ret (v := .agg #[.int .i64 3, .string ⟨#[]⟩, .int .i64 0, .int .i64 0, .int .i64 0]) (by simp [results, Tryd.results45, go_sem, r0, r1, r2, r3, r4]) rfl ?_
  refine AE.post ?_ _
  repeat (first | (with_reducible exact HAE.out) | (with_reducible refine AE.res ?_ _ _) | (with_reducible refine AE.out ?_ _ _) | (with_reducible refine AE.drewN ?_ _) | (with_reducible refine AE.drew ?_))


theorem act_any (B g : Nat) (E : Eng) (S : SlotsE) (a : Acn) (w : World) (h : EngF B g E S w) (hG : GoodE E) (hb : i64Ok a.block) (hd : a.data.size ≤ maxLen) (hk : i64Ok a.keep) :
    Calls Tryd.prog 45 #[.pointer (some ⟨g, 0, none⟩), actV a] w (EngPost B g (actE E a).1 S w (ansV (actE E a).2)) := by
  by_cases h1 : a.kind = 1
  · exact act_begin B g E S a w h h1
  by_cases h2 : a.kind = 2
  · exact act_put B g E S a w h hG hb hd h2
  by_cases h3 : a.kind = 3
  · exact act_read B g E S a w h hG hb h3
  by_cases h4 : a.kind = 4
  · exact act_commit B g E S a w h hG h4
  by_cases h5 : a.kind = 5
  · exact act_abort B g E S a w h h5
  by_cases h6 : a.kind = 6
  · exact act_flush B g E S a w h hG h6
  by_cases h7 : a.kind = 7
  · exact act_crash B g E S a w h hG hk h7
  by_cases h8 : a.kind = 8
  · exact act_mark B g E S a w h hG h8
  by_cases h9 : a.kind = 9
  · exact act_stat B g E S a w h hG h9
  · exact act_other B g E S a w h (by omega)
end Go.Proofs.YtphbebcbbfbgpacDoor
