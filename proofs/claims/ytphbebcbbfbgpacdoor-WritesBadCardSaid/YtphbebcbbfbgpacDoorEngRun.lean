/- engine.Run. -/
import Derived.Test.YtphbebcbbfbgpacDoorEngActs
import Derived.Test.YtphbebcbbfbgpacDoorVolNew
namespace Go.Proofs.YtphbebcbbfbgpacDoor
open Go Go.RowKit
set_option linter.unusedSimpArgs false
set_option linter.unusedVariables false

def Acn.cell (x : Acn) : Nat → Value
  | 0 => .int .i64 x.kind
  | 1 => .int .i64 x.block
  | 2 => .string x.data
  | _ => .int .i64 x.keep
def Ans.cell (x : Ans) : Nat → Value
  | 0 => .int .i64 x.code
  | 1 => .string x.data
  | 2 => .int .i64 x.items
  | 3 => .int .i64 x.log
  | _ => .int .i64 x.count
def Acn.wf (x : Acn) : Prop := i64Ok x.kind ∧ i64Ok x.block ∧ strOk x.data ∧ i64Ok x.keep
theorem ans_flat1 (x : Ans) : flat Ans.cell 5 [x] = [.int .i64 x.code, .string x.data, .int .i64 x.items, .int .i64 x.log, .int .i64 x.count] := by
  rw [flat_one]; rfl
theorem infoAns : (Tryd.prog.info? 39).map (fun i => (i.zero, i.size, i.bytes)) = some (some (.agg #[.int .i64 0, .string ByteArray.empty, .int .i64 0, .int .i64 0, .int .i64 0]), 5, 48) := by kernel_rfl
theorem acts_at {w : World} {B n k : Nat} {A : Option Addr} {ls : List Acn} (h : Rep w B 4 Acn.cell A n ls) (hk : k < n) :
    ∃ b off, A = some ⟨b, off, none⟩ ∧ b < B ∧ w.cell? ⟨b, off + k * 4, none⟩ = some (.int .i64 (ls[k]'(by have := h.1; omega)).kind) ∧ w.cell? ⟨b, off + k * 4 + 1, none⟩ = some (.int .i64 (ls[k]'(by have := h.1; omega)).block) ∧
      w.cell? ⟨b, off + k * 4 + 2, none⟩ = some (.string (ls[k]'(by have := h.1; omega)).data) ∧ w.cell? ⟨b, off + k * 4 + 3, none⟩ = some (.int .i64 (ls[k]'(by have := h.1; omega)).keep) := by
  obtain ⟨b, off, e, hb, hc⟩ := h.at_ hk
  exact ⟨b, off, e, hb, hc 0 (by omega), hc 1 (by omega), hc 2 (by omega), hc 3 (by omega)⟩

/-- The answers, the volume and the error's number that a run hands back. -/
def ScriptPost (w : World) (r : List Ans × Vol × Int) (e : Ending) (w' : World) : Prop :=
  ∃ Ax cx A c B d, e = .returned (.tuple #[.slice Ax r.1.length cx, .agg #[.slice A r.2.1.1.length c, .slice B r.2.1.2.length d], .int .i64 r.2.2]) ∧ w'.ownsRow w.heap.size 39 5 (.slice Ax r.1.length cx) r.1.length (flat Ans.cell 5 r.1) ∧
    w'.ownsRow w.heap.size 42 3 (.slice A r.2.1.1.length c) r.2.1.1.length (flat Itm.cell 3 r.2.1.1) ∧ w'.ownsRow w.heap.size 3 1 (.slice B r.2.1.2.length d) r.2.1.2.length (flat intCell 1 r.2.1.2) ∧ Below w.heap.size w w'
theorem ScriptPost.nil {w w' : World} {r : List Ans × Vol × Int} {k : Int} (h : r = ([], ([], []), k)) (hb : Below w.heap.size w w') : ScriptPost w r (.returned (.tuple #[.slice none 0 0, .agg #[.slice none 0 0, .slice none 0 0], .int .i64 k])) w' := by
  subst h
  exact ⟨none, 0, none, 0, none, 0, rfl, World.ownsRow_nil _ _ _ _, World.ownsRow_nil _ _ _ _, World.ownsRow_nil _ _ _ _, hb⟩

/-- What stands in a run: the engine, and the place of the resulting volume. -/
structure RunF (w : World) (g : Nat) (E : Eng) (S : SlotsE) (W : World) : Prop where
  ef : EngF w.heap.size g E S W
  r0 : W.cell? ⟨w.heap.size, 0, none⟩ = some (.slice none 0 0)
  r1 : W.cell? ⟨w.heap.size, 1, none⟩ = some (.slice none 0 0)
  z0 : W.frozen? ⟨w.heap.size, 0, none⟩ = false
  z1 : W.frozen? ⟨w.heap.size, 1, none⟩ = false
  tr : IsCells W w.heap.size 30
  sz : w.heap.size < W.heap.size
  be : Below w.heap.size w W
theorem RunF.ne {w : World} {g : Nat} {E : Eng} {S : SlotsE} {W : World} (h : RunF w g E S W) : ¬ engR g S w.heap.size := by
  rintro (e | e)
  · obtain ⟨cs, hc⟩ := h.tr
    obtain ⟨ds, hd⟩ := h.ef.tg
    rw [← e, hc] at hd
    simp only [Option.some.injEq, Obj.cells.injEq] at hd
    exact absurd hd.2.1 (by decide)
  · exact own_not h.ef.o7 h.tr (by decide) _ ((ownBlock_len _ _ _ _ _).trans e) rfl
theorem RunF.step {w : World} {g : Nat} {E : Eng} {S : SlotsE} {W W' : World} (h : RunF w g E S W) (hb : Below W.heap.size W W') : RunF w g E S W' where
  ef := h.ef.step hb
  r0 := (hb.cell h.sz).trans h.r0
  r1 := (hb.cell h.sz).trans h.r1
  z0 := (hb.frozen h.sz).trans h.z0
  z1 := (hb.frozen h.sz).trans h.z1
  tr := h.tr.below hb
  sz := Nat.lt_of_lt_of_le h.sz hb.size
  be := h.be.trans (hb.mono h.be.size)
theorem RunF.act {w : World} {g : Nat} {E E' : Eng} {S S' : SlotsE} {W W' : World} (h : RunF w g E S W) (h2 : EngF w.heap.size g E' S' W') (hT : Touch (engR g S) W W') : RunF w g E' S' W' where
  ef := h2
  r0 := (hT.cell h.sz h.ne).trans h.r0
  r1 := (hT.cell h.sz h.ne).trans h.r1
  z0 := (hT.frozen h.sz h.ne).trans h.z0
  z1 := (hT.frozen h.sz h.ne).trans h.z1
  tr := h.tr.touch hT h.ne
  sz := Nat.lt_of_lt_of_le h.sz hT.size
  be := h.be.trans (hT.toBelow h.be.size (fun k hk => by
    rcases hk with rfl | hk
    · exact h.ef.gb
    · exact (h.ef.o7.lt k ((ownBlock_len _ _ _ _ _).trans hk)).1))
theorem own_act {w : World} {g : Nat} {E : Eng} {S : SlotsE} {W W' : World} {n : Nat} {v : Value} {xs : List Value} (h : RunF w g E S W) (hT : Touch (engR g S) W W') (ho : W.ownsRow w.heap.size 39 5 v n xs) : W'.ownsRow w.heap.size 39 5 v n xs :=
  own_touch ho hT (fun r hr hk => by
    rcases hk with rfl | hk
    · exact own_not ho h.ef.tg (by decide) _ hr rfl
    · exact own_apart ho h.ef.o7 (by decide) r r hr ((ownBlock_len _ _ _ _ _).trans hk) rfl)
theorem EngF.farR {B g : Nat} {E : Eng} {S : SlotsE} {R : Nat → Prop} {W W' : World} (h : EngF B g E S W) (hne : ¬ R g) (hr : ∀ {b s n : Nat} {T : TypeId} {v : Value} {xs : List Value}, T ≠ 39 → W.ownsRow b T s v n xs → ∀ r, v.ownBlock = some r → ¬ R r) (hT : Touch R W W') : EngF B g E S W' where
  k0 := (hT.cell h.gs hne).trans h.k0
  k1 := (hT.cell h.gs hne).trans h.k1
  k2 := (hT.cell h.gs hne).trans h.k2
  k3 := (hT.cell h.gs hne).trans h.k3
  k4 := (hT.cell h.gs hne).trans h.k4
  k5 := (hT.cell h.gs hne).trans h.k5
  k6 := (hT.cell h.gs hne).trans h.k6
  k7 := (hT.cell h.gs hne).trans h.k7
  fz := fun i => (hT.frozen h.gs hne).trans (h.fz i)
  tg := h.tg.touch hT hne
  gb := h.gb
  gs := Nat.lt_of_lt_of_le h.gs hT.size
  o0 := own_touch h.o0 hT (hr (by decide) h.o0)
  o1 := own_touch h.o1 hT (hr (by decide) h.o1)
  o2 := own_touch h.o2 hT (hr (by decide) h.o2)
  o3 := own_touch h.o3 hT (hr (by decide) h.o3)
  o7 := own_touch h.o7 hT (hr (by decide) h.o7)
  n0 := h.n0
  n1 := h.n1
  n2 := h.n2
  n3 := h.n3
  n7 := h.n7
/-- the answers grow: the engine stands -/
theorem RunF.app {w : World} {g : Nat} {E : Eng} {S : SlotsE} {W W' : World} {b n : Nat} {v : Value} {xs : List Value} (h : RunF w g E S W) (ho : W.ownsRow b 39 5 v n xs) (hbw : w.heap.size ≤ b) (hg : W.grownBy W' v.ownBlock) : RunF w g E S W' := by
  have hT : Touch (fun k => v.ownBlock = some k) W W' := Touch.grown hg (fun k hk => hk)
  have hne : ¬ v.ownBlock = some g := fun e => own_not ho h.ef.tg (by decide) _ e rfl
  have hnw : ¬ v.ownBlock = some w.heap.size := fun e => own_not ho h.tr (by decide) _ e rfl
  exact {
    ef := h.ef.farR hne (fun hT' ho' r hr e => own_apart ho' ho hT' r r hr e rfl) hT
    r0 := (hT.cell h.sz hnw).trans h.r0
    r1 := (hT.cell h.sz hnw).trans h.r1
    z0 := (hT.frozen h.sz hnw).trans h.z0
    z1 := (hT.frozen h.sz hnw).trans h.z1
    tr := h.tr.touch hT hnw
    sz := Nat.lt_of_lt_of_le h.sz hT.size
    be := h.be.trans (hT.toBelow h.be.size (fun k hk => Nat.le_trans hbw (ho.lt k hk).1)) }
theorem script_bad {k : Int} (ls : List Acn) (h : ¬ (1 ≤ k ∧ k ≤ 32)) : scriptR k ls = ([], ([], []), 2) := by rw [scriptR, if_neg h]
theorem script_long {k : Int} {ls : List Acn} (h : 1 ≤ k ∧ k ≤ 32) (hl : ¬ ls.length ≤ 300) : scriptR k ls = ([], ([], []), 1) := by rw [scriptR, if_pos h, if_neg hl]
theorem script_on {m : Nat} {ls : List Acn} (h : 1 ≤ (m : Int) ∧ (m : Int) ≤ 32) (hl : ls.length ≤ 300) : scriptR m ls = ((runEs (eng0 m) ls).1, (runEs (eng0 m) ls).2.v, 0) := by rw [scriptR, if_pos h, if_pos hl, Int.toNat_natCast]

set_option maxRecDepth 100000 in
set_option maxHeartbeats 4000000 in
theorem run_engine (A : Option Addr) (n c : Nat) (k : Int) (ls : List Acn) (w : World) (h : Rep w w.heap.size 4 Acn.cell A n ls) (hn : n ≤ maxLen) (hwf : ∀ a ∈ ls, a.wf) :
    Calls Tryd.prog 16 #[.int .i64 k, .slice A n c] w (ScriptPost w (scriptR k ls)) := by
  have H := Lib.hid h
  have HL := Lib.hid h.1
  have HWF := Lib.hid hwf
  unfold maxLen at hn
  have hnw : ∀ W, Calls Tryd.prog 43 #[.int .i64 k] W (NewPost W (newBs k) (newK k)) := fun W => new_any k W
  have hf0 : NBoxF w w.heap.size (.slice none 0 0) (w.alloc (.cells #[.slice none 0 0, .slice none 0 0] 30)) := by
    refine ⟨?_, ?_, ?_, ?_, by simp⟩
    all_goals simp [go_sem]
  have hbe0 : Below w.heap.size w (w.alloc (.cells #[.slice none 0 0, .slice none 0 0] 30)) := (Below.refl _ _).alloc (Nat.le_refl _) _
  have HF0 := Lib.hid hf0
  have HBE0 := Lib.hid hbe0
  clear h hwf hf0 hbe0
  by_cases hk : 1 ≤ k ∧ k ≤ 32
  · obtain ⟨m, rfl⟩ : ∃ m : Nat, k = m := ⟨k.toNat, by omega⟩
    have e1 : newBs m = List.replicate m (-1) := by rw [newBs, if_pos hk, Int.toNat_natCast]
    have e2 : newK m = 0 := by rw [newK, if_pos hk]
    have hnw2 := hnw
    rw [e1, e2] at hnw2
    have HNW := Lib.hid hnw2
    have hm1 : 1 ≤ m := by omega
    have hm : m ≤ 32 := by omega
    have HM := Lib.hid hk
    clear hnw hnw2 e1 e2 hk
    by_cases hl : n ≤ 300
    · have d3 : decide ((n : Int) > 300) = false := decide_eq_false (by omega)
      have HSC := Lib.hid (script_on HM.out (show ls.length ≤ 300 by have := HL.out; omega))
      go_enter Tryd.func16, Tryd.ntmps16
      go_wp2_with fail
      refine (HNW.out _).mono ?_
      rintro e w1 ⟨B1, d1, rfl, hown1, hb1⟩
      rw [List.length_replicate] at hown1 ⊢
      have hm8 : m * 8 ≤ 140737488355328 := by omega
      have hnil1 := (own_nil hown1).2
      have hcp : ∀ W, Below w1.heap.size w1 W → Calls Tryd.prog 44 #[.agg #[.slice none 0 0, .slice B1 m d1]] W (VolPost W 0 m [] (List.replicate m (-1))) := fun W hb =>
        copy_any none B1 0 0 m d1 [] (List.replicate m (-1)) W (Rep.nil _ _ _ _ _) (((Rep.of_own (by rw [List.length_replicate]) hown1 (Nat.le_refl _)).below hb (Nat.le_refl _)).mono hb.size) (fun _ => ⟨rfl, rfl⟩) hnil1 (by omega) hm8
      have HCP := Lib.hid hcp
      have hw1 : w.heap.size < w1.heap.size := by have := hb1.size; simp at this; omega
      have hf := HF0.out.step hb1 HF0.out.sz
      have htr : IsCells w1 w.heap.size 30 := (IsCells.new w #[.slice none 0 0, .slice none 0 0] 30).below hb1
      have HTR := Lib.hid htr
      have HF1 := Lib.hid hf
      have HO1 := Lib.hid (own_mono hown1 (base' := w.heap.size) (by simp))
      have HB1 := Lib.hid (HBE0.out.trans (hb1.mono HBE0.out.size))
      have v0 : (w1.alloc (.cells #[.slice none 0 0, .slice B1 m d1] 30)).drew.cell? ⟨w1.heap.size, 0, none⟩ = some (.slice none 0 0) := by simp [go_sem]
      have v1 : (w1.alloc (.cells #[.slice none 0 0, .slice B1 m d1] 30)).drew.cell? ⟨w1.heap.size, 1, none⟩ = some (.slice B1 m d1) := by simp [go_sem]
      have V0 := Lib.hid v0
      have V1 := Lib.hid v1
      have HAL := Lib.hid (((Below.refl w1.heap.size w1).alloc (Nat.le_refl _) (.cells #[.slice none 0 0, .slice B1 m d1] 30)).drew)
      have hsz7 : w1.heap.size < (w1.alloc (.cells #[.slice none 0 0, .slice B1 m d1] 30)).drew.heap.size := by simp
      have HSZ7 := Lib.hid hsz7
      clear hown1 hb1 hcp hf htr hsz7 hnil1 hm8
      go_wp2
      go_region_with (go_at_call 44; (with_reducible refine (HCP.out _ HAL.out).mono ?_); rintro e w2 ⟨A2, c2, B2, d2, rfl, ho1, ho2, hb2, _, _, _, _, _, _⟩; have HO2 := Lib.hid ho1; have HO3 := Lib.hid ho2; have HB2 := Lib.hid hb2; have v0' := (hb2.cell (p := ⟨w1.heap.size, 0, none⟩) HSZ7.out).trans V0.out; have v1' := (hb2.cell (p := ⟨w1.heap.size, 1, none⟩) HSZ7.out).trans V1.out; clear ho1 ho2 hb2 v0 v1)
      all_goals
        have hrun : RunF w w2.heap.size (eng0 m) ⟨none, 0, B1, d1, A2, c2, B2, d2, none, 0⟩ (w2.alloc (.cells #[.slice none 0 0, .slice B1 m d1, .slice A2 0 c2, .slice B2 m d2, .string ⟨#[]⟩, .string ⟨#[]⟩, .bool false, .slice none 0 0] 88)) := by
          have hw2 : w1.heap.size < w2.heap.size := by have := HB2.out.size; have := HSZ7.out; omega
          have hb12 : Below w1.heap.size w1 w2 := HAL.out.trans (HB2.out.mono (Nat.le_of_lt HSZ7.out))
          have al := (Below.refl w2.heap.size w2).alloc (Nat.le_refl _) (.cells #[.slice none 0 0, .slice B1 m d1, .slice A2 0 c2, .slice B2 m d2, .string ⟨#[]⟩, .string ⟨#[]⟩, .bool false, .slice none 0 0] 88)
          have hb13 : Below w1.heap.size w1 (w2.alloc (.cells #[.slice none 0 0, .slice B1 m d1, .slice A2 0 c2, .slice B2 m d2, .string ⟨#[]⟩, .string ⟨#[]⟩, .bool false, .slice none 0 0] 88)) := hb12.trans (al.mono hb12.size)
          have hlen : (List.replicate m (-1 : Int)).length = m := by rw [List.length_replicate]
          have tg := IsCells.new w2 #[.slice none 0 0, .slice B1 m d1, .slice A2 0 c2, .slice B2 m d2, .string ⟨#[]⟩, .string ⟨#[]⟩, .bool false, .slice none 0 0] 88
          have q1 : (w2.alloc (.cells #[.slice none 0 0, .slice B1 m d1, .slice A2 0 c2, .slice B2 m d2, .string ⟨#[]⟩, .string ⟨#[]⟩, .bool false, .slice none 0 0] 88)).ownsRow w.heap.size 3 1 (.slice B1 (eng0 m).v.2.length d1) (eng0 m).v.2.length (flat intCell 1 (eng0 m).v.2) := by
            simp only [eng0, hlen]; exact own_below HO1.out hb13
          have q2 : (w2.alloc (.cells #[.slice none 0 0, .slice B1 m d1, .slice A2 0 c2, .slice B2 m d2, .string ⟨#[]⟩, .string ⟨#[]⟩, .bool false, .slice none 0 0] 88)).ownsRow w.heap.size 42 3 (.slice A2 (eng0 m).base.1.length c2) (eng0 m).base.1.length (flat Itm.cell 3 (eng0 m).base.1) := by
            simp only [eng0, List.length_nil]; exact own_below (own_mono HO2.out (by have := HSZ7.out; omega)) al
          have q3 : (w2.alloc (.cells #[.slice none 0 0, .slice B1 m d1, .slice A2 0 c2, .slice B2 m d2, .string ⟨#[]⟩, .string ⟨#[]⟩, .bool false, .slice none 0 0] 88)).ownsRow w.heap.size 3 1 (.slice B2 (eng0 m).base.2.length d2) (eng0 m).base.2.length (flat intCell 1 (eng0 m).base.2) := by
            simp only [eng0, hlen]; exact own_below (own_mono HO3.out (by have := HSZ7.out; omega)) al
          refine ⟨⟨?_, ?_, ?_, ?_, ?_, ?_, ?_, ?_, ?_, tg, by omega, by simp, World.ownsRow_nil _ _ _ _, q1, q2, q3, World.ownsRow_nil _ _ _ _, fun r hr => by simp [Value.ownBlock] at hr, own_not q1 tg (by decide), own_not q2 tg (by decide), own_not q3 tg (by decide), fun r hr => by simp [Value.ownBlock] at hr⟩,
            (hb13.cell (p := ⟨w.heap.size, 0, none⟩) hw1).trans HF1.out.a0, (hb13.cell (p := ⟨w.heap.size, 1, none⟩) hw1).trans HF1.out.a1, (hb13.frozen (p := ⟨w.heap.size, 0, none⟩) hw1).trans HF1.out.z0, (hb13.frozen (p := ⟨w.heap.size, 1, none⟩) hw1).trans HF1.out.z1, ?_, by simp; omega, HB1.out.trans (hb13.mono HB1.out.size)⟩
          · simp [go_sem, eng0]
          · simp [go_sem, eng0]
          · simp [go_sem, eng0]
          · simp [go_sem, eng0]
          · simp [go_sem, eng0, bstr]
          · simp [go_sem, eng0, bstr]
          · simp [go_sem, eng0]
          · simp [go_sem, eng0]
          · intro i; simp [go_sem]
          · obtain ⟨cs, hcs⟩ := HTR.out
            exact ⟨cs, (hb13.block _ (Array.getElem?_eq_some_iff.1 hcs).1).trans hcs⟩
        have HRUN := Lib.hid hrun
        clear hrun v0' v1'
        obtain ⟨g, hg⟩ : ∃ g, w2.heap.size = g := ⟨_, rfl⟩
        rw [hg] at HRUN
        go_wp2
        clear hg
        go_loopw [10, 33] (fun v t wr => ∃ (i : Nat) (E : Eng) (S : SlotsE) (out : List Ans), i ≤ n ∧ t = .int .i64 i ∧ out.length = i ∧ RunF w g E S wr ∧ wr.ownsRow w.heap.size 39 5 v i (flat Ans.cell 5 out) ∧ Hid (∃ H, Sim E H) ∧ Hid (runEs (eng0 m) ls = (out ++ (runEs E (ls.drop i)).1, (runEs E (ls.drop i)).2))) (fun _ t _ => n - (intOf t).toNat)
        case atStart => exact ⟨0, _, _, [], Nat.zero_le _, rfl, rfl, HRUN.out, World.ownsRow_nil _ _ _ _, Lib.hid ⟨_, sim0 hm1 hm⟩, Lib.hid (by rw [List.drop_zero]; rfl)⟩
        case round =>
          obtain ⟨i, E, S, out, hi, rfl, hol, hrf, hown, hsim, hinv⟩ := hrel
          have HR := Lib.hid hrf
          have HO := Lib.hid hown
          have HOL := Lib.hid hol
          by_cases hlt : i < n
          · obtain ⟨b, off, rfl, hb, a0, a1, a2, a3⟩ := acts_at (k := i) (H.out.below hrf.be (Nat.le_refl _)) hlt
            have hil : i < ls.length := by have := HL.out; omega
            have hwa := HWF.out _ (List.getElem_mem hil)
            have hnext := hinv.out
            rw [List.drop_eq_getElem_cons hil, runEs] at hnext
            obtain ⟨a, ha⟩ : ∃ a, ls[i]'hil = a := ⟨_, rfl⟩
            rw [ha] at a0 a1 a2 a3 hwa hnext
            obtain ⟨SH, hSH⟩ := hsim.out
            have hact := fun (W : World) (hW : EngF w.heap.size g E S W) => act_any w.heap.size g E S a W hW hSH.good hwa.2.1 hwa.2.2.1 hwa.2.2.2
            have hsim2 := (sim_act hSH a).2
            obtain ⟨E', x, hx⟩ : ∃ E' x, actE E a = (E', x) := ⟨_, _, rfl⟩
            rw [hx] at hact hnext hsim2
            have HACT := Lib.hid hact
            have HNX := Lib.hid hnext
            have HS2 : Hid (∃ H, Sim E' H) := Lib.hid ⟨_, hsim2⟩
            obtain ⟨kind, block, data, keep⟩ := a
            obtain ⟨xc, xd, xi, xl, xn⟩ := x
            dsimp only at a0 a1 a2 a3
            unfold actV ansV at HACT
            dsimp only at HACT
            have HRA := Lib.hid (hrf.step ((Below.refl _ _).alloc (Nat.le_refl _) (.cells #[.int .i64 kind, .int .i64 block, .string data, .int .i64 keep] 36)))
            have HOA := Lib.hid (hown.alloc (.cells #[.int .i64 kind, .int .i64 block, .string data, .int .i64 keep] 36))
            clear hb ha hwa hnext hact hsim2 hx hSH hrf hown hsim hinv hol
            obtain ⟨i0, ii, iz0, iz1, iz2⟩ := info_parts infoAns
            have II := Lib.hid ii
            have IZ0 := Lib.hid iz0
            have IZ1 := Lib.hid iz1
            have IZ2 := Lib.hid iz2
            clear ii iz0 iz1 iz2
            go_wp2_with fail
            refine (HACT.out _ HRA.out.ef).mono ?_
            rintro e W2 ⟨rfl, S2, h2, hT2⟩
            have hr2 := HRA.out.act h2 hT2
            have HR2 := Lib.hid (hr2.step ((Below.refl _ _).alloc (Nat.le_refl _) (.cells #[.int .i64 xc, .string xd, .int .i64 xi, .int .i64 xl, .int .i64 xn] 39)))
            have HO2 := Lib.hid (own_act HRA.out hT2 HOA.out)
            have HB2 := Lib.hid hr2.be
            clear h2 hT2 hr2
            go_wp2_with (at_builtin; refine wpList_append_own _ rfl (.tmp 37) (.tmp 41) 26 rfl w.heap.size 39 i0 _ 5 48 Tryd.underlying26 II.out IZ0.out IZ1.out IZ2.out rfl (by decide) _ _ _ rfl (HO2.out.alloc _) ⟨W2.heap.size, 0, none⟩ 1 1 [.int .i64 xc, .string xd, .int .i64 xi, .int .i64 xl, .int .i64 xn] rfl rfl (World.news_of_block (cs := #[.int .i64 xc, .string xd, .int .i64 xi, .int .i64 xl, .int .i64 xn]) (t := 39) (fr := (0, 0)) (heap_alloc_new W2 _)) (by simp [Value.oneCell']) (by unfold maxLen; omega) (by omega) (by have := HB2.out.size; simp; omega) ?_; intro v' W3 hown3 hgr3 _)
            have HR3 := Lib.hid (HR2.out.app (HO2.out.alloc _) (Nat.le_refl _) hgr3)
            have ho3 : W3.ownsRow w.heap.size 39 5 v' (i + 1) (flat Ans.cell 5 (out ++ [(⟨xc, xd, xi, xl, xn⟩ : Ans)])) := by
              rw [flat_append, ans_flat1]; exact hown3
            have HNX2 : Hid (runEs (eng0 m) ls = ((out ++ [(⟨xc, xd, xi, xl, xn⟩ : Ans)]) ++ (runEs E' (ls.drop (i + 1))).1, (runEs E' (ls.drop (i + 1))).2)) := Lib.hid (by rw [HNX.out]; simp)
            clear hgr3 hown3
            go_wp2
            go_roundw
            case rel => exact ⟨i + 1, E', S2, _, by omega, by go_num, by rw [List.length_append, HOL.out]; rfl, HR3.out, ho3, HS2, HNX2⟩
            case measure => simp [intOf]; omega
          · obtain rfl : i = n := by omega
            obtain ⟨SH, hSH⟩ := hsim.out
            have hvg := hSH.good.vol
            have hfin : runEs (eng0 m) ls = (out, E) := by rw [hinv.out, List.drop_of_length_le (by have := HL.out; omega)]; simp [runEs]
            have hsc := HSC.out
            rw [hfin] at hsc
            have HSC2 := Lib.hid hsc
            have k0 := hrf.ef.k0
            have k1 := hrf.ef.k1
            have hcp2 := copy_any S.A0 S.A1 E.v.1.length S.c0 E.v.2.length S.c1 E.v.1 E.v.2 wr hrf.ef.repV hrf.ef.repVB (own_nil hrf.ef.o0).2 (own_nil hrf.ef.o1).2 (by have := hvg.good.1; omega) (by have := hvg.hi; omega)
            have HCP2 := Lib.hid hcp2
            obtain ⟨Ax, cx, rfl⟩ := own_slice2 hown
            clear hcp2 hsc hfin hSH hvg hsim hinv hown hrf
            go_wp2_with fail
            refine HCP2.out.mono ?_
            rintro e w5 ⟨A8, c8, A9, c9, rfl, hp1, hp2, hb5, _, _, _, _, _, _⟩
            have h5 := HR.out.step hb5
            have r0 := h5.r0
            have r1 := h5.r1
            have z0 := h5.z0
            have z1 := h5.z1
            have hws := HR.out.sz
            have HP1 := Lib.hid (own_mono (ownsRow_setCell_below (ownsRow_setCell_below hp1 (a := ⟨w.heap.size, 0, none⟩) (by exact hws) (.slice A8 E.v.1.length c8)) (a := ⟨w.heap.size, 1, none⟩) (by exact hws) (.slice A9 E.v.2.length c9)) (base' := w.heap.size) (Nat.le_of_lt hws))
            have HP2 := Lib.hid (own_mono (ownsRow_setCell_below (ownsRow_setCell_below hp2 (a := ⟨w.heap.size, 0, none⟩) (by exact hws) (.slice A8 E.v.1.length c8)) (a := ⟨w.heap.size, 1, none⟩) (by exact hws) (.slice A9 E.v.2.length c9)) (base' := w.heap.size) (Nat.le_of_lt hws))
            have hoo := own_below HO.out hb5
            have hT5 : Touch (fun k => k = w.heap.size) w5 ((w5.setCell ⟨w.heap.size, 0, none⟩ (.slice A8 E.v.1.length c8)).setCell ⟨w.heap.size, 1, none⟩ (.slice A9 E.v.2.length c9)) :=
              (Touch.setCell (R := fun k => k = w.heap.size) ⟨w.heap.size, 0, none⟩ rfl _).trans (Touch.setCell (R := fun k => k = w.heap.size) ⟨w.heap.size, 1, none⟩ rfl _)
            have HOO := Lib.hid (own_touch hoo hT5 (own_not hoo h5.tr (by decide)))
            have HB5 := Lib.hid ((h5.be.setCell (p := ⟨w.heap.size, 0, none⟩) (Nat.le_refl _) (.slice A8 E.v.1.length c8)).setCell (p := ⟨w.heap.size, 1, none⟩) (Nat.le_refl _) (.slice A9 E.v.2.length c9))
            clear hp1 hp2 hb5 h5 hoo hT5 k0 k1
            go_wp2
            refine bodyPost_ret (v := .tuple #[.slice Ax i cx, .agg #[.slice A8 E.v.1.length c8, .slice A9 E.v.2.length c9], .int .i64 0]) (by simp [results, Tryd.results16, go_sem, r0, r1]) rfl ?_
            rw [HSC2.out]
            have hol := HOL.out
            subst hol
            exact ⟨Ax, cx, A8, c8, A9, c9, rfl, HOO.out, HP1.out, HP2.out, HB5.out⟩
    · have d3 : decide ((n : Int) > 300) = true := decide_eq_true (by omega)
      have HSC := Lib.hid (script_long HM.out (show ¬ ls.length ≤ 300 by have := HL.out; omega))
      go_enter Tryd.func16, Tryd.ntmps16
      go_wp2_with fail
      refine (HNW.out _).mono ?_
      rintro e w1 ⟨B1, d1, rfl, hown1, hb1⟩
      rw [List.length_replicate] at hown1 ⊢
      have al := (Below.refl w1.heap.size w1).alloc (Nat.le_refl _) (.cells #[.slice none 0 0, .slice B1 m d1] 30)
      have hf := (HF0.out.step hb1 HF0.out.sz)
      have r0 := hf.a0
      have r1 := hf.a1
      have z0 := hf.z0
      have z1 := hf.z1
      have hs1 := hf.sz
      have HB1 := Lib.hid (HBE0.out.trans (hb1.mono HBE0.out.size))
      clear hown1 hb1 al hf
      go_wp2
      refine bodyPost_ret (v := .tuple #[.slice none 0 0, .agg #[.slice none 0 0, .slice none 0 0], .int .i64 1]) (by simp [results, Tryd.results16, go_sem, r0, r1, hs1, Nat.ne_of_lt hs1]) rfl ?_
      exact ScriptPost.nil HSC.out (((HB1.out.setCell (p := ⟨w.heap.size, 0, none⟩) (Nat.le_refl _) _).setCell (p := ⟨w.heap.size, 1, none⟩) (Nat.le_refl _) _).alloc (by simp; omega) _)
  · have e1 : newBs k = [] := by rw [newBs, if_neg hk]
    have e2 : newK k = 2 := by rw [newK, if_neg hk]
    have hnw2 := hnw
    rw [e1, e2] at hnw2
    have HNW := Lib.hid hnw2
    have HSC := Lib.hid (script_bad ls hk)
    clear hnw hnw2 e1 e2 hk
    go_enter Tryd.func16, Tryd.ntmps16
    go_wp2_with fail
    refine (HNW.out _).mono ?_
    rintro e w1 ⟨B1, d1, rfl, hown1, hb1⟩
    have hf := (HF0.out.step hb1 HF0.out.sz)
    have r0 := hf.a0
    have r1 := hf.a1
    have z0 := hf.z0
    have z1 := hf.z1
    have hs1 := hf.sz
    have HB1 := Lib.hid (HBE0.out.trans (hb1.mono HBE0.out.size))
    clear hown1 hb1 hf
    go_wp2
    refine bodyPost_ret (v := .tuple #[.slice none 0 0, .agg #[.slice none 0 0, .slice none 0 0], .int .i64 2]) (by simp [results, Tryd.results16, go_sem, r0, r1, hs1, Nat.ne_of_lt hs1]) rfl ?_
    exact ScriptPost.nil HSC.out (((HB1.out.setCell (p := ⟨w.heap.size, 0, none⟩) (Nat.le_refl _) _).setCell (p := ⟨w.heap.size, 1, none⟩) (Nat.le_refl _) _).alloc (by simp; omega) _)
end Go.Proofs.YtphbebcbbfbgpacDoor
