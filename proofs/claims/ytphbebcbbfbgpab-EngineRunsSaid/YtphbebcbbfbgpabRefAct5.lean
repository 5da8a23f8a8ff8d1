/- The reference's act: commit. The reference's act: crash. -/
import Derived.Test.YtphbebcbbfbgpabRefAct3
import Derived.Deep.RegionHeld3
namespace Go.Proofs.Ytphbebcbbfbgpab
open Go Go.RowKit

theorem infoDeal : (Try.prog.info? 141).map (fun i => (i.zero, i.size, i.bytes)) = some (some (.agg #[.slice none 0 0, .int .i64 0]), 2, 32) := by kernel_rfl
theorem deal_one (ls : List Dl) : ∀ u ∈ flat Dl.cell 2 ls, u.oneCell' = true := by
  intro u hu
  obtain ⟨j, hj⟩ := List.getElem?_of_mem hu
  obtain ⟨k, i, hk, hi, _, rfl⟩ := flat_split ls j u hj
  match i, hi with
  | 0, _ => rfl
  | 1, _ => rfl
theorem GoodH.closed {H : Hse} (g : GoodH H) : GoodH { H with opened := false, ws := [] } := ⟨g.pre, g.blocks, g.deals, ⟨by simp, by simp, by simp, by simp, .nil⟩, g.sum, g.last⟩
theorem HRep.adds {w : World} {B : Nat} {x : HV} {H : Hse} {A AL : Option Addr} {c cl r n : Nat} {ws : List Wrt} (h : HRep w B x H) (hn : n = H.deals.length + 1) (hd : Rep w B 2 Dl.cell A n (x.ds ++ [⟨AL, cl, ws, r⟩])) (hl : Rep w B 2 Wrt.cell AL ws.length ws) (nD : A = none → n = 0 ∧ c = 0) (cap : n ≤ c) (cm : c ≤ maxLen) :
    HRep w B { x with AD := A, cd := c, ds := x.ds ++ [⟨AL, cl, ws, r⟩] } { H with deals := H.deals ++ [(ws, r)] } := by
  have e : (H.deals ++ [(ws, r)]).length = n := by rw [hn]; simp
  refine ⟨h.items, h.blocks, by simp only; rw [e]; exact hd, ?_, by simp only; rw [h.eq]; simp, h.l, h.n0, h.n1, by simp only; rw [e]; exact nD, by simp only; rw [e]; exact cap, cm⟩
  intro d hd
  rcases List.mem_append.1 hd with hd | hd
  · exact h.dws d hd
  · rw [List.mem_singleton.1 hd]; exact hl
theorem HAct.closed {w W : World} {x : HV} {H : Hse} {a : Acn} {q : Nat} {A : Option Addr} {c : Nat} {B : Option Addr} {d : Nat} {V : Vol} {o : Ans} (h : HAct w x H a q A c B d V o W) :
    HAct w { x with AL := none, cl := 0 } { H with opened := false, ws := [] } a q A c B d V o ((W.setCell ⟨w.heap.size, 4, none⟩ (.bool false)).setCell ⟨w.heap.size, 5, none⟩ (.slice none 0 0)) := by
  have hT : Touch (fun k => k = w.heap.size) W ((W.setCell ⟨w.heap.size, 4, none⟩ (.bool false)).setCell ⟨w.heap.size, 5, none⟩ (.slice none 0 0)) := (Touch.setCell (R := fun k => k = w.heap.size) ⟨w.heap.size, 4, none⟩ rfl _).trans (Touch.setCell (R := fun k => k = w.heap.size) ⟨w.heap.size, 5, none⟩ rfl _)
  have hR : Touch (ActR w) W ((W.setCell ⟨w.heap.size, 4, none⟩ (.bool false)).setCell ⟨w.heap.size, 5, none⟩ (.slice none 0 0)) := hT.mono (fun k _ hk => by subst hk; exact ⟨by omega, by omega⟩)
  have hs := h.f.sz
  have hq := h.q1
  obtain ⟨W', hW'⟩ : ∃ W', (W.setCell ⟨w.heap.size, 4, none⟩ (.bool false)).setCell ⟨w.heap.size, 5, none⟩ (.slice none 0 0) = W' := ⟨_, rfl⟩
  have hc : ∀ k j, w.heap.size < k → k < W.heap.size → W'.cell? ⟨k, j, none⟩ = W.cell? ⟨k, j, none⟩ := fun k j h1 h2 => by rw [← hW']; exact hT.cell (by dsimp only; omega) (by dsimp only; omega)
  have hf : ∀ p, W'.frozen? p = W.frozen? p := fun p => by rw [← hW', World.frozen?_setCell, World.frozen?_setCell]
  have e0 : W'.cell? ⟨w.heap.size, 0, none⟩ = some (.slice x.A0 H.base.1.length x.c0) := by rw [← hW']; simp [go_sem, h.f.h0]
  have e1 : W'.cell? ⟨w.heap.size, 1, none⟩ = some (.slice x.A1 H.base.2.length x.c1) := by rw [← hW']; simp [go_sem, h.f.h1]
  have e2 : W'.cell? ⟨w.heap.size, 2, none⟩ = some (.slice x.AD H.deals.length x.cd) := by rw [← hW']; simp [go_sem, h.f.h2]
  have e3 : W'.cell? ⟨w.heap.size, 3, none⟩ = some (.int .i64 H.last) := by rw [← hW']; simp [go_sem, h.f.h3]
  have e4 : W'.cell? ⟨w.heap.size, 4, none⟩ = some (.bool false) := by rw [← hW']; simp [go_sem, h.f.h4]
  have e5 : W'.cell? ⟨w.heap.size, 5, none⟩ = some (.slice none 0 0) := by rw [← hW']; simp [go_sem, h.f.h5]
  rw [hW'] at hT hR ⊢
  refine ⟨?_, (hT.cell h.q2 (by dsimp only; omega)).trans h.v0, (hT.cell h.q2 (by dsimp only; omega)).trans h.v1, h.q1, Nat.lt_of_lt_of_le h.q2 hT.size, h.st.step hR⟩
  exact ⟨e0, e1, e2, e3, e4, e5,
    (hc _ _ (by omega) (by omega)).trans h.f.a0, (hc _ _ (by omega) (by omega)).trans h.f.a1, (hc _ _ (by omega) (by omega)).trans h.f.a2, (hc _ _ (by omega) (by omega)).trans h.f.a3,
    (hc _ _ (by omega) (by omega)).trans h.f.r0, (hc _ _ (by omega) (by omega)).trans h.f.r1, (hc _ _ (by omega) (by omega)).trans h.f.r2, (hc _ _ (by omega) (by omega)).trans h.f.r3, (hc _ _ (by omega) (by omega)).trans h.f.r4, (hc _ _ (by omega) (by omega)).trans h.f.r5,
    (hc _ _ (by omega) (by omega)).trans h.f.s0, (hc _ _ (by omega) (by omega)).trans h.f.s1, (hc _ _ (by omega) (by omega)).trans h.f.s2, (hc _ _ (by omega) (by omega)).trans h.f.s3, (hc _ _ (by omega) (by omega)).trans h.f.s4,
    (hc _ _ (by omega) (by omega)).trans h.f.o0, (hc _ _ (by omega) (by omega)).trans h.f.o1, (hc _ _ (by omega) (by omega)).trans h.f.o2, (hc _ _ (by omega) (by omega)).trans h.f.o3, (hc _ _ (by omega) (by omega)).trans h.f.o4,
    fun j => (hf _).trans (h.f.fh j), fun j => (hf _).trans (h.f.fr j), fun j => (hf _).trans (h.f.fs j), fun j => (hf _).trans (h.f.fo j), h.f.be.trans (hR.toBelow h.f.be.size (fun k hk => hk.1)), Nat.lt_of_lt_of_le hs hT.size⟩

set_option maxRecDepth 100000 in
set_option maxHeartbeats 4000000 in
theorem ref_commit_no (x : HV) (H : Hse) (a : Acn) (R : Nat → Prop) (w : World) (hsty : HStay R w x H) (hR : ∀ k, R k → k < w.heap.size) (g : GoodH H) (hk : a.kind = 4) (ho : H.opened = false) :
    Calls Try.prog 62 #[houseV x H, actV a] w (ActedPost R w (actH H a)) := by
  have h := hsty.now
  obtain ⟨kind, block, data, keep⟩ := a
  dsimp only at hk
  subst hk
  have e : actH H ⟨4, block, data, keep⟩ = (H, Ans.of 7) := by
    rw [actH, if_neg (by simp), if_neg (by simp), if_neg (by simp), if_pos rfl, commitH, ho]; simp
  rw [e]
  have HO := Lib.hid ho
  clear e ho
  have HNOW := Lib.hid (now_stay (ActS R w) x H (world5 w x H ⟨4, block, data, keep⟩) (hsty.later (world5_below w x H _)) (fun k hk => hk.lt) g)
  have HREP := Lib.hid h
  have HSTY := Lib.hid hsty
  have HRLT := Lib.hid hR
  have HG := Lib.hid g
  unfold houseV at HNOW ⊢
  unfold actV
  clear h hsty hR g
  go_enter Try.func62, Try.ntmps62
  go_wp2_with fail
  refine HNOW.out.mono ?_
  rintro e w1 ⟨A, c, B, d, rfl, hst, hb⟩
  have HA := Lib.hid (HAct.new (hst.weak (fun k hk => .inl ⟨.inl hk.1, hk.2⟩)) hb)
  have HSV := Lib.hid ((hst.weak (R' := ActS R w) (fun k hk => .inl hk)).step (Touch.below ((Below.refl w1.heap.size w1).alloc (Nat.le_refl _) (.cells #[.slice A (nowH H).1.length c, .slice B (nowH H).2.length d] 30))))
  clear hst hb HNOW
  go_upto_region 3 with (fail)
  obtain ⟨W, hW⟩ : ∃ W, W = w1.alloc (.cells #[.slice A (nowH H).1.length c, .slice B (nowH H).2.length d] 30) := ⟨_, rfl⟩
  rw [← hW] at HA HSV ⊢
  obtain ⟨q, hq⟩ : ∃ q, w1.heap.size = q := ⟨_, rfl⟩
  rw [hq] at HA ⊢
  clear hW hq
  have h0 := HA.out.f.h0
  have h1 := HA.out.f.h1
  have h2 := HA.out.f.h2
  have h3 := HA.out.f.h3
  have h4 := HA.out.f.h4
  have h5 := HA.out.f.h5
  have a0 := HA.out.f.a0
  have a1 := HA.out.f.a1
  have a2 := HA.out.f.a2
  have a3 := HA.out.f.a3
  have r0 := HA.out.f.r0
  have r1 := HA.out.f.r1
  have r2 := HA.out.f.r2
  have r3 := HA.out.f.r3
  have r4 := HA.out.f.r4
  have r5 := HA.out.f.r5
  have s0 := HA.out.f.s0
  have s1 := HA.out.f.s1
  have s2 := HA.out.f.s2
  have s3 := HA.out.f.s3
  have s4 := HA.out.f.s4
  have o0 := HA.out.f.o0
  have o1 := HA.out.f.o1
  have o2 := HA.out.f.o2
  have o3 := HA.out.f.o3
  have o4 := HA.out.f.o4
  have fh0 := HA.out.f.fh 0
  have fh1 := HA.out.f.fh 1
  have fh2 := HA.out.f.fh 2
  have fh3 := HA.out.f.fh 3
  have fh4 := HA.out.f.fh 4
  have fh5 := HA.out.f.fh 5
  have fr0 := HA.out.f.fr 0
  have fr1 := HA.out.f.fr 1
  have fr2 := HA.out.f.fr 2
  have fr3 := HA.out.f.fr 3
  have fr4 := HA.out.f.fr 4
  have fr5 := HA.out.f.fr 5
  have fs0 := HA.out.f.fs 0
  have fs1 := HA.out.f.fs 1
  have fs2 := HA.out.f.fs 2
  have fs3 := HA.out.f.fs 3
  have fs4 := HA.out.f.fs 4
  have fo0 := HA.out.f.fo 0
  have fo1 := HA.out.f.fo 1
  have fo2 := HA.out.f.fo 2
  have fo3 := HA.out.f.fo 3
  have fo4 := HA.out.f.fo 4
  have v0 := HA.out.v0
  have v1 := HA.out.v1
  have q1 := HA.out.q1
  dsimp only [Ans.of, noData] at a0 a1 a2 a3 o0 o1 o2 o3 o4
  rw [HO.out] at h4
  go_wp2
  go_region
  all_goals
    go_wp2
    refine bodyPost_ret (v := .tuple #[.agg #[.slice x.A0 H.base.1.length x.c0, .slice x.A1 H.base.2.length x.c1, .slice x.AD H.deals.length x.cd, .int .i64 H.last, .bool false, .slice x.AL H.ws.length x.cl], .agg #[.int .i64 7, .string ⟨#[]⟩, .int .i64 0, .int .i64 0, .int .i64 0]]) (by simp [results, Try.results62, go_sem, r0, r1, r2, r3, r4, r5, s0, s1, s2, s3, s4]) rfl ?_
    refine ActedPost.of HA.out ?_ x (by unfold houseV ansV; simp only [HO.out]; rfl) ?_ HRLT.out
    · ((repeat (with_reducible first | exact Touch.refl _ _ | refine Touch.setC ?_ _ ?_ _ | refine Touch.drawC ?_ _ | refine Touch.drawO ?_)) <;> (dsimp only [ActR]; omega))
    · exact fun W' hT => HA.out.repS HSTY.out W' hT

set_option maxRecDepth 100000 in
set_option maxHeartbeats 4000000 in
theorem ref_commit_bad (x : HV) (H : Hse) (a : Acn) (R : Nat → Prop) (w : World) (hsty : HStay R w x H) (hR : ∀ k, R k → k < w.heap.size) (g : GoodH H) (hk : a.kind = 4) (ho : H.opened = true) (hea : (appliedR (nowH H).1 (nowH H).2 H.ws).2.2 ≠ 0) :
    Calls Try.prog 62 #[houseV x H, actV a] w (ActedPost R w (actH H a)) := by
  have h := hsty.now
  obtain ⟨kind, block, data, keep⟩ := a
  dsimp only at hk
  subst hk
  have hwk : writesK H.ws ((nowH H).2.length : Nat) = 0 := writesK_zero.2 (by rw [g.blocks]; exact g.ws)
  obtain ⟨r, hr⟩ : ∃ r, appliedR (nowH H).1 (nowH H).2 H.ws = r := ⟨_, rfl⟩
  obtain ⟨us, cs, ea⟩ := r
  obtain ⟨S, hS⟩ : ∃ S, bstr (recL H.ws) = S := ⟨_, rfl⟩
  have hSs : S.size = (recL H.ws).length := by rw [← hS, bstr_size]
  have hS620 : S.size ≤ 620 := by rw [hSs]; exact recL_le g.ws
  have hrecR : recR H.ws ((nowH H).2.length : Nat) = S := by rw [recR, if_pos hwk, hS]
  have h500 := g.nd
  have h4000 := g.sum
  have hw12 := g.ws.len
  rw [hr] at hea
  dsimp only at hea
  have e : actH H ⟨4, block, data, keep⟩ = ({ H with opened := false, ws := [] }, Ans.of ea) := by
    rw [actH, if_neg (by simp), if_neg (by simp), if_neg (by simp), if_pos rfl, commitH, if_pos ho]
    simp [hr, hea]
  rw [e]
  have de : (ea == 0) = false := by simp [hea]
  clear e hea
  have HWK := Lib.hid hwk
  have HR := Lib.hid hr
  have HRECR := Lib.hid hrecR
  have HSS := Lib.hid hSs
  have hlen : ∀ W', HRep W' W'.heap.size { x with AL := none, cl := 0 } { H with opened := false, ws := [] } → Calls Try.prog 87 #[houseV { x with AL := none, cl := 0 } { H with opened := false, ws := [] }, .int .i64 H.deals.length] W' fun e w' => e = .returned (.int .i64 (lenH H H.deals.length)) ∧ Below W'.heap.size W' w' := fun W' hr => length_any _ { H with opened := false, ws := [] } _ W' hr g.closed (Nat.le_refl _)
  unfold houseV at hlen
  have HLEN := Lib.hid hlen
  have HO := Lib.hid ho
  clear hwk hr hS hSs hrecR hlen ho
  have HNOW := Lib.hid (now_stay (ActS R w) x H (world5 w x H ⟨4, block, data, keep⟩) (hsty.later (world5_below w x H _)) (fun k hk => hk.lt) g)
  have HREP := Lib.hid h
  have HSTY := Lib.hid hsty
  have HRLT := Lib.hid hR
  have HG := Lib.hid g
  unfold houseV at HNOW ⊢
  unfold actV
  clear h hsty hR g
  go_enter Try.func62, Try.ntmps62
  go_wp2_with fail
  refine HNOW.out.mono ?_
  rintro e w1 ⟨A, c, B, d, rfl, hst, hb⟩
  have HA := Lib.hid (HAct.new (hst.weak (fun k hk => .inl ⟨.inl hk.1, hk.2⟩)) hb)
  have HSV := Lib.hid ((hst.weak (R' := ActS R w) (fun k hk => .inl hk)).step (Touch.below ((Below.refl w1.heap.size w1).alloc (Nat.le_refl _) (.cells #[.slice A (nowH H).1.length c, .slice B (nowH H).2.length d] 30))))
  clear hst hb HNOW
  go_upto_region 3 with (fail)
  obtain ⟨W, hW⟩ : ∃ W, W = w1.alloc (.cells #[.slice A (nowH H).1.length c, .slice B (nowH H).2.length d] 30) := ⟨_, rfl⟩
  rw [← hW] at HA HSV ⊢
  obtain ⟨q, hq⟩ : ∃ q, w1.heap.size = q := ⟨_, rfl⟩
  rw [hq] at HA ⊢
  clear hW hq
  have hn1 : (nowH H).1.length ≤ 1000 := by have := (HG.out.pre H.deals.length).good.1; rw [List.take_of_length_le (Nat.le_refl _)] at this; exact Nat.le_trans this (by omega)
  have hn2 : (nowH H).2.length ≤ 32 := by have := (HG.out.pre H.deals.length).hi; rw [List.take_of_length_le (Nat.le_refl _)] at this; exact Nat.le_trans this (by omega)
  have h0 := HA.out.f.h0
  have h1 := HA.out.f.h1
  have h2 := HA.out.f.h2
  have h3 := HA.out.f.h3
  have h4 := HA.out.f.h4
  have h5 := HA.out.f.h5
  have a0 := HA.out.f.a0
  have a1 := HA.out.f.a1
  have a2 := HA.out.f.a2
  have a3 := HA.out.f.a3
  have r0 := HA.out.f.r0
  have r1 := HA.out.f.r1
  have r2 := HA.out.f.r2
  have r3 := HA.out.f.r3
  have r4 := HA.out.f.r4
  have r5 := HA.out.f.r5
  have s0 := HA.out.f.s0
  have s1 := HA.out.f.s1
  have s2 := HA.out.f.s2
  have s3 := HA.out.f.s3
  have s4 := HA.out.f.s4
  have o0 := HA.out.f.o0
  have o1 := HA.out.f.o1
  have o2 := HA.out.f.o2
  have o3 := HA.out.f.o3
  have o4 := HA.out.f.o4
  have fh0 := HA.out.f.fh 0
  have fh1 := HA.out.f.fh 1
  have fh2 := HA.out.f.fh 2
  have fh3 := HA.out.f.fh 3
  have fh4 := HA.out.f.fh 4
  have fh5 := HA.out.f.fh 5
  have fr0 := HA.out.f.fr 0
  have fr1 := HA.out.f.fr 1
  have fr2 := HA.out.f.fr 2
  have fr3 := HA.out.f.fr 3
  have fr4 := HA.out.f.fr 4
  have fr5 := HA.out.f.fr 5
  have fs0 := HA.out.f.fs 0
  have fs1 := HA.out.f.fs 1
  have fs2 := HA.out.f.fs 2
  have fs3 := HA.out.f.fs 3
  have fs4 := HA.out.f.fs 4
  have fo0 := HA.out.f.fo 0
  have fo1 := HA.out.f.fo 1
  have fo2 := HA.out.f.fo 2
  have fo3 := HA.out.f.fo 3
  have fo4 := HA.out.f.fo 4
  have v0 := HA.out.v0
  have v1 := HA.out.v1
  have q1 := HA.out.q1
  dsimp only [Ans.of, noData] at a0 a1 a2 a3 o0 o1 o2 o3 o4
  rw [HO.out] at h4
  go_wp2_with fail
  have HC := Lib.hid HA.out.closed
  refine (applied_any A B x.AL _ c _ d H.ws.length x.cl (nowH H).1 (nowH H).2 H.ws _ HC.out.st.now.1 HC.out.st.now.2 ((HREP.out.l.below HC.out.f.be (Nat.le_refl _)).mono HC.out.f.be.size) HC.out.st.n0 HC.out.st.n1 (by unfold maxLen; omega) (by unfold maxLen; omega) (by unfold maxLen; omega)).mono ?_
  rw [HR.out]
  rintro e w2 ⟨A3, c3, B3, d3, rfl, _, _, hb2⟩
  dsimp only
  have HC2 := Lib.hid (HC.out.step hb2)
  clear hb2
  clear h0 h1 h2 h3 h4 h5 a0 a1 a2 a3 r0 r1 r2 r3 r4 r5 s0 s1 s2 s3 s4 o0 o1 o2 o3 o4 fh0 fr0 fh1 fr1 fh2 fr2 fh3 fr3 fh4 fr4 fh5 fr5 fs0 fo0 fs1 fo1 fs2 fo2 fs3 fo3 fs4 fo4 v0 v1 q1
  have h0 := HC2.out.f.h0
  have h1 := HC2.out.f.h1
  have h2 := HC2.out.f.h2
  have h3 := HC2.out.f.h3
  have h4 := HC2.out.f.h4
  have h5 := HC2.out.f.h5
  have a0 := HC2.out.f.a0
  have a1 := HC2.out.f.a1
  have a2 := HC2.out.f.a2
  have a3 := HC2.out.f.a3
  have r0 := HC2.out.f.r0
  have r1 := HC2.out.f.r1
  have r2 := HC2.out.f.r2
  have r3 := HC2.out.f.r3
  have r4 := HC2.out.f.r4
  have r5 := HC2.out.f.r5
  have s0 := HC2.out.f.s0
  have s1 := HC2.out.f.s1
  have s2 := HC2.out.f.s2
  have s3 := HC2.out.f.s3
  have s4 := HC2.out.f.s4
  have o0 := HC2.out.f.o0
  have o1 := HC2.out.f.o1
  have o2 := HC2.out.f.o2
  have o3 := HC2.out.f.o3
  have o4 := HC2.out.f.o4
  have fh0 := HC2.out.f.fh 0
  have fh1 := HC2.out.f.fh 1
  have fh2 := HC2.out.f.fh 2
  have fh3 := HC2.out.f.fh 3
  have fh4 := HC2.out.f.fh 4
  have fh5 := HC2.out.f.fh 5
  have fr0 := HC2.out.f.fr 0
  have fr1 := HC2.out.f.fr 1
  have fr2 := HC2.out.f.fr 2
  have fr3 := HC2.out.f.fr 3
  have fr4 := HC2.out.f.fr 4
  have fr5 := HC2.out.f.fr 5
  have fs0 := HC2.out.f.fs 0
  have fs1 := HC2.out.f.fs 1
  have fs2 := HC2.out.f.fs 2
  have fs3 := HC2.out.f.fs 3
  have fs4 := HC2.out.f.fs 4
  have fo0 := HC2.out.f.fo 0
  have fo1 := HC2.out.f.fo 1
  have fo2 := HC2.out.f.fo 2
  have fo3 := HC2.out.f.fo 3
  have fo4 := HC2.out.f.fo 4
  have v0 := HC2.out.v0
  have v1 := HC2.out.v1
  have q1 := HC2.out.q1
  dsimp only [Ans.of, noData] at a0 a1 a2 a3 o0 o1 o2 o3 o4
  dsimp only at h0 h1 h2 h3 h4 h5
  go_upto_region 33 with (fail)
  have hc3 := HC2.out.step ((Below.refl _ _).alloc (Nat.le_refl _) (.cells #[.slice A3 us.length c3, .slice B3 cs.length d3] 30))
  obtain ⟨W3, hW3⟩ : ∃ W3, W3 = w2.alloc (.cells #[.slice A3 us.length c3, .slice B3 cs.length d3] 30) := ⟨_, rfl⟩
  rw [← hW3] at hc3 ⊢
  have HC3 := Lib.hid hc3
  clear hc3 hW3
  clear h0 h1 h2 h3 h4 h5 a0 a1 a2 a3 r0 r1 r2 r3 r4 r5 s0 s1 s2 s3 s4 o0 o1 o2 o3 o4 fh0 fr0 fh1 fr1 fh2 fr2 fh3 fr3 fh4 fr4 fh5 fr5 fs0 fo0 fs1 fo1 fs2 fo2 fs3 fo3 fs4 fo4 v0 v1 q1
  have h0 := HC3.out.f.h0
  have h1 := HC3.out.f.h1
  have h2 := HC3.out.f.h2
  have h3 := HC3.out.f.h3
  have h4 := HC3.out.f.h4
  have h5 := HC3.out.f.h5
  have a0 := HC3.out.f.a0
  have a1 := HC3.out.f.a1
  have a2 := HC3.out.f.a2
  have a3 := HC3.out.f.a3
  have r0 := HC3.out.f.r0
  have r1 := HC3.out.f.r1
  have r2 := HC3.out.f.r2
  have r3 := HC3.out.f.r3
  have r4 := HC3.out.f.r4
  have r5 := HC3.out.f.r5
  have s0 := HC3.out.f.s0
  have s1 := HC3.out.f.s1
  have s2 := HC3.out.f.s2
  have s3 := HC3.out.f.s3
  have s4 := HC3.out.f.s4
  have o0 := HC3.out.f.o0
  have o1 := HC3.out.f.o1
  have o2 := HC3.out.f.o2
  have o3 := HC3.out.f.o3
  have o4 := HC3.out.f.o4
  have fh0 := HC3.out.f.fh 0
  have fh1 := HC3.out.f.fh 1
  have fh2 := HC3.out.f.fh 2
  have fh3 := HC3.out.f.fh 3
  have fh4 := HC3.out.f.fh 4
  have fh5 := HC3.out.f.fh 5
  have fr0 := HC3.out.f.fr 0
  have fr1 := HC3.out.f.fr 1
  have fr2 := HC3.out.f.fr 2
  have fr3 := HC3.out.f.fr 3
  have fr4 := HC3.out.f.fr 4
  have fr5 := HC3.out.f.fr 5
  have fs0 := HC3.out.f.fs 0
  have fs1 := HC3.out.f.fs 1
  have fs2 := HC3.out.f.fs 2
  have fs3 := HC3.out.f.fs 3
  have fs4 := HC3.out.f.fs 4
  have fo0 := HC3.out.f.fo 0
  have fo1 := HC3.out.f.fo 1
  have fo2 := HC3.out.f.fo 2
  have fo3 := HC3.out.f.fo 3
  have fo4 := HC3.out.f.fo 4
  have v0 := HC3.out.v0
  have v1 := HC3.out.v1
  have q1 := HC3.out.q1
  dsimp only [Ans.of, noData] at a0 a1 a2 a3 o0 o1 o2 o3 o4
  dsimp only at h0 h1 h2 h3 h4 h5
  go_wp2_with fail
  refine (recordOf_any x.AL H.ws.length x.cl ((nowH H).2.length : Nat) H.ws _ ((HREP.out.l.below HC3.out.f.be (Nat.le_refl _)).mono HC3.out.f.be.size) (by unfold maxLen; omega) (by omega) (by omega) HWK.out).mono ?_
  rintro e w3 ⟨he, hb3⟩
  rw [RecPost, HRECR.out, HWK.out] at he
  subst he
  have HC4 := Lib.hid (HC3.out.step hb3)
  clear hb3
  clear h0 h1 h2 h3 h4 h5 a0 a1 a2 a3 r0 r1 r2 r3 r4 r5 s0 s1 s2 s3 s4 o0 o1 o2 o3 o4 fh0 fr0 fh1 fr1 fh2 fr2 fh3 fr3 fh4 fr4 fh5 fr5 fs0 fo0 fs1 fo1 fs2 fo2 fs3 fo3 fs4 fo4 v0 v1 q1
  have h0 := HC4.out.f.h0
  have h1 := HC4.out.f.h1
  have h2 := HC4.out.f.h2
  have h3 := HC4.out.f.h3
  have h4 := HC4.out.f.h4
  have h5 := HC4.out.f.h5
  have a0 := HC4.out.f.a0
  have a1 := HC4.out.f.a1
  have a2 := HC4.out.f.a2
  have a3 := HC4.out.f.a3
  have r0 := HC4.out.f.r0
  have r1 := HC4.out.f.r1
  have r2 := HC4.out.f.r2
  have r3 := HC4.out.f.r3
  have r4 := HC4.out.f.r4
  have r5 := HC4.out.f.r5
  have s0 := HC4.out.f.s0
  have s1 := HC4.out.f.s1
  have s2 := HC4.out.f.s2
  have s3 := HC4.out.f.s3
  have s4 := HC4.out.f.s4
  have o0 := HC4.out.f.o0
  have o1 := HC4.out.f.o1
  have o2 := HC4.out.f.o2
  have o3 := HC4.out.f.o3
  have o4 := HC4.out.f.o4
  have fh0 := HC4.out.f.fh 0
  have fh1 := HC4.out.f.fh 1
  have fh2 := HC4.out.f.fh 2
  have fh3 := HC4.out.f.fh 3
  have fh4 := HC4.out.f.fh 4
  have fh5 := HC4.out.f.fh 5
  have fr0 := HC4.out.f.fr 0
  have fr1 := HC4.out.f.fr 1
  have fr2 := HC4.out.f.fr 2
  have fr3 := HC4.out.f.fr 3
  have fr4 := HC4.out.f.fr 4
  have fr5 := HC4.out.f.fr 5
  have fs0 := HC4.out.f.fs 0
  have fs1 := HC4.out.f.fs 1
  have fs2 := HC4.out.f.fs 2
  have fs3 := HC4.out.f.fs 3
  have fs4 := HC4.out.f.fs 4
  have fo0 := HC4.out.f.fo 0
  have fo1 := HC4.out.f.fo 1
  have fo2 := HC4.out.f.fo 2
  have fo3 := HC4.out.f.fo 3
  have fo4 := HC4.out.f.fo 4
  have v0 := HC4.out.v0
  have v1 := HC4.out.v1
  have q1 := HC4.out.q1
  dsimp only [Ans.of, noData] at a0 a1 a2 a3 o0 o1 o2 o3 o4
  dsimp only at h0 h1 h2 h3 h4 h5
  go_wp2
  go_region
  all_goals
    go_wp2
    refine bodyPost_ret (v := .tuple #[.agg #[.slice x.A0 H.base.1.length x.c0, .slice x.A1 H.base.2.length x.c1, .slice x.AD H.deals.length x.cd, .int .i64 H.last, .bool false, .slice none 0 0], .agg #[.int .i64 ea, .string ⟨#[]⟩, .int .i64 0, .int .i64 0, .int .i64 0]]) (by simp [results, Try.results62, go_sem, r0, r1, r2, r3, r4, r5, s0, s1, s2, s3, s4]) rfl ?_
    refine ActedPost.of HC4.out ?_ { x with AL := none, cl := 0 } rfl ?_ HRLT.out
    · ((repeat (with_reducible first | exact Touch.refl _ _ | refine Touch.setC ?_ _ ?_ _ | refine Touch.drawC ?_ _ | refine Touch.drawO ?_)) <;> (dsimp only [ActR]; omega))
    · exact fun W' hT => HC4.out.repS HSTY.out.closed W' hT

set_option maxRecDepth 100000 in
set_option maxHeartbeats 4000000 in
theorem ref_commit_long (x : HV) (H : Hse) (a : Acn) (R : Nat → Prop) (w : World) (hsty : HStay R w x H) (hR : ∀ k, R k → k < w.heap.size) (g : GoodH H) (hk : a.kind = 4) (ho : H.opened = true) (hea : (appliedR (nowH H).1 (nowH H).2 H.ws).2.2 = 0) (hbig : 4000 < lenH H H.deals.length + (recL H.ws).length) :
    Calls Try.prog 62 #[houseV x H, actV a] w (ActedPost R w (actH H a)) := by
  have h := hsty.now
  obtain ⟨kind, block, data, keep⟩ := a
  dsimp only at hk
  subst hk
  have hwk : writesK H.ws ((nowH H).2.length : Nat) = 0 := writesK_zero.2 (by rw [g.blocks]; exact g.ws)
  obtain ⟨r, hr⟩ : ∃ r, appliedR (nowH H).1 (nowH H).2 H.ws = r := ⟨_, rfl⟩
  obtain ⟨us, cs, ea⟩ := r
  obtain ⟨S, hS⟩ : ∃ S, bstr (recL H.ws) = S := ⟨_, rfl⟩
  have hSs : S.size = (recL H.ws).length := by rw [← hS, bstr_size]
  have hS620 : S.size ≤ 620 := by rw [hSs]; exact recL_le g.ws
  have hrecR : recR H.ws ((nowH H).2.length : Nat) = S := by rw [recR, if_pos hwk, hS]
  have h500 := g.nd
  have h4000 := g.sum
  have hw12 := g.ws.len
  rw [hr] at hea
  dsimp only at hea
  subst hea
  have e : actH H ⟨4, block, data, keep⟩ = ({ H with opened := false, ws := [] }, Ans.of 1) := by
    rw [actH, if_neg (by simp), if_neg (by simp), if_neg (by simp), if_pos rfl, commitH, if_pos ho]
    simp [hr, hwk, hbig]
  rw [e]
  rw [← hSs] at hbig
  have dbig : decide (((lenH H H.deals.length : Nat) : Int) + (S.size : Int) > 4000) = true := decide_eq_true (by omega)
  clear e
  have HWK := Lib.hid hwk
  have HR := Lib.hid hr
  have HRECR := Lib.hid hrecR
  have HSS := Lib.hid hSs
  have hlen : ∀ W', HRep W' W'.heap.size { x with AL := none, cl := 0 } { H with opened := false, ws := [] } → Calls Try.prog 87 #[houseV { x with AL := none, cl := 0 } { H with opened := false, ws := [] }, .int .i64 H.deals.length] W' fun e w' => e = .returned (.int .i64 (lenH H H.deals.length)) ∧ Below W'.heap.size W' w' := fun W' hr => length_any _ { H with opened := false, ws := [] } _ W' hr g.closed (Nat.le_refl _)
  unfold houseV at hlen
  have HLEN := Lib.hid hlen
  have HO := Lib.hid ho
  clear hwk hr hS hSs hrecR hlen ho
  have HNOW := Lib.hid (now_stay (ActS R w) x H (world5 w x H ⟨4, block, data, keep⟩) (hsty.later (world5_below w x H _)) (fun k hk => hk.lt) g)
  have HREP := Lib.hid h
  have HSTY := Lib.hid hsty
  have HRLT := Lib.hid hR
  have HG := Lib.hid g
  unfold houseV at HNOW ⊢
  unfold actV
  clear h hsty hR g
  go_enter Try.func62, Try.ntmps62
  go_wp2_with fail
  refine HNOW.out.mono ?_
  rintro e w1 ⟨A, c, B, d, rfl, hst, hb⟩
  have HA := Lib.hid (HAct.new (hst.weak (fun k hk => .inl ⟨.inl hk.1, hk.2⟩)) hb)
  have HSV := Lib.hid ((hst.weak (R' := ActS R w) (fun k hk => .inl hk)).step (Touch.below ((Below.refl w1.heap.size w1).alloc (Nat.le_refl _) (.cells #[.slice A (nowH H).1.length c, .slice B (nowH H).2.length d] 30))))
  clear hst hb HNOW
  go_upto_region 3 with (fail)
  obtain ⟨W, hW⟩ : ∃ W, W = w1.alloc (.cells #[.slice A (nowH H).1.length c, .slice B (nowH H).2.length d] 30) := ⟨_, rfl⟩
  rw [← hW] at HA HSV ⊢
  obtain ⟨q, hq⟩ : ∃ q, w1.heap.size = q := ⟨_, rfl⟩
  rw [hq] at HA ⊢
  clear hW hq
  have hn1 : (nowH H).1.length ≤ 1000 := by have := (HG.out.pre H.deals.length).good.1; rw [List.take_of_length_le (Nat.le_refl _)] at this; exact Nat.le_trans this (by omega)
  have hn2 : (nowH H).2.length ≤ 32 := by have := (HG.out.pre H.deals.length).hi; rw [List.take_of_length_le (Nat.le_refl _)] at this; exact Nat.le_trans this (by omega)
  have h0 := HA.out.f.h0
  have h1 := HA.out.f.h1
  have h2 := HA.out.f.h2
  have h3 := HA.out.f.h3
  have h4 := HA.out.f.h4
  have h5 := HA.out.f.h5
  have a0 := HA.out.f.a0
  have a1 := HA.out.f.a1
  have a2 := HA.out.f.a2
  have a3 := HA.out.f.a3
  have r0 := HA.out.f.r0
  have r1 := HA.out.f.r1
  have r2 := HA.out.f.r2
  have r3 := HA.out.f.r3
  have r4 := HA.out.f.r4
  have r5 := HA.out.f.r5
  have s0 := HA.out.f.s0
  have s1 := HA.out.f.s1
  have s2 := HA.out.f.s2
  have s3 := HA.out.f.s3
  have s4 := HA.out.f.s4
  have o0 := HA.out.f.o0
  have o1 := HA.out.f.o1
  have o2 := HA.out.f.o2
  have o3 := HA.out.f.o3
  have o4 := HA.out.f.o4
  have fh0 := HA.out.f.fh 0
  have fh1 := HA.out.f.fh 1
  have fh2 := HA.out.f.fh 2
  have fh3 := HA.out.f.fh 3
  have fh4 := HA.out.f.fh 4
  have fh5 := HA.out.f.fh 5
  have fr0 := HA.out.f.fr 0
  have fr1 := HA.out.f.fr 1
  have fr2 := HA.out.f.fr 2
  have fr3 := HA.out.f.fr 3
  have fr4 := HA.out.f.fr 4
  have fr5 := HA.out.f.fr 5
  have fs0 := HA.out.f.fs 0
  have fs1 := HA.out.f.fs 1
  have fs2 := HA.out.f.fs 2
  have fs3 := HA.out.f.fs 3
  have fs4 := HA.out.f.fs 4
  have fo0 := HA.out.f.fo 0
  have fo1 := HA.out.f.fo 1
  have fo2 := HA.out.f.fo 2
  have fo3 := HA.out.f.fo 3
  have fo4 := HA.out.f.fo 4
  have v0 := HA.out.v0
  have v1 := HA.out.v1
  have q1 := HA.out.q1
  dsimp only [Ans.of, noData] at a0 a1 a2 a3 o0 o1 o2 o3 o4
  rw [HO.out] at h4
  go_wp2_with fail
  have HC := Lib.hid HA.out.closed
  refine (applied_any A B x.AL _ c _ d H.ws.length x.cl (nowH H).1 (nowH H).2 H.ws _ HC.out.st.now.1 HC.out.st.now.2 ((HREP.out.l.below HC.out.f.be (Nat.le_refl _)).mono HC.out.f.be.size) HC.out.st.n0 HC.out.st.n1 (by unfold maxLen; omega) (by unfold maxLen; omega) (by unfold maxLen; omega)).mono ?_
  rw [HR.out]
  rintro e w2 ⟨A3, c3, B3, d3, rfl, _, _, hb2⟩
  dsimp only
  have HC2 := Lib.hid (HC.out.step hb2)
  clear hb2
  clear h0 h1 h2 h3 h4 h5 a0 a1 a2 a3 r0 r1 r2 r3 r4 r5 s0 s1 s2 s3 s4 o0 o1 o2 o3 o4 fh0 fr0 fh1 fr1 fh2 fr2 fh3 fr3 fh4 fr4 fh5 fr5 fs0 fo0 fs1 fo1 fs2 fo2 fs3 fo3 fs4 fo4 v0 v1 q1
  have h0 := HC2.out.f.h0
  have h1 := HC2.out.f.h1
  have h2 := HC2.out.f.h2
  have h3 := HC2.out.f.h3
  have h4 := HC2.out.f.h4
  have h5 := HC2.out.f.h5
  have a0 := HC2.out.f.a0
  have a1 := HC2.out.f.a1
  have a2 := HC2.out.f.a2
  have a3 := HC2.out.f.a3
  have r0 := HC2.out.f.r0
  have r1 := HC2.out.f.r1
  have r2 := HC2.out.f.r2
  have r3 := HC2.out.f.r3
  have r4 := HC2.out.f.r4
  have r5 := HC2.out.f.r5
  have s0 := HC2.out.f.s0
  have s1 := HC2.out.f.s1
  have s2 := HC2.out.f.s2
  have s3 := HC2.out.f.s3
  have s4 := HC2.out.f.s4
  have o0 := HC2.out.f.o0
  have o1 := HC2.out.f.o1
  have o2 := HC2.out.f.o2
  have o3 := HC2.out.f.o3
  have o4 := HC2.out.f.o4
  have fh0 := HC2.out.f.fh 0
  have fh1 := HC2.out.f.fh 1
  have fh2 := HC2.out.f.fh 2
  have fh3 := HC2.out.f.fh 3
  have fh4 := HC2.out.f.fh 4
  have fh5 := HC2.out.f.fh 5
  have fr0 := HC2.out.f.fr 0
  have fr1 := HC2.out.f.fr 1
  have fr2 := HC2.out.f.fr 2
  have fr3 := HC2.out.f.fr 3
  have fr4 := HC2.out.f.fr 4
  have fr5 := HC2.out.f.fr 5
  have fs0 := HC2.out.f.fs 0
  have fs1 := HC2.out.f.fs 1
  have fs2 := HC2.out.f.fs 2
  have fs3 := HC2.out.f.fs 3
  have fs4 := HC2.out.f.fs 4
  have fo0 := HC2.out.f.fo 0
  have fo1 := HC2.out.f.fo 1
  have fo2 := HC2.out.f.fo 2
  have fo3 := HC2.out.f.fo 3
  have fo4 := HC2.out.f.fo 4
  have v0 := HC2.out.v0
  have v1 := HC2.out.v1
  have q1 := HC2.out.q1
  dsimp only [Ans.of, noData] at a0 a1 a2 a3 o0 o1 o2 o3 o4
  dsimp only at h0 h1 h2 h3 h4 h5
  go_upto_region 33 with (fail)
  have hc3 := HC2.out.step ((Below.refl _ _).alloc (Nat.le_refl _) (.cells #[.slice A3 us.length c3, .slice B3 cs.length d3] 30))
  obtain ⟨W3, hW3⟩ : ∃ W3, W3 = w2.alloc (.cells #[.slice A3 us.length c3, .slice B3 cs.length d3] 30) := ⟨_, rfl⟩
  rw [← hW3] at hc3 ⊢
  have HC3 := Lib.hid hc3
  clear hc3 hW3
  clear h0 h1 h2 h3 h4 h5 a0 a1 a2 a3 r0 r1 r2 r3 r4 r5 s0 s1 s2 s3 s4 o0 o1 o2 o3 o4 fh0 fr0 fh1 fr1 fh2 fr2 fh3 fr3 fh4 fr4 fh5 fr5 fs0 fo0 fs1 fo1 fs2 fo2 fs3 fo3 fs4 fo4 v0 v1 q1
  have h0 := HC3.out.f.h0
  have h1 := HC3.out.f.h1
  have h2 := HC3.out.f.h2
  have h3 := HC3.out.f.h3
  have h4 := HC3.out.f.h4
  have h5 := HC3.out.f.h5
  have a0 := HC3.out.f.a0
  have a1 := HC3.out.f.a1
  have a2 := HC3.out.f.a2
  have a3 := HC3.out.f.a3
  have r0 := HC3.out.f.r0
  have r1 := HC3.out.f.r1
  have r2 := HC3.out.f.r2
  have r3 := HC3.out.f.r3
  have r4 := HC3.out.f.r4
  have r5 := HC3.out.f.r5
  have s0 := HC3.out.f.s0
  have s1 := HC3.out.f.s1
  have s2 := HC3.out.f.s2
  have s3 := HC3.out.f.s3
  have s4 := HC3.out.f.s4
  have o0 := HC3.out.f.o0
  have o1 := HC3.out.f.o1
  have o2 := HC3.out.f.o2
  have o3 := HC3.out.f.o3
  have o4 := HC3.out.f.o4
  have fh0 := HC3.out.f.fh 0
  have fh1 := HC3.out.f.fh 1
  have fh2 := HC3.out.f.fh 2
  have fh3 := HC3.out.f.fh 3
  have fh4 := HC3.out.f.fh 4
  have fh5 := HC3.out.f.fh 5
  have fr0 := HC3.out.f.fr 0
  have fr1 := HC3.out.f.fr 1
  have fr2 := HC3.out.f.fr 2
  have fr3 := HC3.out.f.fr 3
  have fr4 := HC3.out.f.fr 4
  have fr5 := HC3.out.f.fr 5
  have fs0 := HC3.out.f.fs 0
  have fs1 := HC3.out.f.fs 1
  have fs2 := HC3.out.f.fs 2
  have fs3 := HC3.out.f.fs 3
  have fs4 := HC3.out.f.fs 4
  have fo0 := HC3.out.f.fo 0
  have fo1 := HC3.out.f.fo 1
  have fo2 := HC3.out.f.fo 2
  have fo3 := HC3.out.f.fo 3
  have fo4 := HC3.out.f.fo 4
  have v0 := HC3.out.v0
  have v1 := HC3.out.v1
  have q1 := HC3.out.q1
  dsimp only [Ans.of, noData] at a0 a1 a2 a3 o0 o1 o2 o3 o4
  dsimp only at h0 h1 h2 h3 h4 h5
  go_wp2_with fail
  refine (recordOf_any x.AL H.ws.length x.cl ((nowH H).2.length : Nat) H.ws _ ((HREP.out.l.below HC3.out.f.be (Nat.le_refl _)).mono HC3.out.f.be.size) (by unfold maxLen; omega) (by omega) (by omega) HWK.out).mono ?_
  rintro e w3 ⟨he, hb3⟩
  rw [RecPost, HRECR.out, HWK.out] at he
  subst he
  have HC4 := Lib.hid (HC3.out.step hb3)
  clear hb3
  clear h0 h1 h2 h3 h4 h5 a0 a1 a2 a3 r0 r1 r2 r3 r4 r5 s0 s1 s2 s3 s4 o0 o1 o2 o3 o4 fh0 fr0 fh1 fr1 fh2 fr2 fh3 fr3 fh4 fr4 fh5 fr5 fs0 fo0 fs1 fo1 fs2 fo2 fs3 fo3 fs4 fo4 v0 v1 q1
  have h0 := HC4.out.f.h0
  have h1 := HC4.out.f.h1
  have h2 := HC4.out.f.h2
  have h3 := HC4.out.f.h3
  have h4 := HC4.out.f.h4
  have h5 := HC4.out.f.h5
  have a0 := HC4.out.f.a0
  have a1 := HC4.out.f.a1
  have a2 := HC4.out.f.a2
  have a3 := HC4.out.f.a3
  have r0 := HC4.out.f.r0
  have r1 := HC4.out.f.r1
  have r2 := HC4.out.f.r2
  have r3 := HC4.out.f.r3
  have r4 := HC4.out.f.r4
  have r5 := HC4.out.f.r5
  have s0 := HC4.out.f.s0
  have s1 := HC4.out.f.s1
  have s2 := HC4.out.f.s2
  have s3 := HC4.out.f.s3
  have s4 := HC4.out.f.s4
  have o0 := HC4.out.f.o0
  have o1 := HC4.out.f.o1
  have o2 := HC4.out.f.o2
  have o3 := HC4.out.f.o3
  have o4 := HC4.out.f.o4
  have fh0 := HC4.out.f.fh 0
  have fh1 := HC4.out.f.fh 1
  have fh2 := HC4.out.f.fh 2
  have fh3 := HC4.out.f.fh 3
  have fh4 := HC4.out.f.fh 4
  have fh5 := HC4.out.f.fh 5
  have fr0 := HC4.out.f.fr 0
  have fr1 := HC4.out.f.fr 1
  have fr2 := HC4.out.f.fr 2
  have fr3 := HC4.out.f.fr 3
  have fr4 := HC4.out.f.fr 4
  have fr5 := HC4.out.f.fr 5
  have fs0 := HC4.out.f.fs 0
  have fs1 := HC4.out.f.fs 1
  have fs2 := HC4.out.f.fs 2
  have fs3 := HC4.out.f.fs 3
  have fs4 := HC4.out.f.fs 4
  have fo0 := HC4.out.f.fo 0
  have fo1 := HC4.out.f.fo 1
  have fo2 := HC4.out.f.fo 2
  have fo3 := HC4.out.f.fo 3
  have fo4 := HC4.out.f.fo 4
  have v0 := HC4.out.v0
  have v1 := HC4.out.v1
  have q1 := HC4.out.q1
  dsimp only [Ans.of, noData] at a0 a1 a2 a3 o0 o1 o2 o3 o4
  dsimp only at h0 h1 h2 h3 h4 h5
  go_wp2_with fail
  refine (HLEN.out _ (HC4.out.rep HREP.out.closed _ (Touch.refl _ _))).mono ?_
  rintro e w4 ⟨rfl, hb4⟩
  have HC5 := Lib.hid (HC4.out.step hb4)
  clear hb4
  clear h0 h1 h2 h3 h4 h5 a0 a1 a2 a3 r0 r1 r2 r3 r4 r5 s0 s1 s2 s3 s4 o0 o1 o2 o3 o4 fh0 fr0 fh1 fr1 fh2 fr2 fh3 fr3 fh4 fr4 fh5 fr5 fs0 fo0 fs1 fo1 fs2 fo2 fs3 fo3 fs4 fo4 v0 v1 q1
  have h0 := HC5.out.f.h0
  have h1 := HC5.out.f.h1
  have h2 := HC5.out.f.h2
  have h3 := HC5.out.f.h3
  have h4 := HC5.out.f.h4
  have h5 := HC5.out.f.h5
  have a0 := HC5.out.f.a0
  have a1 := HC5.out.f.a1
  have a2 := HC5.out.f.a2
  have a3 := HC5.out.f.a3
  have r0 := HC5.out.f.r0
  have r1 := HC5.out.f.r1
  have r2 := HC5.out.f.r2
  have r3 := HC5.out.f.r3
  have r4 := HC5.out.f.r4
  have r5 := HC5.out.f.r5
  have s0 := HC5.out.f.s0
  have s1 := HC5.out.f.s1
  have s2 := HC5.out.f.s2
  have s3 := HC5.out.f.s3
  have s4 := HC5.out.f.s4
  have o0 := HC5.out.f.o0
  have o1 := HC5.out.f.o1
  have o2 := HC5.out.f.o2
  have o3 := HC5.out.f.o3
  have o4 := HC5.out.f.o4
  have fh0 := HC5.out.f.fh 0
  have fh1 := HC5.out.f.fh 1
  have fh2 := HC5.out.f.fh 2
  have fh3 := HC5.out.f.fh 3
  have fh4 := HC5.out.f.fh 4
  have fh5 := HC5.out.f.fh 5
  have fr0 := HC5.out.f.fr 0
  have fr1 := HC5.out.f.fr 1
  have fr2 := HC5.out.f.fr 2
  have fr3 := HC5.out.f.fr 3
  have fr4 := HC5.out.f.fr 4
  have fr5 := HC5.out.f.fr 5
  have fs0 := HC5.out.f.fs 0
  have fs1 := HC5.out.f.fs 1
  have fs2 := HC5.out.f.fs 2
  have fs3 := HC5.out.f.fs 3
  have fs4 := HC5.out.f.fs 4
  have fo0 := HC5.out.f.fo 0
  have fo1 := HC5.out.f.fo 1
  have fo2 := HC5.out.f.fo 2
  have fo3 := HC5.out.f.fo 3
  have fo4 := HC5.out.f.fo 4
  have v0 := HC5.out.v0
  have v1 := HC5.out.v1
  have q1 := HC5.out.q1
  dsimp only [Ans.of, noData] at a0 a1 a2 a3 o0 o1 o2 o3 o4
  dsimp only at h0 h1 h2 h3 h4 h5
  go_wp2
  go_region
  all_goals
    go_wp2
    refine bodyPost_ret (v := .tuple #[.agg #[.slice x.A0 H.base.1.length x.c0, .slice x.A1 H.base.2.length x.c1, .slice x.AD H.deals.length x.cd, .int .i64 H.last, .bool false, .slice none 0 0], .agg #[.int .i64 1, .string ⟨#[]⟩, .int .i64 0, .int .i64 0, .int .i64 0]]) (by simp [results, Try.results62, go_sem, r0, r1, r2, r3, r4, r5, s0, s1, s2, s3, s4]) rfl ?_
    refine ActedPost.of HC5.out ?_ { x with AL := none, cl := 0 } rfl ?_ HRLT.out
    · ((repeat (with_reducible first | exact Touch.refl _ _ | refine Touch.setC ?_ _ ?_ _ | refine Touch.drawC ?_ _ | refine Touch.drawO ?_)) <;> (dsimp only [ActR]; omega))
    · exact fun W' hT => HC5.out.repS HSTY.out.closed W' hT

set_option maxRecDepth 100000 in
set_option maxHeartbeats 4000000 in
theorem ref_commit_yes (x : HV) (H : Hse) (a : Acn) (R : Nat → Prop) (w : World) (hsty : HStay R w x H) (hR : ∀ k, R k → k < w.heap.size) (g : GoodH H) (hk : a.kind = 4) (ho : H.opened = true) (hea : (appliedR (nowH H).1 (nowH H).2 H.ws).2.2 = 0) (hbig : ¬ 4000 < lenH H H.deals.length + (recL H.ws).length) :
    Calls Try.prog 62 #[houseV x H, actV a] w (ActedPost R w (actH H a)) := by
  have h := hsty.now
  obtain ⟨kind, block, data, keep⟩ := a
  dsimp only at hk
  subst hk
  have hwk : writesK H.ws ((nowH H).2.length : Nat) = 0 := writesK_zero.2 (by rw [g.blocks]; exact g.ws)
  obtain ⟨r, hr⟩ : ∃ r, appliedR (nowH H).1 (nowH H).2 H.ws = r := ⟨_, rfl⟩
  obtain ⟨us, cs, ea⟩ := r
  obtain ⟨S, hS⟩ : ∃ S, bstr (recL H.ws) = S := ⟨_, rfl⟩
  have hSs : S.size = (recL H.ws).length := by rw [← hS, bstr_size]
  have hS620 : S.size ≤ 620 := by rw [hSs]; exact recL_le g.ws
  have hrecR : recR H.ws ((nowH H).2.length : Nat) = S := by rw [recR, if_pos hwk, hS]
  have h500 := g.nd
  have h4000 := g.sum
  have hw12 := g.ws.len
  rw [hr] at hea
  dsimp only at hea
  subst hea
  have e : actH H ⟨4, block, data, keep⟩ = ({ H with opened := false, ws := [], deals := H.deals ++ [(H.ws, S.size)] }, Ans.of 0) := by
    rw [actH, if_neg (by simp), if_neg (by simp), if_neg (by simp), if_pos rfl, commitH, if_pos ho]
    simp [hr, hwk, hbig, hSs]
  rw [e]
  rw [← hSs] at hbig
  have dbig : decide (((lenH H H.deals.length : Nat) : Int) + (S.size : Int) > 4000) = false := decide_eq_false (by omega)
  obtain ⟨i0, ii, iz0, iz1, iz2⟩ := info_parts infoDeal
  have II := Lib.hid ii
  have IZ0 := Lib.hid iz0
  have IZ1 := Lib.hid iz1
  have IZ2 := Lib.hid iz2
  clear e ii iz0 iz1 iz2
  have HWK := Lib.hid hwk
  have HR := Lib.hid hr
  have HRECR := Lib.hid hrecR
  have HSS := Lib.hid hSs
  have hlen : ∀ W', HRep W' W'.heap.size { x with AL := none, cl := 0 } { H with opened := false, ws := [] } → Calls Try.prog 87 #[houseV { x with AL := none, cl := 0 } { H with opened := false, ws := [] }, .int .i64 H.deals.length] W' fun e w' => e = .returned (.int .i64 (lenH H H.deals.length)) ∧ Below W'.heap.size W' w' := fun W' hr => length_any _ { H with opened := false, ws := [] } _ W' hr g.closed (Nat.le_refl _)
  unfold houseV at hlen
  have HLEN := Lib.hid hlen
  have HO := Lib.hid ho
  clear hwk hr hS hSs hrecR hlen ho
  have HNOW := Lib.hid (now_stay (ActS R w) x H (world5 w x H ⟨4, block, data, keep⟩) (hsty.later (world5_below w x H _)) (fun k hk => hk.lt) g)
  have HREP := Lib.hid h
  have HSTY := Lib.hid hsty
  have HRLT := Lib.hid hR
  have HG := Lib.hid g
  unfold houseV at HNOW ⊢
  unfold actV
  clear h hsty hR g
  go_enter Try.func62, Try.ntmps62
  go_wp2_with fail
  refine HNOW.out.mono ?_
  rintro e w1 ⟨A, c, B, d, rfl, hst, hb⟩
  have HA := Lib.hid (HAct.new (hst.weak (fun k hk => .inl ⟨.inl hk.1, hk.2⟩)) hb)
  have HSV := Lib.hid ((hst.weak (R' := ActS R w) (fun k hk => .inl hk)).step (Touch.below ((Below.refl w1.heap.size w1).alloc (Nat.le_refl _) (.cells #[.slice A (nowH H).1.length c, .slice B (nowH H).2.length d] 30))))
  clear hst hb HNOW
  go_upto_region 3 with (fail)
  obtain ⟨W, hW⟩ : ∃ W, W = w1.alloc (.cells #[.slice A (nowH H).1.length c, .slice B (nowH H).2.length d] 30) := ⟨_, rfl⟩
  rw [← hW] at HA HSV ⊢
  obtain ⟨q, hq⟩ : ∃ q, w1.heap.size = q := ⟨_, rfl⟩
  rw [hq] at HA ⊢
  clear hW hq
  have hn1 : (nowH H).1.length ≤ 1000 := by have := (HG.out.pre H.deals.length).good.1; rw [List.take_of_length_le (Nat.le_refl _)] at this; exact Nat.le_trans this (by omega)
  have hn2 : (nowH H).2.length ≤ 32 := by have := (HG.out.pre H.deals.length).hi; rw [List.take_of_length_le (Nat.le_refl _)] at this; exact Nat.le_trans this (by omega)
  have h0 := HA.out.f.h0
  have h1 := HA.out.f.h1
  have h2 := HA.out.f.h2
  have h3 := HA.out.f.h3
  have h4 := HA.out.f.h4
  have h5 := HA.out.f.h5
  have a0 := HA.out.f.a0
  have a1 := HA.out.f.a1
  have a2 := HA.out.f.a2
  have a3 := HA.out.f.a3
  have r0 := HA.out.f.r0
  have r1 := HA.out.f.r1
  have r2 := HA.out.f.r2
  have r3 := HA.out.f.r3
  have r4 := HA.out.f.r4
  have r5 := HA.out.f.r5
  have s0 := HA.out.f.s0
  have s1 := HA.out.f.s1
  have s2 := HA.out.f.s2
  have s3 := HA.out.f.s3
  have s4 := HA.out.f.s4
  have o0 := HA.out.f.o0
  have o1 := HA.out.f.o1
  have o2 := HA.out.f.o2
  have o3 := HA.out.f.o3
  have o4 := HA.out.f.o4
  have fh0 := HA.out.f.fh 0
  have fh1 := HA.out.f.fh 1
  have fh2 := HA.out.f.fh 2
  have fh3 := HA.out.f.fh 3
  have fh4 := HA.out.f.fh 4
  have fh5 := HA.out.f.fh 5
  have fr0 := HA.out.f.fr 0
  have fr1 := HA.out.f.fr 1
  have fr2 := HA.out.f.fr 2
  have fr3 := HA.out.f.fr 3
  have fr4 := HA.out.f.fr 4
  have fr5 := HA.out.f.fr 5
  have fs0 := HA.out.f.fs 0
  have fs1 := HA.out.f.fs 1
  have fs2 := HA.out.f.fs 2
  have fs3 := HA.out.f.fs 3
  have fs4 := HA.out.f.fs 4
  have fo0 := HA.out.f.fo 0
  have fo1 := HA.out.f.fo 1
  have fo2 := HA.out.f.fo 2
  have fo3 := HA.out.f.fo 3
  have fo4 := HA.out.f.fo 4
  have v0 := HA.out.v0
  have v1 := HA.out.v1
  have q1 := HA.out.q1
  dsimp only [Ans.of, noData] at a0 a1 a2 a3 o0 o1 o2 o3 o4
  rw [HO.out] at h4
  go_wp2_with fail
  have HC := Lib.hid HA.out.closed
  refine (applied_any A B x.AL _ c _ d H.ws.length x.cl (nowH H).1 (nowH H).2 H.ws _ HC.out.st.now.1 HC.out.st.now.2 ((HREP.out.l.below HC.out.f.be (Nat.le_refl _)).mono HC.out.f.be.size) HC.out.st.n0 HC.out.st.n1 (by unfold maxLen; omega) (by unfold maxLen; omega) (by unfold maxLen; omega)).mono ?_
  rw [HR.out]
  rintro e w2 ⟨A3, c3, B3, d3, rfl, _, _, hb2⟩
  dsimp only
  have HC2 := Lib.hid (HC.out.step hb2)
  clear hb2
  clear h0 h1 h2 h3 h4 h5 a0 a1 a2 a3 r0 r1 r2 r3 r4 r5 s0 s1 s2 s3 s4 o0 o1 o2 o3 o4 fh0 fr0 fh1 fr1 fh2 fr2 fh3 fr3 fh4 fr4 fh5 fr5 fs0 fo0 fs1 fo1 fs2 fo2 fs3 fo3 fs4 fo4 v0 v1 q1
  have h0 := HC2.out.f.h0
  have h1 := HC2.out.f.h1
  have h2 := HC2.out.f.h2
  have h3 := HC2.out.f.h3
  have h4 := HC2.out.f.h4
  have h5 := HC2.out.f.h5
  have a0 := HC2.out.f.a0
  have a1 := HC2.out.f.a1
  have a2 := HC2.out.f.a2
  have a3 := HC2.out.f.a3
  have r0 := HC2.out.f.r0
  have r1 := HC2.out.f.r1
  have r2 := HC2.out.f.r2
  have r3 := HC2.out.f.r3
  have r4 := HC2.out.f.r4
  have r5 := HC2.out.f.r5
  have s0 := HC2.out.f.s0
  have s1 := HC2.out.f.s1
  have s2 := HC2.out.f.s2
  have s3 := HC2.out.f.s3
  have s4 := HC2.out.f.s4
  have o0 := HC2.out.f.o0
  have o1 := HC2.out.f.o1
  have o2 := HC2.out.f.o2
  have o3 := HC2.out.f.o3
  have o4 := HC2.out.f.o4
  have fh0 := HC2.out.f.fh 0
  have fh1 := HC2.out.f.fh 1
  have fh2 := HC2.out.f.fh 2
  have fh3 := HC2.out.f.fh 3
  have fh4 := HC2.out.f.fh 4
  have fh5 := HC2.out.f.fh 5
  have fr0 := HC2.out.f.fr 0
  have fr1 := HC2.out.f.fr 1
  have fr2 := HC2.out.f.fr 2
  have fr3 := HC2.out.f.fr 3
  have fr4 := HC2.out.f.fr 4
  have fr5 := HC2.out.f.fr 5
  have fs0 := HC2.out.f.fs 0
  have fs1 := HC2.out.f.fs 1
  have fs2 := HC2.out.f.fs 2
  have fs3 := HC2.out.f.fs 3
  have fs4 := HC2.out.f.fs 4
  have fo0 := HC2.out.f.fo 0
  have fo1 := HC2.out.f.fo 1
  have fo2 := HC2.out.f.fo 2
  have fo3 := HC2.out.f.fo 3
  have fo4 := HC2.out.f.fo 4
  have v0 := HC2.out.v0
  have v1 := HC2.out.v1
  have q1 := HC2.out.q1
  dsimp only [Ans.of, noData] at a0 a1 a2 a3 o0 o1 o2 o3 o4
  dsimp only at h0 h1 h2 h3 h4 h5
  go_upto_region 33 with (fail)
  have hc3 := HC2.out.step ((Below.refl _ _).alloc (Nat.le_refl _) (.cells #[.slice A3 us.length c3, .slice B3 cs.length d3] 30))
  obtain ⟨W3, hW3⟩ : ∃ W3, W3 = w2.alloc (.cells #[.slice A3 us.length c3, .slice B3 cs.length d3] 30) := ⟨_, rfl⟩
  rw [← hW3] at hc3 ⊢
  have HC3 := Lib.hid hc3
  clear hc3 hW3
  clear h0 h1 h2 h3 h4 h5 a0 a1 a2 a3 r0 r1 r2 r3 r4 r5 s0 s1 s2 s3 s4 o0 o1 o2 o3 o4 fh0 fr0 fh1 fr1 fh2 fr2 fh3 fr3 fh4 fr4 fh5 fr5 fs0 fo0 fs1 fo1 fs2 fo2 fs3 fo3 fs4 fo4 v0 v1 q1
  have h0 := HC3.out.f.h0
  have h1 := HC3.out.f.h1
  have h2 := HC3.out.f.h2
  have h3 := HC3.out.f.h3
  have h4 := HC3.out.f.h4
  have h5 := HC3.out.f.h5
  have a0 := HC3.out.f.a0
  have a1 := HC3.out.f.a1
  have a2 := HC3.out.f.a2
  have a3 := HC3.out.f.a3
  have r0 := HC3.out.f.r0
  have r1 := HC3.out.f.r1
  have r2 := HC3.out.f.r2
  have r3 := HC3.out.f.r3
  have r4 := HC3.out.f.r4
  have r5 := HC3.out.f.r5
  have s0 := HC3.out.f.s0
  have s1 := HC3.out.f.s1
  have s2 := HC3.out.f.s2
  have s3 := HC3.out.f.s3
  have s4 := HC3.out.f.s4
  have o0 := HC3.out.f.o0
  have o1 := HC3.out.f.o1
  have o2 := HC3.out.f.o2
  have o3 := HC3.out.f.o3
  have o4 := HC3.out.f.o4
  have fh0 := HC3.out.f.fh 0
  have fh1 := HC3.out.f.fh 1
  have fh2 := HC3.out.f.fh 2
  have fh3 := HC3.out.f.fh 3
  have fh4 := HC3.out.f.fh 4
  have fh5 := HC3.out.f.fh 5
  have fr0 := HC3.out.f.fr 0
  have fr1 := HC3.out.f.fr 1
  have fr2 := HC3.out.f.fr 2
  have fr3 := HC3.out.f.fr 3
  have fr4 := HC3.out.f.fr 4
  have fr5 := HC3.out.f.fr 5
  have fs0 := HC3.out.f.fs 0
  have fs1 := HC3.out.f.fs 1
  have fs2 := HC3.out.f.fs 2
  have fs3 := HC3.out.f.fs 3
  have fs4 := HC3.out.f.fs 4
  have fo0 := HC3.out.f.fo 0
  have fo1 := HC3.out.f.fo 1
  have fo2 := HC3.out.f.fo 2
  have fo3 := HC3.out.f.fo 3
  have fo4 := HC3.out.f.fo 4
  have v0 := HC3.out.v0
  have v1 := HC3.out.v1
  have q1 := HC3.out.q1
  dsimp only [Ans.of, noData] at a0 a1 a2 a3 o0 o1 o2 o3 o4
  dsimp only at h0 h1 h2 h3 h4 h5
  go_wp2_with fail
  refine (recordOf_any x.AL H.ws.length x.cl ((nowH H).2.length : Nat) H.ws _ ((HREP.out.l.below HC3.out.f.be (Nat.le_refl _)).mono HC3.out.f.be.size) (by unfold maxLen; omega) (by omega) (by omega) HWK.out).mono ?_
  rintro e w3 ⟨he, hb3⟩
  rw [RecPost, HRECR.out, HWK.out] at he
  subst he
  have HC4 := Lib.hid (HC3.out.step hb3)
  clear hb3
  clear h0 h1 h2 h3 h4 h5 a0 a1 a2 a3 r0 r1 r2 r3 r4 r5 s0 s1 s2 s3 s4 o0 o1 o2 o3 o4 fh0 fr0 fh1 fr1 fh2 fr2 fh3 fr3 fh4 fr4 fh5 fr5 fs0 fo0 fs1 fo1 fs2 fo2 fs3 fo3 fs4 fo4 v0 v1 q1
  have h0 := HC4.out.f.h0
  have h1 := HC4.out.f.h1
  have h2 := HC4.out.f.h2
  have h3 := HC4.out.f.h3
  have h4 := HC4.out.f.h4
  have h5 := HC4.out.f.h5
  have a0 := HC4.out.f.a0
  have a1 := HC4.out.f.a1
  have a2 := HC4.out.f.a2
  have a3 := HC4.out.f.a3
  have r0 := HC4.out.f.r0
  have r1 := HC4.out.f.r1
  have r2 := HC4.out.f.r2
  have r3 := HC4.out.f.r3
  have r4 := HC4.out.f.r4
  have r5 := HC4.out.f.r5
  have s0 := HC4.out.f.s0
  have s1 := HC4.out.f.s1
  have s2 := HC4.out.f.s2
  have s3 := HC4.out.f.s3
  have s4 := HC4.out.f.s4
  have o0 := HC4.out.f.o0
  have o1 := HC4.out.f.o1
  have o2 := HC4.out.f.o2
  have o3 := HC4.out.f.o3
  have o4 := HC4.out.f.o4
  have fh0 := HC4.out.f.fh 0
  have fh1 := HC4.out.f.fh 1
  have fh2 := HC4.out.f.fh 2
  have fh3 := HC4.out.f.fh 3
  have fh4 := HC4.out.f.fh 4
  have fh5 := HC4.out.f.fh 5
  have fr0 := HC4.out.f.fr 0
  have fr1 := HC4.out.f.fr 1
  have fr2 := HC4.out.f.fr 2
  have fr3 := HC4.out.f.fr 3
  have fr4 := HC4.out.f.fr 4
  have fr5 := HC4.out.f.fr 5
  have fs0 := HC4.out.f.fs 0
  have fs1 := HC4.out.f.fs 1
  have fs2 := HC4.out.f.fs 2
  have fs3 := HC4.out.f.fs 3
  have fs4 := HC4.out.f.fs 4
  have fo0 := HC4.out.f.fo 0
  have fo1 := HC4.out.f.fo 1
  have fo2 := HC4.out.f.fo 2
  have fo3 := HC4.out.f.fo 3
  have fo4 := HC4.out.f.fo 4
  have v0 := HC4.out.v0
  have v1 := HC4.out.v1
  have q1 := HC4.out.q1
  dsimp only [Ans.of, noData] at a0 a1 a2 a3 o0 o1 o2 o3 o4
  dsimp only at h0 h1 h2 h3 h4 h5
  go_wp2_with fail
  refine (HLEN.out _ (HC4.out.rep HREP.out.closed _ (Touch.refl _ _))).mono ?_
  rintro e w4 ⟨rfl, hb4⟩
  have HC5 := Lib.hid (HC4.out.step hb4)
  clear hb4
  clear h0 h1 h2 h3 h4 h5 a0 a1 a2 a3 r0 r1 r2 r3 r4 r5 s0 s1 s2 s3 s4 o0 o1 o2 o3 o4 fh0 fr0 fh1 fr1 fh2 fr2 fh3 fr3 fh4 fr4 fh5 fr5 fs0 fo0 fs1 fo1 fs2 fo2 fs3 fo3 fs4 fo4 v0 v1 q1
  have h0 := HC5.out.f.h0
  have h1 := HC5.out.f.h1
  have h2 := HC5.out.f.h2
  have h3 := HC5.out.f.h3
  have h4 := HC5.out.f.h4
  have h5 := HC5.out.f.h5
  have a0 := HC5.out.f.a0
  have a1 := HC5.out.f.a1
  have a2 := HC5.out.f.a2
  have a3 := HC5.out.f.a3
  have r0 := HC5.out.f.r0
  have r1 := HC5.out.f.r1
  have r2 := HC5.out.f.r2
  have r3 := HC5.out.f.r3
  have r4 := HC5.out.f.r4
  have r5 := HC5.out.f.r5
  have s0 := HC5.out.f.s0
  have s1 := HC5.out.f.s1
  have s2 := HC5.out.f.s2
  have s3 := HC5.out.f.s3
  have s4 := HC5.out.f.s4
  have o0 := HC5.out.f.o0
  have o1 := HC5.out.f.o1
  have o2 := HC5.out.f.o2
  have o3 := HC5.out.f.o3
  have o4 := HC5.out.f.o4
  have fh0 := HC5.out.f.fh 0
  have fh1 := HC5.out.f.fh 1
  have fh2 := HC5.out.f.fh 2
  have fh3 := HC5.out.f.fh 3
  have fh4 := HC5.out.f.fh 4
  have fh5 := HC5.out.f.fh 5
  have fr0 := HC5.out.f.fr 0
  have fr1 := HC5.out.f.fr 1
  have fr2 := HC5.out.f.fr 2
  have fr3 := HC5.out.f.fr 3
  have fr4 := HC5.out.f.fr 4
  have fr5 := HC5.out.f.fr 5
  have fs0 := HC5.out.f.fs 0
  have fs1 := HC5.out.f.fs 1
  have fs2 := HC5.out.f.fs 2
  have fs3 := HC5.out.f.fs 3
  have fs4 := HC5.out.f.fs 4
  have fo0 := HC5.out.f.fo 0
  have fo1 := HC5.out.f.fo 1
  have fo2 := HC5.out.f.fo 2
  have fo3 := HC5.out.f.fo 3
  have fo4 := HC5.out.f.fo 4
  have v0 := HC5.out.v0
  have v1 := HC5.out.v1
  have q1 := HC5.out.q1
  dsimp only [Ans.of, noData] at a0 a1 a2 a3 o0 o1 o2 o3 o4
  dsimp only at h0 h1 h2 h3 h4 h5
  go_upto_region 38 with (fail)
  have hc6 := HC5.out.setCode 0
  obtain ⟨W4, hW4⟩ : ∃ W4, W4 = w4.setCell ⟨w.heap.size + 1 + 1 + 1 + 1, 0, none⟩ (.int .i64 0) := ⟨_, rfl⟩
  rw [← hW4] at hc6 ⊢
  have HC6 := Lib.hid hc6
  have hdl := (hc6.rep HREP.out.closed _ (Touch.refl _ _)).deals
  dsimp only at hdl
  have HDL := Lib.hid hdl
  clear hc6 hW4 hdl
  clear h0 h1 h2 h3 h4 h5 a0 a1 a2 a3 r0 r1 r2 r3 r4 r5 s0 s1 s2 s3 s4 o0 o1 o2 o3 o4 fh0 fr0 fh1 fr1 fh2 fr2 fh3 fr3 fh4 fr4 fh5 fr5 fs0 fo0 fs1 fo1 fs2 fo2 fs3 fo3 fs4 fo4 v0 v1 q1
  have h0 := HC6.out.f.h0
  have h1 := HC6.out.f.h1
  have h2 := HC6.out.f.h2
  have h3 := HC6.out.f.h3
  have h4 := HC6.out.f.h4
  have h5 := HC6.out.f.h5
  have a0 := HC6.out.f.a0
  have a1 := HC6.out.f.a1
  have a2 := HC6.out.f.a2
  have a3 := HC6.out.f.a3
  have r0 := HC6.out.f.r0
  have r1 := HC6.out.f.r1
  have r2 := HC6.out.f.r2
  have r3 := HC6.out.f.r3
  have r4 := HC6.out.f.r4
  have r5 := HC6.out.f.r5
  have s0 := HC6.out.f.s0
  have s1 := HC6.out.f.s1
  have s2 := HC6.out.f.s2
  have s3 := HC6.out.f.s3
  have s4 := HC6.out.f.s4
  have o0 := HC6.out.f.o0
  have o1 := HC6.out.f.o1
  have o2 := HC6.out.f.o2
  have o3 := HC6.out.f.o3
  have o4 := HC6.out.f.o4
  have fh0 := HC6.out.f.fh 0
  have fh1 := HC6.out.f.fh 1
  have fh2 := HC6.out.f.fh 2
  have fh3 := HC6.out.f.fh 3
  have fh4 := HC6.out.f.fh 4
  have fh5 := HC6.out.f.fh 5
  have fr0 := HC6.out.f.fr 0
  have fr1 := HC6.out.f.fr 1
  have fr2 := HC6.out.f.fr 2
  have fr3 := HC6.out.f.fr 3
  have fr4 := HC6.out.f.fr 4
  have fr5 := HC6.out.f.fr 5
  have fs0 := HC6.out.f.fs 0
  have fs1 := HC6.out.f.fs 1
  have fs2 := HC6.out.f.fs 2
  have fs3 := HC6.out.f.fs 3
  have fs4 := HC6.out.f.fs 4
  have fo0 := HC6.out.f.fo 0
  have fo1 := HC6.out.f.fo 1
  have fo2 := HC6.out.f.fo 2
  have fo3 := HC6.out.f.fo 3
  have fo4 := HC6.out.f.fo 4
  have v0 := HC6.out.v0
  have v1 := HC6.out.v1
  have q1 := HC6.out.q1
  dsimp only [Ans.of, noData] at a0 a1 a2 a3 o0 o1 o2 o3 o4
  dsimp only at h0 h1 h2 h3 h4 h5
  go_wp2_with (at_builtin; first
    | (refine wpList_append_rows rfl _ (.tmp 141) 107 rfl 141 i0 _ 2 32 Try.underlying107 II.out IZ0.out IZ1.out IZ2.out rfl (by decide) x.AD H.deals.length x.cd x.ds rfl rfl _ HDL.out HREP.out.nD (deal_one x.ds) (by unfold maxLen; omega) (by omega) ?_; intro A5 c5 w5 hown5 hb5 hn5; have HO5 := Lib.hid hown5; have HB5 := Lib.hid hb5; have HLT5 := Lib.hid (fun k hk => (HO5.out.lt k hk).1); clear hown5 hb5 hn5)
    | (refine wpList_append_own _ rfl (.tmp 142) (.tmp 147) 107 rfl W4.heap.size 141 i0 _ 2 32 Try.underlying107 II.out IZ0.out IZ1.out IZ2.out rfl (by decide) _ _ _ rfl (HO5.out.alloc _) ⟨w5.heap.size, 0, none⟩ 1 1 [.slice x.AL H.ws.length x.cl, .int .i64 S.size] rfl rfl (World.news_of_block (cs := #[.slice x.AL H.ws.length x.cl, .int .i64 S.size]) (t := 141) (fr := (0, 0)) (heap_alloc_new w5 _)) (by simp [Value.oneCell']) (by unfold maxLen; omega) (by omega) (by have := HB5.out.size; simp; omega) ?_; intro v6 w6 hown6 hgr6 _; have HB6 := Lib.hid ((HB5.out.alloc HB5.out.size _).grown hgr6 (by have := HB5.out.size; simp; omega) HLT5.out); have ho6 : w6.ownsRow W4.heap.size 141 2 v6 (H.deals.length + 1) (flat Dl.cell 2 (x.ds ++ [⟨x.AL, x.cl, H.ws, S.size⟩])) := (by rw [flat_append, flat_one]; exact hown6); obtain ⟨A6, c6, rfl, hcap, hcm, hnD⟩ := own_form ho6; have HO6 := Lib.hid ho6; have HCAP := Lib.hid hcap; have HCM := Lib.hid hcm; have HND := Lib.hid hnD; have HC7 := Lib.hid (HC6.out.step HB6.out); have hs6 := HC6.out.f.sz; clear hgr6 hown6 ho6 hcap hcm hnD; clear h0 h1 h2 h3 h4 h5 a0 a1 a2 a3 r0 r1 r2 r3 r4 r5 s0 s1 s2 s3 s4 o0 o1 o2 o3 o4 fh0 fr0 fh1 fr1 fh2 fr2 fh3 fr3 fh4 fr4 fh5 fr5 fs0 fo0 fs1 fo1 fs2 fo2 fs3 fo3 fs4 fo4 v0 v1 q1; have h0 := HC7.out.f.h0; have h1 := HC7.out.f.h1; have h2 := HC7.out.f.h2; have h3 := HC7.out.f.h3; have h4 := HC7.out.f.h4; have h5 := HC7.out.f.h5; have a0 := HC7.out.f.a0; have a1 := HC7.out.f.a1; have a2 := HC7.out.f.a2; have a3 := HC7.out.f.a3; have r0 := HC7.out.f.r0; have r1 := HC7.out.f.r1; have r2 := HC7.out.f.r2; have r3 := HC7.out.f.r3; have r4 := HC7.out.f.r4; have r5 := HC7.out.f.r5; have s0 := HC7.out.f.s0; have s1 := HC7.out.f.s1; have s2 := HC7.out.f.s2; have s3 := HC7.out.f.s3; have s4 := HC7.out.f.s4; have o0 := HC7.out.f.o0; have o1 := HC7.out.f.o1; have o2 := HC7.out.f.o2; have o3 := HC7.out.f.o3; have o4 := HC7.out.f.o4; have fh0 := HC7.out.f.fh 0; have fh1 := HC7.out.f.fh 1; have fh2 := HC7.out.f.fh 2; have fh3 := HC7.out.f.fh 3; have fh4 := HC7.out.f.fh 4; have fh5 := HC7.out.f.fh 5; have fr0 := HC7.out.f.fr 0; have fr1 := HC7.out.f.fr 1; have fr2 := HC7.out.f.fr 2; have fr3 := HC7.out.f.fr 3; have fr4 := HC7.out.f.fr 4; have fr5 := HC7.out.f.fr 5; have fs0 := HC7.out.f.fs 0; have fs1 := HC7.out.f.fs 1; have fs2 := HC7.out.f.fs 2; have fs3 := HC7.out.f.fs 3; have fs4 := HC7.out.f.fs 4; have fo0 := HC7.out.f.fo 0; have fo1 := HC7.out.f.fo 1; have fo2 := HC7.out.f.fo 2; have fo3 := HC7.out.f.fo 3; have fo4 := HC7.out.f.fo 4; have v0 := HC7.out.v0; have v1 := HC7.out.v1; have q1 := HC7.out.q1; dsimp only [Ans.of, noData] at a0 a1 a2 a3 o0 o1 o2 o3 o4; dsimp only at h0 h1 h2 h3 h4 h5))
  go_wp2
  go_region
  all_goals
    go_wp2
    refine bodyPost_ret (v := .tuple #[.agg #[.slice x.A0 H.base.1.length x.c0, .slice x.A1 H.base.2.length x.c1, .slice A6 (H.deals.length + 1) c6, .int .i64 H.last, .bool false, .slice none 0 0], .agg #[.int .i64 0, .string ⟨#[]⟩, .int .i64 0, .int .i64 0, .int .i64 0]]) (by simp [results, Try.results62, go_sem, r0, r1, r2, r3, r4, r5, s0, s1, s2, s3, s4]) rfl ?_
    refine ActedPost.of HC7.out ?_ { x with AL := none, cl := 0, AD := A6, cd := c6, ds := x.ds ++ [⟨x.AL, x.cl, H.ws, S.size⟩] } (by unfold houseV ansV; simp [Ans.of, noData]) ?_ HRLT.out
    · ((repeat (with_reducible first | exact Touch.refl _ _ | refine Touch.setC ?_ _ ?_ _ | refine Touch.drawC ?_ _ | refine Touch.drawO ?_)) <;> (dsimp only [ActR]; omega))
    · exact fun W' hT => (HC7.out.repS HSTY.out.closed W' hT).adds rfl (Rep.of_own (by have := HREP.out.len; simp; omega) (own_touch HO6.out hT (fun g hg r => by have h1 := (HO6.out.lt g hg).1; have h2 := r.2; omega)) (Nat.le_refl _)) (HC7.out.repS HSTY.out W' hT).l HND.out HCAP.out HCM.out
end Go.Proofs.Ytphbebcbbfbgpab

namespace Go.Proofs.Ytphbebcbbfbgpab
open Go Go.RowKit

theorem HRep.cuts {w : World} {B : Nat} {x : HV} {H : Hse} {n : Nat} (h : HRep w B x H) (hn : n ≤ H.deals.length) : HRep w B { x with AL := none, cl := 0, ds := x.ds.take n } ⟨H.base, H.deals.take n, n, false, []⟩ := by
  have e : (H.deals.take n).length = n := by simp; omega
  refine ⟨h.items, h.blocks, ?_, fun d hd => h.dws d (List.mem_of_mem_take hd), by simp only; rw [h.eq, List.map_take], Rep.nil _ _ _ _ _, h.n0, h.n1, fun hA => ⟨by simp only; rw [e]; have := (h.nD hA).1; omega, (h.nD hA).2⟩, by simp only; rw [e]; have := h.cap; omega, h.cm⟩
  simp only
  rw [e]
  have hl := h.len
  refine ⟨by rw [List.length_take]; omega, fun hp => ?_⟩
  obtain ⟨b, off, hA, hb, hc⟩ := h.deals.2 (by omega)
  refine ⟨b, off, hA, hb, fun k hk i hi => ?_⟩
  rw [List.length_take] at hk
  rw [List.getElem_take]
  exact hc k (by omega) i hi
theorem leftF_succ {k s : Nat} (H : Hse) {n : Nat} (h : n < H.deals.length) : leftF k s ((H.deals.drop n).map (·.2)) = if s + (H.deals[n]).2 ≤ k then leftF k (s + (H.deals[n]).2) ((H.deals.drop (n + 1)).map (·.2)) + 1 else 0 := by
  rw [List.drop_eq_getElem_cons h, List.map_cons, leftF]
theorem leftF_end {k s : Nat} (H : Hse) {n : Nat} (h : ¬ n < H.deals.length) : leftF k s ((H.deals.drop n).map (·.2)) = 0 := by
  rw [List.drop_of_length_le (by omega)]; rfl
theorem lenH_mono (H : Hse) {i j : Nat} (h : i ≤ j) : lenH H i ≤ lenH H j := by
  rw [lenH, lenH, show H.deals.take i = (H.deals.take j).take i by rw [List.take_take, Nat.min_eq_left h]]
  conv => rhs; rw [← List.take_append_drop i (H.deals.take j)]
  rw [List.map_append, List.sum_append]; omega

set_option maxRecDepth 100000 in
set_option maxHeartbeats 4000000 in
theorem ref_crash_neg (x : HV) (H : Hse) (a : Acn) (R : Nat → Prop) (w : World) (hsty : HStay R w x H) (hR : ∀ k, R k → k < w.heap.size) (g : GoodH H) (hk : a.kind = 7) (hneg : a.keep < 0) :
    Calls Try.prog 62 #[houseV x H, actV a] w (ActedPost R w (actH H a)) := by
  have h := hsty.now
  obtain ⟨kind, block, data, keep⟩ := a
  dsimp only at hk
  subst hk
  dsimp only at hneg
  have e : actH H ⟨7, block, data, keep⟩ = (H, Ans.of 2) := by
    rw [actH, if_neg (by simp), if_neg (by simp), if_neg (by simp), if_neg (by simp), if_neg (by simp), if_neg (by simp), if_pos rfl, if_pos hneg]
  rw [e]
  have dn : decide (keep < 0) = true := decide_eq_true hneg
  clear e
  have HNOW := Lib.hid (now_stay (ActS R w) x H (world5 w x H ⟨7, block, data, keep⟩) (hsty.later (world5_below w x H _)) (fun k hk => hk.lt) g)
  have HREP := Lib.hid h
  have HSTY := Lib.hid hsty
  have HRLT := Lib.hid hR
  have HG := Lib.hid g
  unfold houseV at HNOW ⊢
  unfold actV
  clear h hsty hR g
  go_enter Try.func62, Try.ntmps62
  go_wp2_with fail
  refine HNOW.out.mono ?_
  rintro e w1 ⟨A, c, B, d, rfl, hst, hb⟩
  have HA := Lib.hid (HAct.new (hst.weak (fun k hk => .inl ⟨.inl hk.1, hk.2⟩)) hb)
  have HSV := Lib.hid ((hst.weak (R' := ActS R w) (fun k hk => .inl hk)).step (Touch.below ((Below.refl w1.heap.size w1).alloc (Nat.le_refl _) (.cells #[.slice A (nowH H).1.length c, .slice B (nowH H).2.length d] 30))))
  clear hst hb HNOW
  go_upto_region 3 with (fail)
  obtain ⟨W, hW⟩ : ∃ W, W = w1.alloc (.cells #[.slice A (nowH H).1.length c, .slice B (nowH H).2.length d] 30) := ⟨_, rfl⟩
  rw [← hW] at HA HSV ⊢
  obtain ⟨q, hq⟩ : ∃ q, w1.heap.size = q := ⟨_, rfl⟩
  rw [hq] at HA ⊢
  clear hW hq
  have h0 := HA.out.f.h0
  have h1 := HA.out.f.h1
  have h2 := HA.out.f.h2
  have h3 := HA.out.f.h3
  have h4 := HA.out.f.h4
  have h5 := HA.out.f.h5
  have a0 := HA.out.f.a0
  have a1 := HA.out.f.a1
  have a2 := HA.out.f.a2
  have a3 := HA.out.f.a3
  have r0 := HA.out.f.r0
  have r1 := HA.out.f.r1
  have r2 := HA.out.f.r2
  have r3 := HA.out.f.r3
  have r4 := HA.out.f.r4
  have r5 := HA.out.f.r5
  have s0 := HA.out.f.s0
  have s1 := HA.out.f.s1
  have s2 := HA.out.f.s2
  have s3 := HA.out.f.s3
  have s4 := HA.out.f.s4
  have o0 := HA.out.f.o0
  have o1 := HA.out.f.o1
  have o2 := HA.out.f.o2
  have o3 := HA.out.f.o3
  have o4 := HA.out.f.o4
  have fh0 := HA.out.f.fh 0
  have fh1 := HA.out.f.fh 1
  have fh2 := HA.out.f.fh 2
  have fh3 := HA.out.f.fh 3
  have fh4 := HA.out.f.fh 4
  have fh5 := HA.out.f.fh 5
  have fr0 := HA.out.f.fr 0
  have fr1 := HA.out.f.fr 1
  have fr2 := HA.out.f.fr 2
  have fr3 := HA.out.f.fr 3
  have fr4 := HA.out.f.fr 4
  have fr5 := HA.out.f.fr 5
  have fs0 := HA.out.f.fs 0
  have fs1 := HA.out.f.fs 1
  have fs2 := HA.out.f.fs 2
  have fs3 := HA.out.f.fs 3
  have fs4 := HA.out.f.fs 4
  have fo0 := HA.out.f.fo 0
  have fo1 := HA.out.f.fo 1
  have fo2 := HA.out.f.fo 2
  have fo3 := HA.out.f.fo 3
  have fo4 := HA.out.f.fo 4
  have v0 := HA.out.v0
  have v1 := HA.out.v1
  have q1 := HA.out.q1
  dsimp only [Ans.of, noData] at a0 a1 a2 a3 o0 o1 o2 o3 o4
  go_wp2
  go_region
  all_goals
    go_wp2
    refine bodyPost_ret (v := .tuple #[.agg #[.slice x.A0 H.base.1.length x.c0, .slice x.A1 H.base.2.length x.c1, .slice x.AD H.deals.length x.cd, .int .i64 H.last, .bool H.opened, .slice x.AL H.ws.length x.cl], .agg #[.int .i64 2, .string ⟨#[]⟩, .int .i64 0, .int .i64 0, .int .i64 0]]) (by simp [results, Try.results62, go_sem, r0, r1, r2, r3, r4, r5, s0, s1, s2, s3, s4]) rfl ?_
    refine ActedPost.of HA.out ?_ x rfl ?_ HRLT.out
    · ((repeat (with_reducible first | exact Touch.refl _ _ | refine Touch.setC ?_ _ ?_ _ | refine Touch.drawC ?_ _ | refine Touch.drawO ?_)) <;> (dsimp only [ActR]; omega))
    · exact fun W' hT => HA.out.repS HSTY.out W' hT

set_option maxRecDepth 100000 in
set_option maxHeartbeats 4000000 in
theorem ref_crash_pos (x : HV) (H : Hse) (a : Acn) (R : Nat → Prop) (w : World) (hsty : HStay R w x H) (hR : ∀ k, R k → k < w.heap.size) (g : GoodH H) (hk : a.kind = 7) (hpos : ¬ a.keep < 0) (hkb : i64Ok a.keep) :
    Calls Try.prog 62 #[houseV x H, actV a] w (ActedPost R w (actH H a)) := by
  have h := hsty.now
  obtain ⟨kind, block, data, keep⟩ := a
  dsimp only at hk
  subst hk
  dsimp only at hpos hkb
  obtain ⟨k, rfl⟩ : ∃ k : Nat, keep = k := ⟨keep.toNat, by omega⟩
  obtain ⟨m, hm⟩ : ∃ m, crashN H k = m := ⟨_, rfl⟩
  have e : actH H ⟨7, block, data, k⟩ = (⟨H.base, H.deals.take m, m, false, []⟩, ⟨0, noData, 0, 0, m⟩) := by
    rw [actH, if_neg (by simp), if_neg (by simp), if_neg (by simp), if_neg (by simp), if_neg (by simp), if_neg (by simp), if_pos rfl, if_neg (by simp only; omega), hm]
  rw [e]
  have dn : decide ((k : Int) < 0) = false := decide_eq_false (by omega)
  have h500 := g.nd
  have hsum : ∀ i, lenH H i ≤ 4000 := fun i => Nat.le_trans (lenH_le H i) g.sum
  have hlast := g.last
  have hlen : ∀ (i : Nat) W', i ≤ H.deals.length → HRep W' W'.heap.size x H → Calls Try.prog 87 #[houseV x H, .int .i64 i] W' fun e w' => e = .returned (.int .i64 (lenH H i)) ∧ Below W'.heap.size W' w' := fun i W' hi hr => length_any x H i W' hr g hi
  unfold houseV at hlen
  have HLEN := Lib.hid hlen
  have HSUM := Lib.hid hsum
  have HLAST := Lib.hid hlast
  have HM : Hid (H.last + leftF k 0 ((H.deals.drop H.last).map (·.2)) = m) := Lib.hid (by rw [← hm, crashN, Int.toNat_natCast])
  clear e hlen hsum hm
  have HNOW := Lib.hid (now_stay (ActS R w) x H (world5 w x H ⟨7, block, data, (k : Int)⟩) (hsty.later (world5_below w x H _)) (fun k hk => hk.lt) g)
  have HREP := Lib.hid h
  have HSTY := Lib.hid hsty
  have HRLT := Lib.hid hR
  have HG := Lib.hid g
  unfold houseV at HNOW ⊢
  unfold actV
  clear h hsty hR g
  go_enter Try.func62, Try.ntmps62
  go_wp2_with fail
  refine HNOW.out.mono ?_
  rintro e w1 ⟨A, c, B, d, rfl, hst, hb⟩
  have HA := Lib.hid (HAct.new (hst.weak (fun k hk => .inl ⟨.inl hk.1, hk.2⟩)) hb)
  have HSV := Lib.hid ((hst.weak (R' := ActS R w) (fun k hk => .inl hk)).step (Touch.below ((Below.refl w1.heap.size w1).alloc (Nat.le_refl _) (.cells #[.slice A (nowH H).1.length c, .slice B (nowH H).2.length d] 30))))
  clear hst hb HNOW
  go_upto_region 3 with (fail)
  obtain ⟨W, hW⟩ : ∃ W, W = w1.alloc (.cells #[.slice A (nowH H).1.length c, .slice B (nowH H).2.length d] 30) := ⟨_, rfl⟩
  rw [← hW] at HA HSV ⊢
  obtain ⟨q, hq⟩ : ∃ q, w1.heap.size = q := ⟨_, rfl⟩
  rw [hq] at HA ⊢
  clear hW hq
  have h0 := HA.out.f.h0
  have h1 := HA.out.f.h1
  have h2 := HA.out.f.h2
  have h3 := HA.out.f.h3
  have h4 := HA.out.f.h4
  have h5 := HA.out.f.h5
  have a0 := HA.out.f.a0
  have a1 := HA.out.f.a1
  have a2 := HA.out.f.a2
  have a3 := HA.out.f.a3
  have r0 := HA.out.f.r0
  have r1 := HA.out.f.r1
  have r2 := HA.out.f.r2
  have r3 := HA.out.f.r3
  have r4 := HA.out.f.r4
  have r5 := HA.out.f.r5
  have s0 := HA.out.f.s0
  have s1 := HA.out.f.s1
  have s2 := HA.out.f.s2
  have s3 := HA.out.f.s3
  have s4 := HA.out.f.s4
  have o0 := HA.out.f.o0
  have o1 := HA.out.f.o1
  have o2 := HA.out.f.o2
  have o3 := HA.out.f.o3
  have o4 := HA.out.f.o4
  have fh0 := HA.out.f.fh 0
  have fh1 := HA.out.f.fh 1
  have fh2 := HA.out.f.fh 2
  have fh3 := HA.out.f.fh 3
  have fh4 := HA.out.f.fh 4
  have fh5 := HA.out.f.fh 5
  have fr0 := HA.out.f.fr 0
  have fr1 := HA.out.f.fr 1
  have fr2 := HA.out.f.fr 2
  have fr3 := HA.out.f.fr 3
  have fr4 := HA.out.f.fr 4
  have fr5 := HA.out.f.fr 5
  have fs0 := HA.out.f.fs 0
  have fs1 := HA.out.f.fs 1
  have fs2 := HA.out.f.fs 2
  have fs3 := HA.out.f.fs 3
  have fs4 := HA.out.f.fs 4
  have fo0 := HA.out.f.fo 0
  have fo1 := HA.out.f.fo 1
  have fo2 := HA.out.f.fo 2
  have fo3 := HA.out.f.fo 3
  have fo4 := HA.out.f.fo 4
  have v0 := HA.out.v0
  have v1 := HA.out.v1
  have q1 := HA.out.q1
  dsimp only [Ans.of, noData] at a0 a1 a2 a3 o0 o1 o2 o3 o4
  go_wp2
  clear h0 h1 h2 h3 h4 h5 a0 a1 a2 a3 r0 r1 r2 r3 r4 r5 s0 s1 s2 s3 s4 o0 o1 o2 o3 o4 fh0 fr0 fh1 fr1 fh2 fr2 fh3 fr3 fh4 fr4 fh5 fr5 fs0 fo0 fs1 fo1 fs2 fo2 fs3 fo3 fs4 fo4 v0 v1 q1
  go_loopw [15] (fun t wr => ∃ n : Nat, H.last ≤ n ∧ n ≤ H.deals.length ∧ t = .int .i64 n ∧ HAct w x H ⟨7, block, data, (k : Int)⟩ q A c B d (nowH H) (Ans.of 0) wr ∧ Hid (n + leftF k (lenH H n - lenH H H.last) ((H.deals.drop n).map (·.2)) = m)) (fun t _ => H.deals.length - (intOf t).toNat)
  case atStart => exact ⟨H.last, Nat.le_refl _, hlast, rfl, HA.out, Lib.hid (by rw [Nat.sub_self]; exact HM.out)⟩
  case round =>
    obtain ⟨n, hn1, hn2, rfl, hal, hinv⟩ := hrel
    have HAL := Lib.hid hal
    clear hal
    have h0 := HAL.out.f.h0
    have h1 := HAL.out.f.h1
    have h2 := HAL.out.f.h2
    have h3 := HAL.out.f.h3
    have h4 := HAL.out.f.h4
    have h5 := HAL.out.f.h5
    have a0 := HAL.out.f.a0
    have a1 := HAL.out.f.a1
    have a2 := HAL.out.f.a2
    have a3 := HAL.out.f.a3
    have r0 := HAL.out.f.r0
    have r1 := HAL.out.f.r1
    have r2 := HAL.out.f.r2
    have r3 := HAL.out.f.r3
    have r4 := HAL.out.f.r4
    have r5 := HAL.out.f.r5
    have s0 := HAL.out.f.s0
    have s1 := HAL.out.f.s1
    have s2 := HAL.out.f.s2
    have s3 := HAL.out.f.s3
    have s4 := HAL.out.f.s4
    have o0 := HAL.out.f.o0
    have o1 := HAL.out.f.o1
    have o2 := HAL.out.f.o2
    have o3 := HAL.out.f.o3
    have o4 := HAL.out.f.o4
    have fh0 := HAL.out.f.fh 0
    have fh1 := HAL.out.f.fh 1
    have fh2 := HAL.out.f.fh 2
    have fh3 := HAL.out.f.fh 3
    have fh4 := HAL.out.f.fh 4
    have fh5 := HAL.out.f.fh 5
    have fr0 := HAL.out.f.fr 0
    have fr1 := HAL.out.f.fr 1
    have fr2 := HAL.out.f.fr 2
    have fr3 := HAL.out.f.fr 3
    have fr4 := HAL.out.f.fr 4
    have fr5 := HAL.out.f.fr 5
    have fs0 := HAL.out.f.fs 0
    have fs1 := HAL.out.f.fs 1
    have fs2 := HAL.out.f.fs 2
    have fs3 := HAL.out.f.fs 3
    have fs4 := HAL.out.f.fs 4
    have fo0 := HAL.out.f.fo 0
    have fo1 := HAL.out.f.fo 1
    have fo2 := HAL.out.f.fo 2
    have fo3 := HAL.out.f.fo 3
    have fo4 := HAL.out.f.fo 4
    have v0 := HAL.out.v0
    have v1 := HAL.out.v1
    have q1 := HAL.out.q1
    dsimp only [Ans.of, noData] at a0 a1 a2 a3 o0 o1 o2 o3 o4
    have l1 := HSUM.out n
    have l2 := HSUM.out (n + 1)
    have l3 := lenH_mono H hn1
    by_cases hlt : n < H.deals.length
    · have hs1 := lenH_succ H hlt
      have hlf := leftF_succ (k := k) (s := lenH H n - lenH H H.last) H hlt
      have w2' : IntKind.i64.wrap (((lenH H (n + 1) : Nat) : Int) - ((lenH H H.last : Nat) : Int)) = ((lenH H (n + 1) - lenH H H.last : Nat) : Int) := by
        rw [IntKind.wrap_i64] <;> omega
      have hwr : IntKind.i64.wrap ((n : Int) + 1) = ((n + 1 : Nat) : Int) := by rw [IntKind.wrap_i64] <;> omega
      have hl1 : ∀ W', HAct w x H ⟨7, block, data, (k : Int)⟩ q A c B d (nowH H) (Ans.of 0) W' → Calls Try.prog 87 #[.agg #[.slice x.A0 H.base.1.length x.c0, .slice x.A1 H.base.2.length x.c1, .slice x.AD H.deals.length x.cd, .int .i64 H.last, .bool H.opened, .slice x.AL H.ws.length x.cl], .int .i64 (IntKind.i64.wrap ((n : Int) + 1))] W' fun e w' => e = .returned (.int .i64 (lenH H (n + 1))) ∧ HAct w x H ⟨7, block, data, (k : Int)⟩ q A c B d (nowH H) (Ans.of 0) w' := fun W' hA => by rw [hwr]; exact (HLEN.out (n + 1) W' (by omega) (hA.rep HREP.out _ (Touch.refl _ _))).mono fun e w' ⟨he, hb⟩ => ⟨he, hA.step hb⟩
      have hl2 : ∀ W', HAct w x H ⟨7, block, data, (k : Int)⟩ q A c B d (nowH H) (Ans.of 0) W' → Calls Try.prog 87 #[.agg #[.slice x.A0 H.base.1.length x.c0, .slice x.A1 H.base.2.length x.c1, .slice x.AD H.deals.length x.cd, .int .i64 H.last, .bool H.opened, .slice x.AL H.ws.length x.cl], .int .i64 H.last] W' fun e w' => e = .returned (.int .i64 (lenH H H.last)) ∧ HAct w x H ⟨7, block, data, (k : Int)⟩ q A c B d (nowH H) (Ans.of 0) w' := fun W' hA => (HLEN.out H.last W' HLAST.out (hA.rep HREP.out _ (Touch.refl _ _))).mono fun e w' ⟨he, hb⟩ => ⟨he, hA.step hb⟩
      have HLEN1 := Lib.hid hl1
      have HLEN2 := Lib.hid hl2
      clear hl1 hl2 hwr
      by_cases hfit : lenH H n - lenH H H.last + (H.deals[n]'hlt).2 ≤ k
      · rw [if_pos hfit] at hlf
        have hnx : (n + 1) + leftF k (lenH H (n + 1) - lenH H H.last) ((H.deals.drop (n + 1)).map (·.2)) = m := by
          rw [← hinv.out, hlf, hs1, show lenH H n + (H.deals[n]'hlt).2 - lenH H H.last = lenH H n - lenH H H.last + (H.deals[n]'hlt).2 by omega]; omega
        have HNX := Lib.hid hnx
        have d1 : decide (((lenH H (n + 1) - lenH H H.last : Nat) : Int) ≤ (k : Int)) = true := decide_eq_true (by omega)
        have d2 : decide ((n : Int) < (H.deals.length : Int)) = true := decide_eq_true (by omega)
        have hle : lenH H (n + 1) ≤ k + lenH H H.last := by omega
        have hle2 : decide (lenH H (n + 1) ≤ k + lenH H H.last) = true := decide_eq_true hle
        clear hs1 hlf hnx hinv hfit
        go_wp2
        go_region_held3 (fun W => HAct w x H ⟨7, block, data, (k : Int)⟩ q A c B d (nowH H) (Ans.of 0) W ∧ W.cell? ⟨w.heap.size, 0, none⟩ = some (.slice x.A0 H.base.1.length x.c0) ∧ W.cell? ⟨w.heap.size, 1, none⟩ = some (.slice x.A1 H.base.2.length x.c1) ∧ W.cell? ⟨w.heap.size, 2, none⟩ = some (.slice x.AD H.deals.length x.cd) ∧ W.cell? ⟨w.heap.size, 3, none⟩ = some (.int .i64 H.last) ∧ W.cell? ⟨w.heap.size, 4, none⟩ = some (.bool H.opened) ∧ W.cell? ⟨w.heap.size, 5, none⟩ = some (.slice x.AL H.ws.length x.cl) ∧ W.cell? ⟨w.heap.size + 1, 3, none⟩ = some (.int .i64 (k : Int))) (first | exact ⟨HAL.out, (HAL.out).f.h0, (HAL.out).f.h1, (HAL.out).f.h2, (HAL.out).f.h3, (HAL.out).f.h4, (HAL.out).f.h5, (HAL.out).f.a3⟩ | exact ⟨(HAL.out.step (Below.refl _ _).drew), ((HAL.out.step (Below.refl _ _).drew)).f.h0, ((HAL.out.step (Below.refl _ _).drew)).f.h1, ((HAL.out.step (Below.refl _ _).drew)).f.h2, ((HAL.out.step (Below.refl _ _).drew)).f.h3, ((HAL.out.step (Below.refl _ _).drew)).f.h4, ((HAL.out.step (Below.refl _ _).drew)).f.h5, ((HAL.out.step (Below.refl _ _).drew)).f.a3⟩ | exact ⟨HN5.out, (HN5.out).f.h0, (HN5.out).f.h1, (HN5.out).f.h2, (HN5.out).f.h3, (HN5.out).f.h4, (HN5.out).f.h5, (HN5.out).f.a3⟩ | exact ⟨(HN5.out.step (Below.refl _ _).drew), ((HN5.out.step (Below.refl _ _).drew)).f.h0, ((HN5.out.step (Below.refl _ _).drew)).f.h1, ((HN5.out.step (Below.refl _ _).drew)).f.h2, ((HN5.out.step (Below.refl _ _).drew)).f.h3, ((HN5.out.step (Below.refl _ _).drew)).f.h4, ((HN5.out.step (Below.refl _ _).drew)).f.h5, ((HN5.out.step (Below.refl _ _).drew)).f.a3⟩) (first | (go_at_call 87; first | (with_reducible refine (HLEN1.out _ ?hA).mono ?_; (case hA => first | assumption | exact HAL.out | exact (HAL.out.step (Below.refl _ _).drew) | exact HN5.out | exact (HN5.out.step (Below.refl _ _).drew)); rintro e w5 ⟨rfl, hn5⟩; have HN5 := Lib.hid hn5; clear hn5) | (with_reducible refine (HLEN2.out _ ?hA).mono ?_; (case hA => first | assumption | exact HAL.out | exact (HAL.out.step (Below.refl _ _).drew) | exact HN5.out | exact (HN5.out.step (Below.refl _ _).drew)); rintro e w5 ⟨rfl, hn5⟩; have HN5 := Lib.hid hn5; clear hn5)))
        go_wp2
        go_roundw
        case rel => exact ⟨n + 1, by omega, by omega, by go_num, by assumption, HNX⟩
        case measure => simp [intOf]; omega
      · rw [if_neg hfit] at hlf
        have hmn : n = m := by rw [← hinv.out, hlf]; rfl
        have d1 : decide (((lenH H (n + 1) - lenH H H.last : Nat) : Int) ≤ (k : Int)) = false := decide_eq_false (by omega)
        have d2 : decide ((n : Int) < (H.deals.length : Int)) = true := decide_eq_true (by omega)
        have hle : ¬ lenH H (n + 1) ≤ k + lenH H H.last := by omega
        have hle2 : decide (lenH H (n + 1) ≤ k + lenH H H.last) = false := decide_eq_false hle
        subst hmn
        clear hs1 hlf hinv hfit
        go_wp2
        go_region_held3 (fun W => HAct w x H ⟨7, block, data, (k : Int)⟩ q A c B d (nowH H) (Ans.of 0) W ∧ W.cell? ⟨w.heap.size, 0, none⟩ = some (.slice x.A0 H.base.1.length x.c0) ∧ W.cell? ⟨w.heap.size, 1, none⟩ = some (.slice x.A1 H.base.2.length x.c1) ∧ W.cell? ⟨w.heap.size, 2, none⟩ = some (.slice x.AD H.deals.length x.cd) ∧ W.cell? ⟨w.heap.size, 3, none⟩ = some (.int .i64 H.last) ∧ W.cell? ⟨w.heap.size, 4, none⟩ = some (.bool H.opened) ∧ W.cell? ⟨w.heap.size, 5, none⟩ = some (.slice x.AL H.ws.length x.cl) ∧ W.cell? ⟨w.heap.size + 1, 3, none⟩ = some (.int .i64 (k : Int))) (first | exact ⟨HAL.out, (HAL.out).f.h0, (HAL.out).f.h1, (HAL.out).f.h2, (HAL.out).f.h3, (HAL.out).f.h4, (HAL.out).f.h5, (HAL.out).f.a3⟩ | exact ⟨(HAL.out.step (Below.refl _ _).drew), ((HAL.out.step (Below.refl _ _).drew)).f.h0, ((HAL.out.step (Below.refl _ _).drew)).f.h1, ((HAL.out.step (Below.refl _ _).drew)).f.h2, ((HAL.out.step (Below.refl _ _).drew)).f.h3, ((HAL.out.step (Below.refl _ _).drew)).f.h4, ((HAL.out.step (Below.refl _ _).drew)).f.h5, ((HAL.out.step (Below.refl _ _).drew)).f.a3⟩ | exact ⟨HN5.out, (HN5.out).f.h0, (HN5.out).f.h1, (HN5.out).f.h2, (HN5.out).f.h3, (HN5.out).f.h4, (HN5.out).f.h5, (HN5.out).f.a3⟩ | exact ⟨(HN5.out.step (Below.refl _ _).drew), ((HN5.out.step (Below.refl _ _).drew)).f.h0, ((HN5.out.step (Below.refl _ _).drew)).f.h1, ((HN5.out.step (Below.refl _ _).drew)).f.h2, ((HN5.out.step (Below.refl _ _).drew)).f.h3, ((HN5.out.step (Below.refl _ _).drew)).f.h4, ((HN5.out.step (Below.refl _ _).drew)).f.h5, ((HN5.out.step (Below.refl _ _).drew)).f.a3⟩) (first | (go_at_call 87; first | (with_reducible refine (HLEN1.out _ ?hA).mono ?_; (case hA => first | assumption | exact HAL.out | exact (HAL.out.step (Below.refl _ _).drew) | exact HN5.out | exact (HN5.out.step (Below.refl _ _).drew)); rintro e w5 ⟨rfl, hn5⟩; have HN5 := Lib.hid hn5; clear hn5) | (with_reducible refine (HLEN2.out _ ?hA).mono ?_; (case hA => first | assumption | exact HAL.out | exact (HAL.out.step (Below.refl _ _).drew) | exact HN5.out | exact (HN5.out.step (Below.refl _ _).drew)); rintro e w5 ⟨rfl, hn5⟩; have HN5 := Lib.hid hn5; clear hn5)))
        have HAE := Lib.hid HN5.out
        have h0 := HAE.out.f.h0
        have h1 := HAE.out.f.h1
        have h2 := HAE.out.f.h2
        have h3 := HAE.out.f.h3
        have h4 := HAE.out.f.h4
        have h5 := HAE.out.f.h5
        have a0 := HAE.out.f.a0
        have a1 := HAE.out.f.a1
        have a2 := HAE.out.f.a2
        have a3 := HAE.out.f.a3
        have r0 := HAE.out.f.r0
        have r1 := HAE.out.f.r1
        have r2 := HAE.out.f.r2
        have r3 := HAE.out.f.r3
        have r4 := HAE.out.f.r4
        have r5 := HAE.out.f.r5
        have s0 := HAE.out.f.s0
        have s1 := HAE.out.f.s1
        have s2 := HAE.out.f.s2
        have s3 := HAE.out.f.s3
        have s4 := HAE.out.f.s4
        have o0 := HAE.out.f.o0
        have o1 := HAE.out.f.o1
        have o2 := HAE.out.f.o2
        have o3 := HAE.out.f.o3
        have o4 := HAE.out.f.o4
        have fh0 := HAE.out.f.fh 0
        have fh1 := HAE.out.f.fh 1
        have fh2 := HAE.out.f.fh 2
        have fh3 := HAE.out.f.fh 3
        have fh4 := HAE.out.f.fh 4
        have fh5 := HAE.out.f.fh 5
        have fr0 := HAE.out.f.fr 0
        have fr1 := HAE.out.f.fr 1
        have fr2 := HAE.out.f.fr 2
        have fr3 := HAE.out.f.fr 3
        have fr4 := HAE.out.f.fr 4
        have fr5 := HAE.out.f.fr 5
        have fs0 := HAE.out.f.fs 0
        have fs1 := HAE.out.f.fs 1
        have fs2 := HAE.out.f.fs 2
        have fs3 := HAE.out.f.fs 3
        have fs4 := HAE.out.f.fs 4
        have fo0 := HAE.out.f.fo 0
        have fo1 := HAE.out.f.fo 1
        have fo2 := HAE.out.f.fo 2
        have fo3 := HAE.out.f.fo 3
        have fo4 := HAE.out.f.fo 4
        have v0 := HAE.out.v0
        have v1 := HAE.out.v1
        have q1 := HAE.out.q1
        dsimp only [Ans.of, noData] at a0 a1 a2 a3 o0 o1 o2 o3 o4
        have hcap : n ≤ x.cd := by have := HREP.out.cap; omega
        have hcm := HREP.out.cm
        unfold maxLen at hcm
        go_wp2
        go_region
        all_goals
          go_wp2
          refine bodyPost_ret (v := .tuple #[.agg #[.slice x.A0 H.base.1.length x.c0, .slice x.A1 H.base.2.length x.c1, .slice x.AD n x.cd, .int .i64 (n : Nat), .bool false, .slice none 0 0], .agg #[.int .i64 0, .string ⟨#[]⟩, .int .i64 0, .int .i64 0, .int .i64 (n : Nat)]]) (by simp [results, Try.results62, go_sem, r0, r1, r2, r3, r4, r5, s0, s1, s2, s3, s4]) rfl ?_
          refine ActedPost.of HAE.out ?_ { x with AL := none, cl := 0, ds := x.ds.take n } (by unfold houseV ansV; simp [noData, Nat.min_eq_left hn2]) ?_ HRLT.out
          · ((repeat (with_reducible first | exact Touch.refl _ _ | refine Touch.setC ?_ _ ?_ _ | refine Touch.drawC ?_ _ | refine Touch.drawO ?_)) <;> (dsimp only [ActR]; omega))
          · exact fun W' hT => (HAE.out.repS HSTY.out W' hT).cuts hn2
    · have hlf := leftF_end (k := k) (s := lenH H n - lenH H H.last) H hlt
      have hmn : n = m := by rw [← hinv.out, hlf]; rfl
      have d2 : decide ((n : Int) < (H.deals.length : Int)) = false := decide_eq_false (by omega)
      have d3 : decide (n < H.deals.length) = false := decide_eq_false hlt
      have hge : (H.deals.length : Int) ≤ (n : Int) := by omega
      subst hmn
      clear hlf hinv
      go_wp2
      go_quiet (fail)
      have HAE := Lib.hid (HAL.out.step (below_drewN (Below.refl wr.heap.size wr) nq))
      have h0 := HAE.out.f.h0
      have h1 := HAE.out.f.h1
      have h2 := HAE.out.f.h2
      have h3 := HAE.out.f.h3
      have h4 := HAE.out.f.h4
      have h5 := HAE.out.f.h5
      have a0 := HAE.out.f.a0
      have a1 := HAE.out.f.a1
      have a2 := HAE.out.f.a2
      have a3 := HAE.out.f.a3
      have r0 := HAE.out.f.r0
      have r1 := HAE.out.f.r1
      have r2 := HAE.out.f.r2
      have r3 := HAE.out.f.r3
      have r4 := HAE.out.f.r4
      have r5 := HAE.out.f.r5
      have s0 := HAE.out.f.s0
      have s1 := HAE.out.f.s1
      have s2 := HAE.out.f.s2
      have s3 := HAE.out.f.s3
      have s4 := HAE.out.f.s4
      have o0 := HAE.out.f.o0
      have o1 := HAE.out.f.o1
      have o2 := HAE.out.f.o2
      have o3 := HAE.out.f.o3
      have o4 := HAE.out.f.o4
      have fh0 := HAE.out.f.fh 0
      have fh1 := HAE.out.f.fh 1
      have fh2 := HAE.out.f.fh 2
      have fh3 := HAE.out.f.fh 3
      have fh4 := HAE.out.f.fh 4
      have fh5 := HAE.out.f.fh 5
      have fr0 := HAE.out.f.fr 0
      have fr1 := HAE.out.f.fr 1
      have fr2 := HAE.out.f.fr 2
      have fr3 := HAE.out.f.fr 3
      have fr4 := HAE.out.f.fr 4
      have fr5 := HAE.out.f.fr 5
      have fs0 := HAE.out.f.fs 0
      have fs1 := HAE.out.f.fs 1
      have fs2 := HAE.out.f.fs 2
      have fs3 := HAE.out.f.fs 3
      have fs4 := HAE.out.f.fs 4
      have fo0 := HAE.out.f.fo 0
      have fo1 := HAE.out.f.fo 1
      have fo2 := HAE.out.f.fo 2
      have fo3 := HAE.out.f.fo 3
      have fo4 := HAE.out.f.fo 4
      have v0 := HAE.out.v0
      have v1 := HAE.out.v1
      have q1 := HAE.out.q1
      dsimp only [Ans.of, noData] at a0 a1 a2 a3 o0 o1 o2 o3 o4
      have hcap : n ≤ x.cd := by have := HREP.out.cap; omega
      have hcm := HREP.out.cm
      unfold maxLen at hcm
      go_wp2
      go_region
      all_goals
        go_wp2
        refine bodyPost_ret (v := .tuple #[.agg #[.slice x.A0 H.base.1.length x.c0, .slice x.A1 H.base.2.length x.c1, .slice x.AD n x.cd, .int .i64 (n : Nat), .bool false, .slice none 0 0], .agg #[.int .i64 0, .string ⟨#[]⟩, .int .i64 0, .int .i64 0, .int .i64 (n : Nat)]]) (by simp [results, Try.results62, go_sem, r0, r1, r2, r3, r4, r5, s0, s1, s2, s3, s4]) rfl ?_
        refine ActedPost.of HAE.out ?_ { x with AL := none, cl := 0, ds := x.ds.take n } (by unfold houseV ansV; simp [noData, Nat.min_eq_left hn2]) ?_ HRLT.out
        · ((repeat (with_reducible first | exact Touch.refl _ _ | refine Touch.setC ?_ _ ?_ _ | refine Touch.drawC ?_ _ | refine Touch.drawO ?_)) <;> (dsimp only [ActR]; omega))
        · exact fun W' hT => (HAE.out.repS HSTY.out W' hT).cuts hn2
end Go.Proofs.Ytphbebcbbfbgpab
