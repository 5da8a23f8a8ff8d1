/- The law VolumeApplies returns true for every volume and all writes. -/
import Derived.Test.YtphbebcbbfbgpabApplied
import Derived.Test.YtphbebcbbfbgpabSame
import Derived.Test.YtphbebcbbfbgpabLawRepoKeeps
namespace Go.Proofs.Ytphbebcbbfbgpab
open Go Go.RowKit

/-- What stands in a block that holds a volume, in any world of a call. -/
structure VB3 (B : Nat) (s1 s2 : Value) (W : World) : Prop where
  a0 : W.cell? ⟨B, 0, none⟩ = some s1
  a1 : W.cell? ⟨B, 1, none⟩ = some s2
  sz : B < W.heap.size
theorem VB3.step {W W' : World} {B : Nat} {s1 s2 : Value} (h : VB3 B s1 s2 W) (hb : Below W.heap.size W W') : VB3 B s1 s2 W' where
  a0 := (hb.cell h.sz).trans h.a0
  a1 := (hb.cell h.sz).trans h.a1
  sz := Nat.lt_of_lt_of_le h.sz hb.size
theorem VB3.new (W : World) (s1 s2 : Value) (T : TypeId) : VB3 W.heap.size s1 s2 (W.alloc (.cells #[s1, s2] T)) := by
  refine ⟨?_, ?_, by simp⟩
  all_goals simp [go_sem]

theorem keepAll_len : ∀ (ws : List Wrt) (ls : List Itm) (bs : List Int), ls.length ≤ 25 → bs.length ≤ 32 → (keepAll ls bs ws).1.length ≤ 25 ∧ (keepAll ls bs ws).2.1.length ≤ 32
  | [], ls, bs, h1, h2 => ⟨h1, h2⟩
  | w :: r, ls, bs, h1, h2 => by
    rw [keepAll]
    split
    · exact keepAll_len r ls bs h1 h2
    · split
      · refine keepAll_len r _ _ ?_ (by rw [List.length_set]; exact h2)
        refine keptR_len ls w.data ?_
        cases hg : goodB ls with
        | false => exact .inr rfl
        | true => exact .inl (good_of_B hg).1
      · exact ⟨by simp, by simp⟩
theorem dropAll_len {ws : List Wrt} : ∀ {s : List Itm × List Int}, s.1.length ≤ 25 → s.2.length ≤ 32 → (ws.foldl dropStep s).1.length ≤ 25 ∧ (ws.foldl dropStep s).2.length ≤ 32 := by
  induction ws with
  | nil => intro s h1 h2; exact ⟨h1, h2⟩
  | cons w r ih =>
    intro s h1 h2
    rw [List.foldl_cons]
    refine ih ?_ (by rw [dropStep_len]; exact h2)
    unfold dropStep
    split
    · have h3 : ∀ id, (dropL s.1 id).length ≤ (upRefs s.1 id (-1)).length := fun id => List.length_filter_le _ _
      have h4 : ∀ id, (upRefs s.1 id (-1)).length = s.1.length := fun id => by simp [upRefs]
      have := h3 (s.2.getD w.block.toNat 0)
      have := h4 (s.2.getD w.block.toNat 0)
      simp only
      omega
    · exact h1
theorem applied_len (ls : List Itm) (bs : List Int) (ws : List Wrt) : (appliedR ls bs ws).1.length ≤ 25 ∧ (appliedR ls bs ws).2.1.length ≤ 32 := by
  unfold appliedR
  split
  · rename_i hg
    have g := goodVB_of hg
    split
    · have h1 := g.good.1
      have := dropAll_len (ws := ws) (s := (ls, bs)) (by simp only; omega) g.hi
      exact keepAll_len ws _ _ this.1 this.2
    · exact ⟨by simp, by simp⟩
  · exact ⟨by simp, by simp⟩

set_option maxRecDepth 20000 in
set_option maxHeartbeats 4000000 in
theorem lawVolumeApplies (A B C : Option Addr) (n c m d k c' : Nat) (ls : List Itm) (bs : List Int) (ws : List Wrt) (w : World) (h : Rep w w.heap.size 3 Itm.cell A n ls) (h' : Rep w w.heap.size 1 intCell B m bs) (hw : Rep w w.heap.size 2 Wrt.cell C k ws)
    (hA : A = none → n = 0 ∧ c = 0) (hB : B = none → m = 0 ∧ d = 0) (hn : n * 32 ≤ 140737488355328) (hm : m * 8 ≤ 140737488355328) (hk : k ≤ maxLen) (hok : ∀ b ∈ bs, i64Ok b) :
    Calls Try.prog 9 #[.agg #[.slice A n c, .slice B m d], .slice C k c'] w fun e w' => e = .returned (.bool true) ∧ Below w.heap.size w w' := by
  have hnx : n ≤ maxLen := by unfold maxLen; omega
  have hmx : m ≤ maxLen := by unfold maxLen; omega
  obtain ⟨r, hr⟩ : ∃ r, appliedR ls bs ws = r := ⟨_, rfl⟩
  have hrl := applied_len ls bs ws
  rw [hr] at hrl
  have hcp : ∀ W, Below w.heap.size w W → Calls Try.prog 25 #[.agg #[.slice A n c, .slice B m d]] W (VolPost W n m ls bs) :=
    fun W hb => refCopy_any A B n c m d ls bs W ((h.below hb (Nat.le_refl _)).mono hb.size) ((h'.below hb (Nat.le_refl _)).mono hb.size) hA hB hn hm
  have hap : ∀ (A1 B1 : Option Addr) (c1 d1 : Nat) (W : World), Below w.heap.size w W → Rep W W.heap.size 3 Itm.cell A1 n ls → Rep W W.heap.size 1 intCell B1 m bs → (A1 = none → n = 0 ∧ c1 = 0) → (B1 = none → m = 0 ∧ d1 = 0) →
      Calls Try.prog 26 #[.agg #[.slice A1 n c1, .slice B1 m d1], .slice C k c'] W (VolErrPost W r) :=
    fun A1 B1 c1 d1 W hb h1 h2 h3 h4 => by rw [← hr]; exact apply_any A1 B1 C n c1 m d1 k c' ls bs ws W h1 h2 ((hw.below hb (Nat.le_refl _)).mono hb.size) h3 h4 hnx hmx hk hok
  have har : ∀ W, Below w.heap.size w W → Calls Try.prog 27 #[.agg #[.slice A n c, .slice B m d], .slice C k c'] W (VolErrPost W r) :=
    fun W hb => by rw [← hr]; exact applied_any A B C n c m d k c' ls bs ws W ((h.below hb (Nat.le_refl _)).mono hb.size) ((h'.below hb (Nat.le_refl _)).mono hb.size) ((hw.below hb (Nat.le_refl _)).mono hb.size) hA hB hnx hmx hk
  have H := Lib.hid h
  have H' := Lib.hid h'
  have HCP := Lib.hid hcp
  have HAP := Lib.hid hap
  have HAR := Lib.hid har
  have HL := Lib.hid h.1
  have HL' := Lib.hid h'.1
  clear h h' hw hcp hap har hok hA hB hr
  obtain ⟨us, cs, e⟩ := r
  dsimp only at hrl
  obtain ⟨u, hu⟩ : ∃ u, us.length = u := ⟨_, rfl⟩
  obtain ⟨v, hv⟩ : ∃ v, cs.length = v := ⟨_, rfl⟩
  rw [hu, hv] at hrl
  obtain ⟨hul, hvl⟩ := hrl
  have HU := Lib.hid hu
  have HV := Lib.hid hv
  clear hu hv
  have HX := Lib.hid (VB3.new w (.slice A n c) (.slice B m d) 30)
  have HB0 := Lib.hid ((Below.refl w.heap.size w).alloc (Nat.le_refl _) (.cells #[.slice A n c, .slice B m d] 30))
  go_enter Try.func9, Try.ntmps9
  go_wp2_with fail
  refine (HCP.out _ HB0.out).mono ?_
  rintro _ w1 ⟨A1, c1, B1, d1, rfl, ho1, ho2, hb1, _, _, _, _, hn1, hm1⟩
  have hx1 := HX.out.step hb1
  have hB1 := HB0.out.trans (hb1.mono HB0.out.size)
  have HX1 := Lib.hid (hx1.step ((Below.refl _ _).alloc (Nat.le_refl _) (.cells #[.slice A1 n c1, .slice B1 m d1] 30)))
  have HK1 := Lib.hid (VB3.new w1 (.slice A1 n c1) (.slice B1 m d1) 30)
  have HB1 := Lib.hid (hB1.alloc hB1.size (.cells #[.slice A1 n c1, .slice B1 m d1] 30))
  have HR1 := Lib.hid (Rep.of_own HL.out (ho1.alloc (.cells #[.slice A1 n c1, .slice B1 m d1] 30)) (Nat.le_refl _))
  have HR1' := Lib.hid (Rep.of_own HL'.out (ho2.alloc (.cells #[.slice A1 n c1, .slice B1 m d1] 30)) (Nat.le_refl _))
  have k0 := HK1.out.a0
  have k1 := HK1.out.a1
  clear ho1 ho2 hb1 hx1 hB1
  go_wp2_with fail
  refine (HAP.out A1 B1 c1 d1 _ HB1.out HR1.out HR1'.out hn1 hm1).mono ?_
  rintro _ w2 ⟨A2, c2, B2, d2, rfl, hp1, hp2, hb2⟩
  dsimp only at hp1 hp2 ⊢
  rw [HU.out] at hp1 ⊢
  rw [HV.out] at hp2 ⊢
  have al := (Below.refl w2.heap.size w2).alloc (Nat.le_refl _) (.cells #[.slice A2 u c2, .slice B2 v d2] 30)
  have HX2 := Lib.hid ((HX1.out.step hb2).step al)
  have HK2 := Lib.hid ((HK1.out.step hb2).step al)
  have HM2 := Lib.hid (VB3.new w2 (.slice A2 u c2) (.slice B2 v d2) 30)
  have hB2 := HB1.out.trans (hb2.mono HB1.out.size)
  have HB2 := Lib.hid (hB2.alloc hB2.size (.cells #[.slice A2 u c2, .slice B2 v d2] 30))
  have HR2 := Lib.hid (Rep.of_own HU.out.symm (hp1.alloc (.cells #[.slice A2 u c2, .slice B2 v d2] 30)) (Nat.le_refl _))
  have HR2' := Lib.hid (Rep.of_own HV.out.symm (hp2.alloc (.cells #[.slice A2 u c2, .slice B2 v d2] 30)) (Nat.le_refl _))
  have HQ1 := Lib.hid (((HR1.out.below hb2 (Nat.le_refl _)).mono hb2.size).below al (Nat.le_refl _))
  have HQ1' := Lib.hid (((HR1'.out.below hb2 (Nat.le_refl _)).mono hb2.size).below al (Nat.le_refl _))
  have x0 := HX2.out.a0
  have x1 := HX2.out.a1
  clear hp1 hp2 hb2 al hB2 k0 k1
  go_wp2_with fail
  refine (HAR.out _ HB2.out).mono ?_
  rintro _ w3 ⟨A3, c3, B3, d3, rfl, hp1, hp2, hb3⟩
  dsimp only at hp1 hp2 ⊢
  rw [HU.out] at hp1 ⊢
  rw [HV.out] at hp2 ⊢
  have al := (Below.refl w3.heap.size w3).alloc (Nat.le_refl _) (.cells #[.slice A3 u c3, .slice B3 v d3] 30)
  have HX3 := Lib.hid ((HX2.out.step hb3).step al)
  have HK3 := Lib.hid ((HK2.out.step hb3).step al)
  have HM3 := Lib.hid ((HM2.out.step hb3).step al)
  have HZ3 := Lib.hid (VB3.new w3 (.slice A3 u c3) (.slice B3 v d3) 30)
  have hB3 := HB2.out.trans (hb3.mono HB2.out.size)
  have HB3 := Lib.hid (hB3.alloc hB3.size (.cells #[.slice A3 u c3, .slice B3 v d3] 30))
  have r3 := (Rep.of_own HU.out.symm (hp1.alloc (.cells #[.slice A3 u c3, .slice B3 v d3] 30)) (Nat.le_refl _))
  have r3' := (Rep.of_own HV.out.symm (hp2.alloc (.cells #[.slice A3 u c3, .slice B3 v d3] 30)) (Nat.le_refl _))
  have r2 := (((HR2.out.below hb3 (Nat.le_refl _)).mono hb3.size).below al (Nat.le_refl _)).mono al.size
  have r2' := (((HR2'.out.below hb3 (Nat.le_refl _)).mono hb3.size).below al (Nat.le_refl _)).mono al.size
  have HS := Lib.hid (sameVolume_yes A2 A3 B2 B3 u c2 c3 v d2 d3 us cs _ r2 r3 r2' r3' (by unfold maxLen; omega) (by unfold maxLen; omega))
  have HQ2 := Lib.hid ((((HQ1.out.mono (by simp)).below hb3 (Nat.le_refl _)).mono hb3.size).below al (Nat.le_refl _))
  have HQ2' := Lib.hid ((((HQ1'.out.mono (by simp)).below hb3 (Nat.le_refl _)).mono hb3.size).below al (Nat.le_refl _))
  have m0 := HM3.out.a0
  have m1 := HM3.out.a1
  have z0 := HZ3.out.a0
  have z1 := HZ3.out.a1
  have dee : (e == e) = true := by simp
  clear hp1 hp2 hb3 al hB3 x0 x1 r3 r3' r2 r2'
  go_wp2_with fail
  refine HS.out.mono ?_
  rintro _ w4 ⟨rfl, hb4⟩
  have HB4 := Lib.hid (HB3.out.trans (hb4.mono HB3.out.size))
  have y0 := (HX3.out.step hb4).a0
  have y1 := (HX3.out.step hb4).a1
  have q0 := (HK3.out.step hb4).a0
  have q1 := (HK3.out.step hb4).a1
  have s1 := ((HQ2.out.mono (by simp)).below hb4 (Nat.le_refl _)).mono hb4.size
  have s1' := ((HQ2'.out.mono (by simp)).below hb4 (Nat.le_refl _)).mono hb4.size
  have s0 := (H.out.below HB4.out (Nat.le_refl _)).mono HB4.out.size
  have s0' := (H'.out.below HB4.out (Nat.le_refl _)).mono HB4.out.size
  have HS2 := Lib.hid (sameVolume_yes A1 A B1 B n c1 c m d1 d ls bs _ s1 s0 s1' s0' hnx hmx)
  clear hb4 s1 s1' s0 s0' m0 m1 z0 z1
  go_wp2_with fail
  refine HS2.out.mono ?_
  rintro _ w5 ⟨rfl, hb5⟩
  have HB5 := Lib.hid (HB4.out.trans (hb5.mono HB4.out.size))
  clear hb5
  go_wp2
  go_ret
  exact ⟨rfl, HB5.out⟩
end Go.Proofs.Ytphbebcbbfbgpab
