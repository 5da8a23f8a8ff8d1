/- volume.Read and saltcellarref.ReadOf. -/
import Derived.Test.YtphbebcbbfbgpabItems
namespace Go.Proofs.Ytphbebcbbfbgpab
open Go Go.RowKit

/-- P3.2: what Read finds -/
noncomputable def readR (ls : List Itm) (bs : List Int) (b : Int) : ByteArray × Int :=
  if goodVB ls bs then (if 0 ≤ b ∧ b < bs.length then (if bs.getD b.toNat 0 < 0 then (⟨#[]⟩, 0) else ((gotX ls (bs.getD b.toNat 0)).data, 0)) else (⟨#[]⟩, 6)) else (⟨#[]⟩, 7)
def ReadPost (ls : List Itm) (bs : List Int) (b : Int) (e : Ending) : Prop := e = .returned (.tuple #[.string (readR ls bs b).1, .int .i64 (readR ls bs b).2])
theorem readPost_of {ls : List Itm} {bs : List Int} {b k : Int} {s : ByteArray} {e : Ending} (h : readR ls bs b = (s, k)) (he : e = .returned (.tuple #[.string s, .int .i64 k])) : ReadPost ls bs b e := by
  rw [ReadPost, h, he]
theorem goodVB_of {ls : List Itm} {bs : List Int} (h : goodVB ls bs = true) : GoodVol ls bs := by simpa [goodVB] using h
theorem read_bad {ls : List Itm} {bs : List Int} (b : Int) (h : goodVB ls bs = false) : readR ls bs b = (⟨#[]⟩, 7) := by rw [readR, h]; rfl
theorem read_none {ls : List Itm} {bs : List Int} {b : Int} (h : goodVB ls bs = true) (hb : ¬ (0 ≤ b ∧ b < bs.length)) : readR ls bs b = (⟨#[]⟩, 6) := by rw [readR, if_pos h, if_neg hb]
theorem read_empty {ls : List Itm} {bs : List Int} {k : Nat} (h : goodVB ls bs = true) (hk : k < bs.length) (hb : bs[k] < 0) : readR ls bs k = (⟨#[]⟩, 0) := by
  rw [readR, if_pos h, if_pos ⟨by omega, by omega⟩, Int.toNat_natCast, List.getD_eq_getElem?_getD, List.getElem?_eq_getElem hk, Option.getD_some, if_pos hb]
theorem read_some {ls : List Itm} {bs : List Int} {k j : Nat} (h : goodVB ls bs = true) (hk : k < bs.length) (hb : ¬ bs[k] < 0) (hj : j < ls.length) (hid : ls[j].id = bs[k]) : readR ls bs k = (ls[j].data, 0) := by
  rw [readR, if_pos h, if_pos ⟨by omega, by omega⟩, Int.toNat_natCast, List.getD_eq_getElem?_getD, List.getElem?_eq_getElem hk, Option.getD_some, if_neg hb]
  have g := got_some (goodVB_of h).good hj hid
  rw [← g.2, gotR, if_pos g.1]

/-- What stands in a block that holds a volume, laid by the call. -/
structure VBoxF (w : World) (B : Nat) (s1 s2 : Value) (W : World) : Prop where
  a0 : W.cell? ⟨B, 0, none⟩ = some s1
  a1 : W.cell? ⟨B, 1, none⟩ = some s2
  sz : B < W.heap.size
  be : Below w.heap.size w W
theorem VBoxF.step {w W W' : World} {B : Nat} {s1 s2 : Value} (h : VBoxF w B s1 s2 W) (hb : Below W.heap.size W W') : VBoxF w B s1 s2 W' where
  a0 := (hb.cell h.sz).trans h.a0
  a1 := (hb.cell h.sz).trans h.a1
  sz := Nat.lt_of_lt_of_le h.sz hb.size
  be := h.be.trans (hb.mono h.be.size)

set_option maxHeartbeats 2000000 in
theorem volRead_any (A B : Option Addr) (n c m d : Nat) (b : Int) (ls : List Itm) (bs : List Int) (w : World) (h : Rep w w.heap.size 3 Itm.cell A n ls) (h' : Rep w w.heap.size 1 intCell B m bs)
    (hn : n ≤ maxLen) (hm : m ≤ maxLen) (hok : ∀ b ∈ bs, i64Ok b) :
    Calls Try.prog 14 #[.agg #[.slice A n c, .slice B m d], .int .i64 b] w fun e w' => ReadPost ls bs b e ∧ Below w.heap.size w w' := by
  have hc : ∀ W, Below w.heap.size w W → Calls Try.prog 37 #[.agg #[.slice A n c, .slice B m d]] W fun e w' => VCheckPost ls bs e ∧ Below W.heap.size W w' :=
    fun W hb => volCheck_any A B n c m d ls bs W ((h.below hb (Nat.le_refl _)).mono hb.size) ((h'.below hb (Nat.le_refl _)).mono hb.size) hn hm hok
  have hg : ∀ (id : Int) W, Below w.heap.size w W → Calls Try.prog 32 #[.slice A n c, .int .i64 id] W fun e w' => GetPost ls id e ∧ Below W.heap.size W w' :=
    fun id W hb => get_any A n c id ls W ((h.below hb (Nat.le_refl _)).mono hb.size) hn
  have hba : VBoxF w w.heap.size (.slice A n c) (.slice B m d) (w.alloc (.cells #[.slice A n c, .slice B m d] 30)) := by
    refine ⟨?_, ?_, by simp, (Below.refl _ _).alloc (Nat.le_refl _) _⟩
    all_goals simp [go_sem]
  have HBA := Lib.hid hba
  have HC := Lib.hid hc
  have HG := Lib.hid hg
  have H := Lib.hid h
  have H' := Lib.hid h'
  have hml := h'.1
  clear hba hc hg h h' hok
  cases hgd : goodVB ls bs with
  | false =>
    have E1 := Lib.hid (read_bad b hgd)
    have E2 := Lib.hid (show goodVN ls bs = 7 by rw [goodVN_eq, hgd]; rfl)
    clear hgd hml
    go_enter Try.func14, Try.ntmps14
    go_wp2_with fail
    refine (HC.out _ HBA.out.be).mono ?_
    rintro e w1 ⟨he, hb1⟩
    rw [VCheckPost, E2.out] at he
    subst he
    have HB1 := Lib.hid (HBA.out.step hb1).be
    clear hb1
    go_wp2
    go_ret2
    exact ⟨readPost_of E1.out rfl, HB1.out⟩
  | true =>
    have hm32 : m ≤ 32 := by have := (goodVB_of hgd).hi; omega
    have E2 := Lib.hid (show goodVN ls bs = 0 by rw [goodVN_eq, hgd]; rfl)
    by_cases hb : 0 ≤ b ∧ b < bs.length
    · obtain ⟨k, rfl⟩ : ∃ k : Nat, b = k := ⟨b.toNat, by omega⟩
      have hk : k < bs.length := by omega
      have hkm : k < m := by omega
      have d1 : decide ((k : Int) < 0) = false := decide_eq_false (by omega)
      have d2 : decide ((k : Int) ≥ (m : Int)) = false := by simp; omega
      obtain ⟨y, hy⟩ : ∃ y, bs[k] = y := ⟨_, rfl⟩
      have HY := Lib.hid hy
      by_cases hneg : y < 0
      · have E1 := Lib.hid (read_empty hgd hk (by rw [hy]; exact hneg))
        have d3 := decide_eq_true hneg
        clear hgd hml hb hy
        go_enter Try.func14, Try.ntmps14
        go_wp2_with fail
        refine (HC.out _ HBA.out.be).mono ?_
        rintro e w1 ⟨he, hb1⟩
        rw [VCheckPost, E2.out] at he
        subst he
        obtain ⟨a0, a1, _, hbe⟩ := HBA.out.step hb1
        have HB1 := Lib.hid hbe
        obtain ⟨g, off, rfl, hgb, c0⟩ := ints_at (k := k) (H'.out.below hbe (Nat.le_refl _)) hkm
        rw [HY.out] at c0
        clear hb1 hbe hgb
        go_wp2
        go_ret2
        exact ⟨readPost_of E1.out rfl, HB1.out⟩
      · obtain ⟨x, hx, hxid⟩ := (goodVB_of hgd).ids y (by rw [← hy]; exact List.getElem_mem hk) (by omega)
        obtain ⟨j, hj, rfl⟩ := List.getElem_of_mem hx
        have hgs := got_some (goodVB_of hgd).good hj hxid
        have E1 := Lib.hid (read_some hgd hk (by rw [hy]; exact hneg) hj (by rw [hy]; exact hxid))
        obtain ⟨x, hx⟩ : ∃ x, ls[j] = x := ⟨_, rfl⟩
        rw [hx] at hgs
        have HGS := Lib.hid hgs
        have HX := Lib.hid hx
        have d3 := decide_eq_false hneg
        clear hgd hml hb hy hx hgs hxid
        go_enter Try.func14, Try.ntmps14
        go_wp2_with fail
        refine (HC.out _ HBA.out.be).mono ?_
        rintro e w1 ⟨he, hb1⟩
        rw [VCheckPost, E2.out] at he
        subst he
        obtain ⟨a0, a1, hs0, hbe⟩ := HBA.out.step hb1
        have HB1 := Lib.hid hbe
        obtain ⟨g, off, rfl, hgb, c0⟩ := ints_at (k := k) (H'.out.below hbe (Nat.le_refl _)) hkm
        rw [HY.out] at c0
        have hgb1 : g < w1.heap.size := by have := hbe.size; omega
        clear hb1 hbe hgb
        have HB1d := Lib.hid HB1.out.drew
        have a0d : w1.drew.cell? ⟨w.heap.size, 0, none⟩ = some (.slice A n c) := a0
        have a1d : w1.drew.cell? ⟨w.heap.size, 1, none⟩ = some (.slice (some ⟨g, off, none⟩) m d) := a1
        have c0d : w1.drew.cell? ⟨g, off + k, none⟩ = some (.int .i64 y) := c0
        go_wp2
        have a0e : (w1.alloc (.cells #[.int .i64 0, .string ⟨#[]⟩, .int .i64 0] 61)).drew.cell? ⟨w.heap.size, 0, none⟩ = some (.slice A n c) := (World.cell?_alloc_lt w1 _ (a := ⟨w.heap.size, 0, none⟩) hs0).trans a0
        have a1e : (w1.alloc (.cells #[.int .i64 0, .string ⟨#[]⟩, .int .i64 0] 61)).drew.cell? ⟨w.heap.size, 1, none⟩ = some (.slice (some ⟨g, off, none⟩) m d) := (World.cell?_alloc_lt w1 _ (a := ⟨w.heap.size, 1, none⟩) hs0).trans a1
        have c0e : (w1.alloc (.cells #[.int .i64 0, .string ⟨#[]⟩, .int .i64 0] 61)).drew.cell? ⟨g, off + k, none⟩ = some (.int .i64 y) := (World.cell?_alloc_lt w1 _ (a := ⟨g, off + k, none⟩) hgb1).trans c0
        have hbx : BoxF w w1.heap.size zItm (w1.alloc (.cells #[.int .i64 0, .string ⟨#[]⟩, .int .i64 0] 61)).drew := by
          refine ⟨?_, ?_, ?_, ?_, ?_, ?_, by simp, HB1.out.size, (HB1.out.alloc HB1.out.size _).drew⟩
          all_goals simp [go_sem, zItm]
        have HBX := Lib.hid hbx
        clear hbx
        go_region_with (first
          | (go_at_call 32; (with_reducible refine (HG.out _ _ HB1d.out).mono ?_); rintro e w2 ⟨he, hb2⟩; rw [GetPost, HGS.out.1, HGS.out.2] at he; subst he; have HB2 := Lib.hid (HB1d.out.trans (hb2.mono HB1d.out.size)))
          | (go_at_call 32; (with_reducible refine (HG.out _ _ HBX.out.be).mono ?_); rintro e w2 ⟨he, hb2⟩; rw [GetPost, HGS.out.1, HGS.out.2] at he; subst he; obtain ⟨p0, p1, p2, z0, z1, z2, hsz, hlo, hbe⟩ := HBX.out.step hb2; have HB2 := Lib.hid hbe))
        all_goals
          go_wp2
          go_ret2
          first
          | exact ⟨readPost_of (by rw [E1.out, HX.out]) rfl, HB2.out.alloc HB2.out.size _⟩
          | exact ⟨readPost_of (by rw [E1.out, HX.out]) rfl, below_set3 HB2.out _ HB1.out.size _ _ _⟩
    · have E1 := Lib.hid (read_none hgd hb)
      by_cases hlt : b < 0
      · have d1 := decide_eq_true hlt
        clear hgd hml hb
        go_enter Try.func14, Try.ntmps14
        go_wp2_with fail
        refine (HC.out _ HBA.out.be).mono ?_
        rintro e w1 ⟨he, hb1⟩
        rw [VCheckPost, E2.out] at he
        subst he
        obtain ⟨a0, a1, _, hbe⟩ := HBA.out.step hb1
        have HB1 := Lib.hid hbe
        clear hb1 hbe
        go_wp2
        go_ret2
        exact ⟨readPost_of E1.out rfl, HB1.out⟩
      · have d1 := decide_eq_false hlt
        have d2 : decide (b ≥ (m : Int)) = true := by simp; omega
        clear hgd hml hb
        go_enter Try.func14, Try.ntmps14
        go_wp2_with fail
        refine (HC.out _ HBA.out.be).mono ?_
        rintro e w1 ⟨he, hb1⟩
        rw [VCheckPost, E2.out] at he
        subst he
        obtain ⟨a0, a1, _, hbe⟩ := HBA.out.step hb1
        have HB1 := Lib.hid hbe
        clear hb1 hbe
        go_wp2
        go_ret2
        exact ⟨readPost_of E1.out rfl, HB1.out⟩
end Go.Proofs.Ytphbebcbbfbgpab
