/- repo.at, repo.Get, saltcellarref.GotOf. -/
import Derived.Test.YtphbebcbbfbgpabSearch
namespace Go.Proofs.Ytphbebcbbfbgpab
open Go Go.RowKit

def zItm : Itm := ⟨0, ⟨#[]⟩, 0⟩
/-- P2.2: what Get finds -/
def gotX (ls : List Itm) (id : Int) : Itm := (ls.find? (fun x => x.id == id)).getD zItm
noncomputable def gotK (ls : List Itm) (id : Int) : Int := if goodB ls then (if ls.any (fun x => x.id == id) then 0 else 6) else 7
noncomputable def gotR (ls : List Itm) (id : Int) : Itm := if gotK ls id = 0 then gotX ls id else zItm
def GetPost (ls : List Itm) (id : Int) (e : Ending) : Prop := e = .returned (.tuple #[.agg #[.int .i64 (gotR ls id).id, .string (gotR ls id).data, .int .i64 (gotR ls id).refs], .int .i64 (gotK ls id)])

theorem got_bad {ls : List Itm} (id : Int) (h : goodB ls = false) : gotK ls id = 7 ∧ gotR ls id = zItm := by
  have : gotK ls id = 7 := by rw [gotK, h]; rfl
  exact ⟨this, by rw [gotR, this]; rfl⟩
theorem got_none {ls : List Itm} {id : Int} (h : goodB ls = true) (hno : ∀ x ∈ ls, x.id ≠ id) : gotK ls id = 6 ∧ gotR ls id = zItm := by
  have : gotK ls id = 6 := by
    rw [gotK, h, if_pos rfl, if_neg]
    rw [List.any_eq_true]
    rintro ⟨x, hx, hx2⟩
    exact hno x hx (by simpa using hx2)
  exact ⟨this, by rw [gotR, this]; rfl⟩
theorem got_some {ls : List Itm} {id : Int} {k : Nat} (h : Good ls) (hk : k < ls.length) (hid : ls[k].id = id) : gotK ls id = 0 ∧ gotR ls id = ls[k] := by
  have h0 : gotK ls id = 0 := by
    rw [gotK, goodB_true h, if_pos rfl, if_pos]
    rw [List.any_eq_true]
    exact ⟨_, List.getElem_mem hk, by simp [hid]⟩
  refine ⟨h0, ?_⟩
  rw [gotR, if_pos h0, gotX, List.find?_eq_some_iff_getElem.2 ⟨by simp [hid], k, hk, rfl, fun j hj => by simp; have := h.lt hj hk; omega⟩]
  rfl
theorem good_of_B {ls : List Itm} (h : goodB ls = true) : Good ls := by simpa [goodB] using h
theorem id_cases (ls : List Itm) (id : Int) : (∀ x ∈ ls, x.id ≠ id) ∨ ∃ k, ∃ hk : k < ls.length, ls[k].id = id ∧ ∀ j (hj : j < k), (ls[j]'(by omega)).id ≠ id := by
  by_cases h : ∃ x ∈ ls, x.id = id
  · exact .inr (firstAt h)
  · exact .inl fun x hx e => h ⟨x, hx, e⟩

/-- What stands in a block that holds an item, laid by the call. -/
structure BoxF (w : World) (B : Nat) (x : Itm) (W : World) : Prop where
  c0 : W.cell? ⟨B, 0, none⟩ = some (.int .i64 x.id)
  c1 : W.cell? ⟨B, 1, none⟩ = some (.string x.data)
  c2 : W.cell? ⟨B, 2, none⟩ = some (.int .i64 x.refs)
  z0 : W.frozen? ⟨B, 0, none⟩ = false
  z1 : W.frozen? ⟨B, 1, none⟩ = false
  z2 : W.frozen? ⟨B, 2, none⟩ = false
  sz : B < W.heap.size
  lo : w.heap.size ≤ B
  be : Below w.heap.size w W
theorem BoxF.step {w W W' : World} {B : Nat} {x : Itm} (h : BoxF w B x W) (hb : Below W.heap.size W W') : BoxF w B x W' where
  c0 := (hb.cell h.sz).trans h.c0
  c1 := (hb.cell h.sz).trans h.c1
  c2 := (hb.cell h.sz).trans h.c2
  z0 := (hb.frozen h.sz).trans h.z0
  z1 := (hb.frozen h.sz).trans h.z1
  z2 := (hb.frozen h.sz).trans h.z2
  sz := Nat.lt_of_lt_of_le h.sz hb.size
  lo := h.lo
  be := h.be.trans (hb.mono h.be.size)

theorem below_set3 {B0 : Nat} {w w1 : World} (h : Below B0 w w1) (B : Nat) (hB : B0 ≤ B) (u v x : Value) : Below B0 w (((w1.setCell ⟨B, 0, none⟩ u).setCell ⟨B, 1, none⟩ v).setCell ⟨B, 2, none⟩ x) :=
  ((h.setCell (p := ⟨B, 0, none⟩) hB u).setCell (p := ⟨B, 1, none⟩) hB v).setCell (p := ⟨B, 2, none⟩) hB x

set_option maxHeartbeats 2000000 in
theorem get_any (A : Option Addr) (n c : Nat) (id : Int) (ls : List Itm) (w : World) (h : Rep w w.heap.size 3 Itm.cell A n ls) (hn : n ≤ maxLen) :
    Calls Try.prog 32 #[.slice A n c, .int .i64 id] w fun e w' => GetPost ls id e ∧ Below w.heap.size w w' := by
  have hc : ∀ W, Below w.heap.size w W → Calls Try.prog 43 #[.slice A n c] W fun e w' => CheckPost ls e ∧ Below W.heap.size W w' :=
    fun W hb => check_any A n c ls W ((h.below hb (Nat.le_refl _)).mono hb.size) hn
  have hf0 : BoxF w w.heap.size zItm (w.alloc (.cells #[.int .i64 0, .string ⟨#[]⟩, .int .i64 0] 61)) := by
    refine ⟨?_, ?_, ?_, ?_, ?_, ?_, by simp, Nat.le_refl _, (Below.refl _ _).alloc (Nat.le_refl _) _⟩
    all_goals simp [go_sem, zItm]
  have HC := Lib.hid hc
  have HF := Lib.hid hf0
  have H := Lib.hid h
  clear hc hf0
  cases hg : goodB ls with
  | false =>
    have E1 := Lib.hid (show goodN ls = 7 by rw [goodN_eq, hg]; rfl)
    have HG := Lib.hid (got_bad id hg)
    clear hg h
    go_enter Try.func32, Try.ntmps32
    go_wp2_with fail
    refine (HC.out _ HF.out.be).mono ?_
    rintro e w1 ⟨he, hb1⟩
    rw [CheckPost, E1.out] at he
    subst he
    obtain ⟨c0, c1, c2, z0, z1, z2, hsz, _, hbe⟩ := HF.out.step hb1
    have HB := Lib.hid hbe
    clear hb1 hbe
    go_wp2
    refine bodyPost_ret (v := .tuple #[.agg #[.int .i64 0, .string ⟨#[]⟩, .int .i64 0], .int .i64 7]) (by simp [results, Try.results32, go_sem, c0, c1, c2]) rfl ?_
    exact ⟨by rw [GetPost, HG.out.1, HG.out.2]; rfl, below_set3 HB.out _ (Nat.le_refl _) _ _ _⟩
  | true =>
    have hG := good_of_B hg
    have h24 : n ≤ 24 := by have := h.1; have := hG.1; omega
    have hs : ∀ W, Below w.heap.size w W → Calls Try.prog 64 #[.slice A n c, .int .i64 id, .func (.func 65) #[] #[]] W fun e w' => SearchPost ls (cmpG id) e ∧ Below W.heap.size W w' :=
      fun W hb => search_any 65 (cmpG id) A n c id ls W ((h.below hb (Nat.le_refl _)).mono hb.size) h24 (enters_of Try.func65 rfl rfl) (fun x _ W' _ => get1_any x id W') (fun a b hab hb hlt => by
        have := (cmpG_says id (ls[b]'hb)).1.1 hlt
        exact (cmpG_says id _).1.2 (by have := hG.le hab hb; omega))
    have HS := Lib.hid hs
    have E1 := Lib.hid (show goodN ls = 0 by rw [goodN_eq, hg]; rfl)
    have HGOOD := Lib.hid hG
    rcases id_cases ls id with hno | ⟨k, hk, hid, _⟩
    · have HG := Lib.hid (got_none hg hno)
      have HNO := Lib.hid hno
      clear hg hG hno hs h
      go_enter Try.func32, Try.ntmps32
      go_wp2_with fail
      refine (HC.out _ HF.out.be).mono ?_
      rintro e w1 ⟨he, hb1⟩
      rw [CheckPost, E1.out] at he
      subst he
      have HF1 := Lib.hid (HF.out.step hb1)
      clear hb1
      go_wp2_with fail
      refine (HS.out _ HF1.out.be).mono ?_
      rintro e w2 ⟨he, hb2⟩
      obtain ⟨q, hq, rfl⟩ := searchPost_none he (fun x _ => cmpG_says id x) HNO.out
      obtain ⟨c0, c1, c2, z0, z1, z2, hsz, _, hbe⟩ := HF1.out.step hb2
      have HB := Lib.hid hbe
      clear hb2 hbe he
      go_wp2
      refine bodyPost_ret (v := .tuple #[.agg #[.int .i64 0, .string ⟨#[]⟩, .int .i64 0], .int .i64 6]) (by simp [results, Try.results32, go_sem, c0, c1, c2]) rfl ?_
      exact ⟨by rw [GetPost, HG.out.1, HG.out.2]; rfl, below_set3 HB.out _ (Nat.le_refl _) _ _ _⟩
    · have hg2 := got_some hG hk hid
      obtain ⟨x, hx⟩ : ∃ x, ls[k] = x := ⟨_, rfl⟩
      rw [hx] at hg2
      have HG := Lib.hid hg2
      have HX := Lib.hid hx
      have HID := Lib.hid hid
      have hkn : k < n := by have := h.1; omega
      clear hg hG hs h hg2 hx hid
      go_enter Try.func32, Try.ntmps32
      go_wp2_with fail
      refine (HC.out _ HF.out.be).mono ?_
      rintro e w1 ⟨he, hb1⟩
      rw [CheckPost, E1.out] at he
      subst he
      have HF1 := Lib.hid (HF.out.step hb1)
      clear hb1
      go_wp2_with fail
      refine (HS.out _ HF1.out.be).mono ?_
      rintro e w2 ⟨he, hb2⟩
      obtain rfl := searchPost_at he (fun x _ => cmpG_says id x) HGOOD.out hk HID.out
      obtain ⟨c0, c1, c2, z0, z1, z2, hsz, _, hbe⟩ := HF1.out.step hb2
      obtain ⟨b, off, rfl, hbs, x0, x1, x2⟩ := items_at (k := k) (H.out.below hbe (Nat.le_refl _)) hkn
      rw [HX.out] at x0 x1 x2
      have HB := Lib.hid hbe
      clear hb2 hbe he
      go_wp2
      refine bodyPost_ret (v := .tuple #[.agg #[.int .i64 x.id, .string x.data, .int .i64 x.refs], .int .i64 0]) (by simp [results, Try.results32, go_sem, c0, c1, c2]) rfl ?_
      exact ⟨by rw [GetPost, HG.out.1, HG.out.2], below_set3 HB.out _ (Nat.le_refl _) _ _ _⟩

set_option maxHeartbeats 2000000 in
theorem gotOf_any (A : Option Addr) (n c : Nat) (id : Int) (ls : List Itm) (w : World) (h : Rep w w.heap.size 3 Itm.cell A n ls) (hn : n ≤ maxLen) :
    Calls Try.prog 36 #[.slice A n c, .int .i64 id] w fun e w' => GetPost ls id e ∧ Below w.heap.size w w' := by
  have hc : ∀ W, Below w.heap.size w W → Calls Try.prog 47 #[.slice A n c] W fun e w' => MayPost ls e ∧ Below W.heap.size W w' :=
    fun W hb => itemsMay_any A n c ls W ((h.below hb (Nat.le_refl _)).mono hb.size) hn
  have hf0 : BoxF w w.heap.size zItm (w.alloc (.cells #[.int .i64 0, .string ⟨#[]⟩, .int .i64 0] 61)) := by
    refine ⟨?_, ?_, ?_, ?_, ?_, ?_, by simp, Nat.le_refl _, (Below.refl _ _).alloc (Nat.le_refl _) _⟩
    all_goals simp [go_sem, zItm]
  have HC := Lib.hid hc
  have HF := Lib.hid hf0
  have H := Lib.hid h
  clear hc hf0
  cases hg : goodB ls with
  | false =>
    have E1 := Lib.hid hg
    have HG := Lib.hid (got_bad id hg)
    clear hg h
    go_enter Try.func36, Try.ntmps36
    go_wp2_with fail
    refine (HC.out _ HF.out.be).mono ?_
    rintro e w1 ⟨he, hb1⟩
    rw [MayPost, E1.out] at he
    subst he
    obtain ⟨c0, c1, c2, z0, z1, z2, hsz, _, hbe⟩ := HF.out.step hb1
    have HB := Lib.hid hbe
    clear hb1 hbe
    go_wp2
    refine bodyPost_ret (v := .tuple #[.agg #[.int .i64 0, .string ⟨#[]⟩, .int .i64 0], .int .i64 7]) (by simp [results, Try.results36, go_sem, c0, c1, c2]) rfl ?_
    exact ⟨by rw [GetPost, HG.out.1, HG.out.2]; rfl, below_set3 HB.out _ (Nat.le_refl _) _ _ _⟩
  | true =>
    have hG := good_of_B hg
    have E1 := Lib.hid hg
    rcases id_cases ls id with hno | ⟨k, hk, hid, hbf⟩
    · have HG := Lib.hid (got_none hg hno)
      have hs : ∀ W, Below w.heap.size w W → Calls Try.prog 40 #[.slice A n c, .int .i64 id] W fun e w' => e = .returned (.int .i64 (-1)) ∧ W = w' :=
        fun W hb => itemAt_none A n c id ls W ((h.below hb (Nat.le_refl _)).mono hb.size) hn hno
      have HS := Lib.hid hs
      clear hg hG hno hs h
      go_enter Try.func36, Try.ntmps36
      go_wp2_with fail
      refine (HC.out _ HF.out.be).mono ?_
      rintro e w1 ⟨he, hb1⟩
      rw [MayPost, E1.out] at he
      subst he
      have HF1 := Lib.hid (HF.out.step hb1)
      clear hb1
      go_wp2_with fail
      refine (HS.out _ HF1.out.be).mono ?_
      rintro e w2 ⟨rfl, rfl⟩
      obtain ⟨c0, c1, c2, z0, z1, z2, hsz, _, hbe⟩ := HF1.out
      have HB := Lib.hid hbe
      clear hbe
      go_wp2
      refine bodyPost_ret (v := .tuple #[.agg #[.int .i64 0, .string ⟨#[]⟩, .int .i64 0], .int .i64 6]) (by simp [results, Try.results36, go_sem, c0, c1, c2]) rfl ?_
      exact ⟨by rw [GetPost, HG.out.1, HG.out.2]; rfl, below_set3 HB.out _ (Nat.le_refl _) _ _ _⟩
    · have hg2 := got_some hG hk hid
      have hs : ∀ W, Below w.heap.size w W → Calls Try.prog 40 #[.slice A n c, .int .i64 id] W fun e w' => e = .returned (.int .i64 k) ∧ W = w' :=
        fun W hb => itemAt_some A n c k id ls W ((h.below hb (Nat.le_refl _)).mono hb.size) hn hk hid hbf
      have HS := Lib.hid hs
      obtain ⟨x, hx⟩ : ∃ x, ls[k] = x := ⟨_, rfl⟩
      rw [hx] at hg2
      have HG := Lib.hid hg2
      have HX := Lib.hid hx
      have hkn : k < n := by have := h.1; omega
      have h24 : n ≤ 24 := by have := h.1; have := hG.1; omega
      clear hg hG hs h hg2 hx hid hbf
      go_enter Try.func36, Try.ntmps36
      go_wp2_with fail
      refine (HC.out _ HF.out.be).mono ?_
      rintro e w1 ⟨he, hb1⟩
      rw [MayPost, E1.out] at he
      subst he
      have HF1 := Lib.hid (HF.out.step hb1)
      clear hb1
      go_wp2_with fail
      refine (HS.out _ HF1.out.be).mono ?_
      rintro e w2 ⟨rfl, rfl⟩
      obtain ⟨c0, c1, c2, z0, z1, z2, hsz, _, hbe⟩ := HF1.out
      obtain ⟨b, off, rfl, hbs, x0, x1, x2⟩ := items_at (k := k) (H.out.below hbe (Nat.le_refl _)) hkn
      rw [HX.out] at x0 x1 x2
      have HB := Lib.hid hbe
      clear hbe
      go_wp2
      refine bodyPost_ret (v := .tuple #[.agg #[.int .i64 x.id, .string x.data, .int .i64 x.refs], .int .i64 0]) (by simp [results, Try.results36, go_sem, c0, c1, c2]) rfl ?_
      exact ⟨by rw [GetPost, HG.out.1, HG.out.2], below_set3 HB.out _ (Nat.le_refl _) _ _ _⟩
end Go.Proofs.Ytphbebcbbfbgpab
