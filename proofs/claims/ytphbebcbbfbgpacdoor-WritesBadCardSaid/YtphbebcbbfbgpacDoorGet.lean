/- slices.BinarySearchFunc over items, with any comparison that goes by its own contract; repo.Get and repo.at. repo.at, repo.Get, saltcellarref.GotOf. -/
import Derived.Test.YtphbebcbbfbgpacDoorPressRun
import Derived.Test.YtphbebcbbfbgpacDoorVolMay
import Derived.Shelf.Abstract
namespace Go.Proofs.YtphbebcbbfbgpacDoor
open Go Go.RowKit

def Itm.val (x : Itm) : Value := .agg #[.int .i64 x.id, .string x.data, .int .i64 x.refs]

def SearchPost (ls : List Itm) (cft : Itm → Int) (e : Ending) : Prop :=
  ∃ q, q ≤ ls.length ∧ (∀ t (_ : t < q) (ht : t < ls.length), cft ls[t] < 0) ∧ (∀ t (_ : q ≤ t) (ht : t < ls.length), 0 ≤ cft ls[t]) ∧
    ∃ b : Bool, (b = true ↔ ∃ h : q < ls.length, cft ls[q] = 0) ∧ e = .returned (.tuple #[.int .i64 q, .bool b])

set_option maxHeartbeats 4000000 in
theorem search_any (g : Nat) (cft : Itm → Int) (A : Option Addr) (n c : Nat) (id : Int) (ls : List Itm) (w : World) (h : Rep w w.heap.size 3 Itm.cell A n ls) (hn : n ≤ 24)
    (eg : ∀ args w, (callFunc g args).run Tryd.prog w = .ok (.enter g args) w)
    (hc : ∀ x ∈ ls, ∀ W, Below w.heap.size w W → Calls Tryd.prog g #[.agg #[.int .i64 x.id, .string x.data, .int .i64 x.refs], .int .i64 id] W fun e w' => e = .returned (.int .i64 (cft x)) ∧ Below W.heap.size W w')
    (hm : ∀ a b (_ : a ≤ b) (hb : b < ls.length), cft ls[b] < 0 → cft (ls[a]'(by omega)) < 0) :
    Calls Tryd.prog 50 #[.slice A n c, .int .i64 id, .func (.func g) #[] #[]] w fun e w' => SearchPost ls cft e ∧ Below w.heap.size w w' := by
  have hlen := h.1
  have H := Lib.hid h
  have HL := Lib.hid hlen
  have HC := Lib.hid hc
  have HM := Lib.hid hm
  clear h hlen hc hm
  go_enter Tryd.func50, Tryd.ntmps50
  go_wp2
  go_loopw [9, 10] (fun v t wr => ∃ lo hi : Nat, v = .int .i64 lo ∧ t = .int .i64 hi ∧ lo ≤ hi ∧ hi ≤ n ∧ Below w.heap.size w wr ∧ Hid ((∀ t (_ : t < lo) (ht : t < ls.length), cft ls[t] < 0) ∧ (∀ t (_ : hi ≤ t) (ht : t < ls.length), 0 ≤ cft ls[t]))) (fun v t _ => (intOf t).toNat - (intOf v).toNat)
  case atStart => exact ⟨0, n, rfl, rfl, by omega, by omega, Below.refl _ _, Lib.hid ⟨fun t ht => absurd ht (by omega), fun t h1 h2 => absurd h2 (by have := HL.out; omega)⟩⟩
  case round =>
    obtain ⟨lo, hi, rfl, rfl, hlh, hin, hbel, hinv⟩ := hrel
    have HB := Lib.hid hbel
    clear hbel
    by_cases hlt : lo < hi
    · have hml : (lo + hi) / 2 < ls.length := by have := HL.out; omega
      obtain ⟨b, off, rfl, hb, c0, c1, c2⟩ := items_at (k := (lo + hi) / 2) (H.out.below HB.out (Nat.le_refl _)) (by omega)
      obtain ⟨x, hx⟩ : ∃ x, ls[(lo + hi) / 2]'hml = x := ⟨_, rfl⟩
      rw [hx] at c0 c1 c2
      have hcx := HC.out x (by rw [← hx]; exact List.getElem_mem hml) wr HB.out
      have HX := Lib.hid hx
      obtain ⟨y, hy⟩ : ∃ y, cft x = y := ⟨_, rfl⟩
      rw [hy] at hcx
      have HY := Lib.hid hy
      have HCX := Lib.hid hcx
      clear hx hcx hy
      by_cases hyx : y < 0
      · have dy := decide_eq_true hyx
        go_wp2_with (go_at_fn g; refine HCX.out.mono ?_; rintro e w' ⟨rfl, hb1⟩)
        have HB1 := Lib.hid (HB.out.trans (hb1.mono HB.out.size))
        have hnew : (∀ t (_ : t < (lo + hi) / 2 + 1) (ht : t < ls.length), cft ls[t] < 0) ∧ (∀ t (_ : hi ≤ t) (ht : t < ls.length), 0 ≤ cft ls[t]) :=
          ⟨fun t h1 h2 => HM.out t ((lo + hi) / 2) (by omega) hml (by rw [HX.out, HY.out]; exact hyx), hinv.out.2⟩
        have HN := Lib.hid hnew
        clear hnew
        go_roundw
        case rel => exact ⟨(lo + hi) / 2 + 1, hi, by rw [show ((lo : Int) + (hi : Int)) / 2 + 1 = (((lo + hi) / 2 + 1 : Nat) : Int) by omega], rfl, by omega, hin, HB1.out, HN⟩
        case measure => simp [intOf]; omega
      · have dy := decide_eq_false hyx
        go_wp2_with (go_at_fn g; refine HCX.out.mono ?_; rintro e w' ⟨rfl, hb1⟩)
        have HB1 := Lib.hid (HB.out.trans (hb1.mono HB.out.size))
        have hnew : (∀ t (_ : t < lo) (ht : t < ls.length), cft ls[t] < 0) ∧ (∀ t (_ : (lo + hi) / 2 ≤ t) (ht : t < ls.length), 0 ≤ cft ls[t]) :=
          ⟨hinv.out.1, fun t h1 h2 => Int.not_lt.1 fun h => by have := HM.out ((lo + hi) / 2) t h1 h2 h; rw [HX.out, HY.out] at this; omega⟩
        have HN := Lib.hid hnew
        clear hnew
        go_roundw
        case rel => exact ⟨lo, (lo + hi) / 2, rfl, by rw [show ((lo : Int) + (hi : Int)) / 2 = (((lo + hi) / 2 : Nat) : Int) by omega], by omega, by omega, HB1.out, HN⟩
        case measure => simp [intOf]; omega
    · obtain rfl : hi = lo := by omega
      by_cases hln : hi < n
      · have hml : hi < ls.length := by have := HL.out; omega
        obtain ⟨b, off, rfl, hb, c0, c1, c2⟩ := items_at (k := hi) (H.out.below HB.out (Nat.le_refl _)) hln
        obtain ⟨x, hx⟩ : ∃ x, ls[hi]'hml = x := ⟨_, rfl⟩
        rw [hx] at c0 c1 c2
        have hcx := HC.out x (by rw [← hx]; exact List.getElem_mem hml) wr HB.out
        have HX := Lib.hid hx
        obtain ⟨y, hy⟩ : ∃ y, cft x = y := ⟨_, rfl⟩
        rw [hy] at hcx
        have HY := Lib.hid hy
        have HCX := Lib.hid hcx
        clear hx hcx hy
        have dl : decide ((hi : Int) < (n : Int)) = true := by simp; omega
        go_wp2_with (go_at_fn g; refine HCX.out.mono ?_; rintro e w' ⟨rfl, hb1⟩)
        go_ret2
        exact ⟨⟨hi, by omega, hinv.out.1, hinv.out.2, y == 0, by rw [beq_iff_eq]; exact ⟨fun h => ⟨hml, by rw [HX.out, HY.out]; exact h⟩, fun ⟨_, h⟩ => by rw [HX.out, HY.out] at h; exact h⟩, rfl⟩, HB.out.trans (hb1.mono HB.out.size)⟩
      · have dl : decide ((hi : Int) < (n : Int)) = false := by simp; omega
        go_wp2
        go_ret2
        exact ⟨⟨hi, by have := HL.out; omega, hinv.out.1, hinv.out.2, false, by have := HL.out; exact ⟨fun h => absurd h (by simp), fun h => absurd h.1 (by omega)⟩, rfl⟩, HB.out⟩

/-- the comparison of Get, and that of at -/
def cmpG (id : Int) (x : Itm) : Int := if x.id < id then -1 else if x.id > id then 1 else 0
def cmpA (id : Int) (x : Itm) : Int := x.id - id

theorem get1_any (x : Itm) (id : Int) (w : World) :
    Calls Tryd.prog 51 #[.agg #[.int .i64 x.id, .string x.data, .int .i64 x.refs], .int .i64 id] w fun e w' => e = .returned (.int .i64 (cmpG id x)) ∧ Below w.heap.size w w' := by
  obtain ⟨y, d, r⟩ := x
  have hb : Below w.heap.size w (w.alloc (.cells #[.int .i64 y, .string d, .int .i64 r] 42)) := (Below.refl _ _).alloc (Nat.le_refl _) _
  unfold cmpG
  dsimp only
  by_cases h1 : y < id
  · rw [if_pos h1]
    have d1 := decide_eq_true h1
    go_enter Tryd.func51, Tryd.ntmps51
    go_wp2
    go_ret
    exact ⟨rfl, hb⟩
  · rw [if_neg h1]
    have d1 := decide_eq_false h1
    by_cases h2 : y > id
    · rw [if_pos h2]
      have d2 := decide_eq_true h2
      go_enter Tryd.func51, Tryd.ntmps51
      go_wp2
      go_ret
      exact ⟨rfl, hb⟩
    · rw [if_neg h2]
      have d2 := decide_eq_false h2
      go_enter Tryd.func51, Tryd.ntmps51
      go_wp2
      go_ret
      exact ⟨rfl, hb⟩
theorem at1_any (x : Itm) (id : Int) (w : World) (h : -1000 ≤ x.id) (h' : x.id ≤ 1000) (hi : -1000 ≤ id) (hi' : id ≤ 1000) :
    Calls Tryd.prog 77 #[.agg #[.int .i64 x.id, .string x.data, .int .i64 x.refs], .int .i64 id] w fun e w' => e = .returned (.int .i64 (cmpA id x)) ∧ Below w.heap.size w w' := by
  obtain ⟨y, d, r⟩ := x
  have hb : Below w.heap.size w (w.alloc (.cells #[.int .i64 y, .string d, .int .i64 r] 42)) := (Below.refl _ _).alloc (Nat.le_refl _) _
  unfold cmpA
  dsimp only at h h' ⊢
  go_enter Tryd.func77, Tryd.ntmps77
  go_wp2
  go_ret
  exact ⟨rfl, hb⟩

theorem Good.lt {ls : List Itm} (g : Good ls) {j k : Nat} (hjk : j < k) (hk : k < ls.length) : (ls[j]'(by omega)).id < ls[k].id := List.pairwise_iff_getElem.1 g.2.ids j k (by omega) hk hjk
theorem Good.le {ls : List Itm} (g : Good ls) {j k : Nat} (hjk : j ≤ k) (hk : k < ls.length) : (ls[j]'(by omega)).id ≤ ls[k].id := by
  rcases Nat.lt_or_eq_of_le hjk with h | h
  · exact Int.le_of_lt (g.lt h hk)
  · subst h; exact Int.le_refl _
/-- where the comparison is by the numbers' order, the search tells the item's place, or that there is none -/
theorem searchPost_at {ls : List Itm} {cft : Itm → Int} {e : Ending} {k : Nat} {id : Int} (h : SearchPost ls cft e) (hs : ∀ x ∈ ls, (cft x < 0 ↔ x.id < id) ∧ (cft x = 0 ↔ x.id = id)) (g : Good ls) (hk : k < ls.length) (hid : ls[k].id = id) :
    e = .returned (.tuple #[.int .i64 k, .bool true]) := by
  obtain ⟨q, hq, h1, h2, b, hb, rfl⟩ := h
  have hqk : q = k := by
    rcases Nat.lt_trichotomy q k with h | h | h
    · have := h2 q (Nat.le_refl _) (by omega)
      have := (hs _ (List.getElem_mem (show q < ls.length by omega))).1
      have := g.lt h hk
      omega
    · exact h
    · have := h1 k h hk
      have := (hs _ (List.getElem_mem hk)).1
      omega
  subst hqk
  have : b = true := hb.2 ⟨hk, (hs _ (List.getElem_mem hk)).2.2 hid⟩
  rw [this]
theorem searchPost_none {ls : List Itm} {cft : Itm → Int} {e : Ending} {id : Int} (h : SearchPost ls cft e) (hs : ∀ x ∈ ls, (cft x < 0 ↔ x.id < id) ∧ (cft x = 0 ↔ x.id = id)) (hno : ∀ x ∈ ls, x.id ≠ id) :
    ∃ q : Nat, q ≤ ls.length ∧ e = .returned (.tuple #[.int .i64 q, .bool false]) := by
  obtain ⟨q, hq, h1, h2, b, hb, rfl⟩ := h
  refine ⟨q, hq, ?_⟩
  cases b with
  | false => rfl
  | true =>
    obtain ⟨hk, h0⟩ := hb.1 rfl
    exact absurd ((hs _ (List.getElem_mem hk)).2.1 h0) (hno _ (List.getElem_mem hk))
theorem cmpG_says (id : Int) (x : Itm) : (cmpG id x < 0 ↔ x.id < id) ∧ (cmpG id x = 0 ↔ x.id = id) := by
  unfold cmpG
  by_cases h1 : x.id < id
  · rw [if_pos h1]; omega
  · rw [if_neg h1]
    by_cases h2 : x.id > id
    · rw [if_pos h2]; omega
    · rw [if_neg h2]; omega
theorem cmpA_says (id : Int) (x : Itm) : (cmpA id x < 0 ↔ x.id < id) ∧ (cmpA id x = 0 ↔ x.id = id) := by
  unfold cmpA; omega
end Go.Proofs.YtphbebcbbfbgpacDoor

namespace Go.Proofs.YtphbebcbbfbgpacDoor
open Go Go.RowKit

def zItm : Itm := ⟨0, ⟨#[]⟩, 0⟩
/-- P2.2: what Get finds -/
def gotX (ls : List Itm) (id : Int) : Itm := (ls.find? (fun x => x.id == id)).getD zItm
noncomputable def gotK (ls : List Itm) (id : Int) : Int := if goodB ls then (if ls.any (fun x => x.id == id) then 0 else 6) else 7
noncomputable def gotR (ls : List Itm) (id : Int) : Itm := if gotK ls id = 0 then gotX ls id else zItm
def GetPost (ls : List Itm) (id : Int) (e : Ending) : Prop := e = .returned (.tuple #[.agg #[.int .i64 (gotR ls id).id, .string (gotR ls id).data, .int .i64 (gotR ls id).refs], .int .i64 (gotK ls id)])

theorem got_bad {ls : List Itm} (id : Int) (h : goodB ls = false) : gotK ls id = 7 ∧ gotR ls id = zItm := by
  have : gotK ls id = 7 := by rw [gotK, h]; rfl
  exact ⟨this, by rw [gotR, this]; rfl⟩
theorem got_none {ls : List Itm} {id : Int} (h : goodB ls = true) (hno : ∀ x ∈ ls, x.id ≠ id) : gotK ls id = 6 ∧ gotR ls id = zItm := by
  have : gotK ls id = 6 := by
    rw [gotK, h, if_pos rfl, if_neg]
    rw [List.any_eq_true]
    rintro ⟨x, hx, hx2⟩
    exact hno x hx (by simpa using hx2)
  exact ⟨this, by rw [gotR, this]; rfl⟩
theorem got_some {ls : List Itm} {id : Int} {k : Nat} (h : Good ls) (hk : k < ls.length) (hid : ls[k].id = id) : gotK ls id = 0 ∧ gotR ls id = ls[k] := by
  have h0 : gotK ls id = 0 := by
    rw [gotK, goodB_true h, if_pos rfl, if_pos]
    rw [List.any_eq_true]
    exact ⟨_, List.getElem_mem hk, by simp [hid]⟩
  refine ⟨h0, ?_⟩
  rw [gotR, if_pos h0, gotX, List.find?_eq_some_iff_getElem.2 ⟨by simp [hid], k, hk, rfl, fun j hj => by simp; have := h.lt hj hk; omega⟩]
  rfl
theorem good_of_B {ls : List Itm} (h : goodB ls = true) : Good ls := by simpa [goodB] using h
theorem id_cases (ls : List Itm) (id : Int) : (∀ x ∈ ls, x.id ≠ id) ∨ ∃ k, ∃ hk : k < ls.length, ls[k].id = id ∧ ∀ j (hj : j < k), (ls[j]'(by omega)).id ≠ id := by
  by_cases h : ∃ x ∈ ls, x.id = id
  · exact .inr (firstAt h)
  · exact .inl fun x hx e => h ⟨x, hx, e⟩

/-- What stands in a block that holds an item, laid by the call. -/
structure BoxF (w : World) (B : Nat) (x : Itm) (W : World) : Prop where
  c0 : W.cell? ⟨B, 0, none⟩ = some (.int .i64 x.id)
  c1 : W.cell? ⟨B, 1, none⟩ = some (.string x.data)
  c2 : W.cell? ⟨B, 2, none⟩ = some (.int .i64 x.refs)
  z0 : W.frozen? ⟨B, 0, none⟩ = false
  z1 : W.frozen? ⟨B, 1, none⟩ = false
  z2 : W.frozen? ⟨B, 2, none⟩ = false
  sz : B < W.heap.size
  lo : w.heap.size ≤ B
  be : Below w.heap.size w W
theorem BoxF.step {w W W' : World} {B : Nat} {x : Itm} (h : BoxF w B x W) (hb : Below W.heap.size W W') : BoxF w B x W' where
  c0 := (hb.cell h.sz).trans h.c0
  c1 := (hb.cell h.sz).trans h.c1
  c2 := (hb.cell h.sz).trans h.c2
  z0 := (hb.frozen h.sz).trans h.z0
  z1 := (hb.frozen h.sz).trans h.z1
  z2 := (hb.frozen h.sz).trans h.z2
  sz := Nat.lt_of_lt_of_le h.sz hb.size
  lo := h.lo
  be := h.be.trans (hb.mono h.be.size)

theorem below_set3 {B0 : Nat} {w w1 : World} (h : Below B0 w w1) (B : Nat) (hB : B0 ≤ B) (u v x : Value) : Below B0 w (((w1.setCell ⟨B, 0, none⟩ u).setCell ⟨B, 1, none⟩ v).setCell ⟨B, 2, none⟩ x) :=
  ((h.setCell (p := ⟨B, 0, none⟩) hB u).setCell (p := ⟨B, 1, none⟩) hB v).setCell (p := ⟨B, 2, none⟩) hB x

set_option maxHeartbeats 2000000 in
theorem get_any (A : Option Addr) (n c : Nat) (id : Int) (ls : List Itm) (w : World) (h : Rep w w.heap.size 3 Itm.cell A n ls) (hn : n ≤ maxLen) :
    Calls Tryd.prog 23 #[.slice A n c, .int .i64 id] w fun e w' => GetPost ls id e ∧ Below w.heap.size w w' := by
  have hc : ∀ W, Below w.heap.size w W → Calls Tryd.prog 29 #[.slice A n c] W fun e w' => CheckPost ls e ∧ Below W.heap.size W w' :=
    fun W hb => check_any A n c ls W ((h.below hb (Nat.le_refl _)).mono hb.size) hn
  have hf0 : BoxF w w.heap.size zItm (w.alloc (.cells #[.int .i64 0, .string ⟨#[]⟩, .int .i64 0] 42)) := by
    refine ⟨?_, ?_, ?_, ?_, ?_, ?_, by simp, Nat.le_refl _, (Below.refl _ _).alloc (Nat.le_refl _) _⟩
    all_goals simp [go_sem, zItm]
  have HC := Lib.hid hc
  have HF := Lib.hid hf0
  have H := Lib.hid h
  clear hc hf0
  cases hg : goodB ls with
  | false =>
    have E1 := Lib.hid (show goodN ls = 7 by rw [goodN_eq, hg]; rfl)
    have HG := Lib.hid (got_bad id hg)
    clear hg h
    go_enter Tryd.func23, Tryd.ntmps23
    go_wp2_with fail
    refine (HC.out _ HF.out.be).mono ?_
    rintro e w1 ⟨he, hb1⟩
    rw [CheckPost, E1.out] at he
    subst he
    obtain ⟨c0, c1, c2, z0, z1, z2, hsz, _, hbe⟩ := HF.out.step hb1
    have HB := Lib.hid hbe
    clear hb1 hbe
    go_wp2
    refine bodyPost_ret (v := .tuple #[.agg #[.int .i64 0, .string ⟨#[]⟩, .int .i64 0], .int .i64 7]) (by simp [results, Tryd.results23, go_sem, c0, c1, c2]) rfl ?_
    exact ⟨by rw [GetPost, HG.out.1, HG.out.2]; rfl, below_set3 HB.out _ (Nat.le_refl _) _ _ _⟩
  | true =>
    have hG := good_of_B hg
    have h24 : n ≤ 24 := by have := h.1; have := hG.1; omega
    have hs : ∀ W, Below w.heap.size w W → Calls Tryd.prog 50 #[.slice A n c, .int .i64 id, .func (.func 51) #[] #[]] W fun e w' => SearchPost ls (cmpG id) e ∧ Below W.heap.size W w' :=
      fun W hb => search_any 51 (cmpG id) A n c id ls W ((h.below hb (Nat.le_refl _)).mono hb.size) h24 (enters_of Tryd.func51 rfl rfl) (fun x _ W' _ => get1_any x id W') (fun a b hab hb hlt => by
        have := (cmpG_says id (ls[b]'hb)).1.1 hlt
        exact (cmpG_says id _).1.2 (by have := hG.le hab hb; omega))
    have HS := Lib.hid hs
    have E1 := Lib.hid (show goodN ls = 0 by rw [goodN_eq, hg]; rfl)
    have HGOOD := Lib.hid hG
    rcases id_cases ls id with hno | ⟨k, hk, hid, _⟩
    · have HG := Lib.hid (got_none hg hno)
      have HNO := Lib.hid hno
      clear hg hG hno hs h
      go_enter Tryd.func23, Tryd.ntmps23
      go_wp2_with fail
      refine (HC.out _ HF.out.be).mono ?_
      rintro e w1 ⟨he, hb1⟩
      rw [CheckPost, E1.out] at he
      subst he
      have HF1 := Lib.hid (HF.out.step hb1)
      clear hb1
      go_wp2_with fail
      refine (HS.out _ HF1.out.be).mono ?_
      rintro e w2 ⟨he, hb2⟩
      obtain ⟨q, hq, rfl⟩ := searchPost_none he (fun x _ => cmpG_says id x) HNO.out
      obtain ⟨c0, c1, c2, z0, z1, z2, hsz, _, hbe⟩ := HF1.out.step hb2
      have HB := Lib.hid hbe
      clear hb2 hbe he
      go_wp2
      refine bodyPost_ret (v := .tuple #[.agg #[.int .i64 0, .string ⟨#[]⟩, .int .i64 0], .int .i64 6]) (by simp [results, Tryd.results23, go_sem, c0, c1, c2]) rfl ?_
      exact ⟨by rw [GetPost, HG.out.1, HG.out.2]; rfl, below_set3 HB.out _ (Nat.le_refl _) _ _ _⟩
    · have hg2 := got_some hG hk hid
      obtain ⟨x, hx⟩ : ∃ x, ls[k] = x := ⟨_, rfl⟩
      rw [hx] at hg2
      have HG := Lib.hid hg2
      have HX := Lib.hid hx
      have HID := Lib.hid hid
      have hkn : k < n := by have := h.1; omega
      clear hg hG hs h hg2 hx hid
      go_enter Tryd.func23, Tryd.ntmps23
      go_wp2_with fail
      refine (HC.out _ HF.out.be).mono ?_
      rintro e w1 ⟨he, hb1⟩
      rw [CheckPost, E1.out] at he
      subst he
      have HF1 := Lib.hid (HF.out.step hb1)
      clear hb1
      go_wp2_with fail
      refine (HS.out _ HF1.out.be).mono ?_
      rintro e w2 ⟨he, hb2⟩
      obtain rfl := searchPost_at he (fun x _ => cmpG_says id x) HGOOD.out hk HID.out
      obtain ⟨c0, c1, c2, z0, z1, z2, hsz, _, hbe⟩ := HF1.out.step hb2
      obtain ⟨b, off, rfl, hbs, x0, x1, x2⟩ := items_at (k := k) (H.out.below hbe (Nat.le_refl _)) hkn
      rw [HX.out] at x0 x1 x2
      have HB := Lib.hid hbe
      clear hb2 hbe he
      go_wp2
      refine bodyPost_ret (v := .tuple #[.agg #[.int .i64 x.id, .string x.data, .int .i64 x.refs], .int .i64 0]) (by simp [results, Tryd.results23, go_sem, c0, c1, c2]) rfl ?_
      exact ⟨by rw [GetPost, HG.out.1, HG.out.2], below_set3 HB.out _ (Nat.le_refl _) _ _ _⟩

end Go.Proofs.YtphbebcbbfbgpacDoor
