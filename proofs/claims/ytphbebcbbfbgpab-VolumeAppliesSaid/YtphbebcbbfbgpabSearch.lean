/- slices.BinarySearchFunc over items, with any comparison that goes by its own contract; repo.Get and repo.at. -/
import Derived.Test.YtphbebcbbfbgpabRepoCheck
import Derived.Test.YtphbebcbbfbgpabVolMay
import Derived.Shelf.Abstract
namespace Go.Proofs.Ytphbebcbbfbgpab
open Go Go.RowKit

def Itm.val (x : Itm) : Value := .agg #[.int .i64 x.id, .string x.data, .int .i64 x.refs]

def SearchPost (ls : List Itm) (cft : Itm → Int) (e : Ending) : Prop :=
  ∃ q, q ≤ ls.length ∧ (∀ t (_ : t < q) (ht : t < ls.length), cft ls[t] < 0) ∧ (∀ t (_ : q ≤ t) (ht : t < ls.length), 0 ≤ cft ls[t]) ∧
    ∃ b : Bool, (b = true ↔ ∃ h : q < ls.length, cft ls[q] = 0) ∧ e = .returned (.tuple #[.int .i64 q, .bool b])

set_option maxHeartbeats 4000000 in
theorem search_any (g : Nat) (cft : Itm → Int) (A : Option Addr) (n c : Nat) (id : Int) (ls : List Itm) (w : World) (h : Rep w w.heap.size 3 Itm.cell A n ls) (hn : n ≤ 24)
    (eg : ∀ args w, (callFunc g args).run Try.prog w = .ok (.enter g args) w)
    (hc : ∀ x ∈ ls, ∀ W, Below w.heap.size w W → Calls Try.prog g #[.agg #[.int .i64 x.id, .string x.data, .int .i64 x.refs], .int .i64 id] W fun e w' => e = .returned (.int .i64 (cft x)) ∧ Below W.heap.size W w')
    (hm : ∀ a b (_ : a ≤ b) (hb : b < ls.length), cft ls[b] < 0 → cft (ls[a]'(by omega)) < 0) :
    Calls Try.prog 64 #[.slice A n c, .int .i64 id, .func (.func g) #[] #[]] w fun e w' => SearchPost ls cft e ∧ Below w.heap.size w w' := by
  have hlen := h.1
  have H := Lib.hid h
  have HL := Lib.hid hlen
  have HC := Lib.hid hc
  have HM := Lib.hid hm
  clear h hlen hc hm
  go_enter Try.func64, Try.ntmps64
  go_wp2
  go_loopw [9, 10] (fun v t wr => ∃ lo hi : Nat, v = .int .i64 lo ∧ t = .int .i64 hi ∧ lo ≤ hi ∧ hi ≤ n ∧ Below w.heap.size w wr ∧ Hid ((∀ t (_ : t < lo) (ht : t < ls.length), cft ls[t] < 0) ∧ (∀ t (_ : hi ≤ t) (ht : t < ls.length), 0 ≤ cft ls[t]))) (fun v t _ => (intOf t).toNat - (intOf v).toNat)
  case atStart => exact ⟨0, n, rfl, rfl, by omega, by omega, Below.refl _ _, Lib.hid ⟨fun t ht => absurd ht (by omega), fun t h1 h2 => absurd h2 (by have := HL.out; omega)⟩⟩
  case round =>
    obtain ⟨lo, hi, rfl, rfl, hlh, hin, hbel, hinv⟩ := hrel
    have HB := Lib.hid hbel
    clear hbel
    by_cases hlt : lo < hi
    · have hml : (lo + hi) / 2 < ls.length := by have := HL.out; omega
      obtain ⟨b, off, rfl, hb, c0, c1, c2⟩ := items_at (k := (lo + hi) / 2) (H.out.below HB.out (Nat.le_refl _)) (by omega)
      obtain ⟨x, hx⟩ : ∃ x, ls[(lo + hi) / 2]'hml = x := ⟨_, rfl⟩
      rw [hx] at c0 c1 c2
      have hcx := HC.out x (by rw [← hx]; exact List.getElem_mem hml) wr HB.out
      have HX := Lib.hid hx
      obtain ⟨y, hy⟩ : ∃ y, cft x = y := ⟨_, rfl⟩
      rw [hy] at hcx
      have HY := Lib.hid hy
      have HCX := Lib.hid hcx
      clear hx hcx hy
      by_cases hyx : y < 0
      · have dy := decide_eq_true hyx
        go_wp2_with (go_at_fn g; refine HCX.out.mono ?_; rintro e w' ⟨rfl, hb1⟩)
        have HB1 := Lib.hid (HB.out.trans (hb1.mono HB.out.size))
        have hnew : (∀ t (_ : t < (lo + hi) / 2 + 1) (ht : t < ls.length), cft ls[t] < 0) ∧ (∀ t (_ : hi ≤ t) (ht : t < ls.length), 0 ≤ cft ls[t]) :=
          ⟨fun t h1 h2 => HM.out t ((lo + hi) / 2) (by omega) hml (by rw [HX.out, HY.out]; exact hyx), hinv.out.2⟩
        have HN := Lib.hid hnew
        clear hnew
        go_roundw
        case rel => exact ⟨(lo + hi) / 2 + 1, hi, by rw [show ((lo : Int) + (hi : Int)) / 2 + 1 = (((lo + hi) / 2 + 1 : Nat) : Int) by omega], rfl, by omega, hin, HB1.out, HN⟩
        case measure => simp [intOf]; omega
      · have dy := decide_eq_false hyx
        go_wp2_with (go_at_fn g; refine HCX.out.mono ?_; rintro e w' ⟨rfl, hb1⟩)
        have HB1 := Lib.hid (HB.out.trans (hb1.mono HB.out.size))
        have hnew : (∀ t (_ : t < lo) (ht : t < ls.length), cft ls[t] < 0) ∧ (∀ t (_ : (lo + hi) / 2 ≤ t) (ht : t < ls.length), 0 ≤ cft ls[t]) :=
          ⟨hinv.out.1, fun t h1 h2 => Int.not_lt.1 fun h => by have := HM.out ((lo + hi) / 2) t h1 h2 h; rw [HX.out, HY.out] at this; omega⟩
        have HN := Lib.hid hnew
        clear hnew
        go_roundw
        case rel => exact ⟨lo, (lo + hi) / 2, rfl, by rw [show ((lo : Int) + (hi : Int)) / 2 = (((lo + hi) / 2 : Nat) : Int) by omega], by omega, by omega, HB1.out, HN⟩
        case measure => simp [intOf]; omega
    · obtain rfl : hi = lo := by omega
      by_cases hln : hi < n
      · have hml : hi < ls.length := by have := HL.out; omega
        obtain ⟨b, off, rfl, hb, c0, c1, c2⟩ := items_at (k := hi) (H.out.below HB.out (Nat.le_refl _)) hln
        obtain ⟨x, hx⟩ : ∃ x, ls[hi]'hml = x := ⟨_, rfl⟩
        rw [hx] at c0 c1 c2
        have hcx := HC.out x (by rw [← hx]; exact List.getElem_mem hml) wr HB.out
        have HX := Lib.hid hx
        obtain ⟨y, hy⟩ : ∃ y, cft x = y := ⟨_, rfl⟩
        rw [hy] at hcx
        have HY := Lib.hid hy
        have HCX := Lib.hid hcx
        clear hx hcx hy
        have dl : decide ((hi : Int) < (n : Int)) = true := by simp; omega
        go_wp2_with (go_at_fn g; refine HCX.out.mono ?_; rintro e w' ⟨rfl, hb1⟩)
        go_ret2
        exact ⟨⟨hi, by omega, hinv.out.1, hinv.out.2, y == 0, by rw [beq_iff_eq]; exact ⟨fun h => ⟨hml, by rw [HX.out, HY.out]; exact h⟩, fun ⟨_, h⟩ => by rw [HX.out, HY.out] at h; exact h⟩, rfl⟩, HB.out.trans (hb1.mono HB.out.size)⟩
      · have dl : decide ((hi : Int) < (n : Int)) = false := by simp; omega
        go_wp2
        go_ret2
        exact ⟨⟨hi, by have := HL.out; omega, hinv.out.1, hinv.out.2, false, by have := HL.out; exact ⟨fun h => absurd h (by simp), fun h => absurd h.1 (by omega)⟩, rfl⟩, HB.out⟩

/-- the comparison of Get, and that of at -/
def cmpG (id : Int) (x : Itm) : Int := if x.id < id then -1 else if x.id > id then 1 else 0
def cmpA (id : Int) (x : Itm) : Int := x.id - id

theorem get1_any (x : Itm) (id : Int) (w : World) :
    Calls Try.prog 65 #[.agg #[.int .i64 x.id, .string x.data, .int .i64 x.refs], .int .i64 id] w fun e w' => e = .returned (.int .i64 (cmpG id x)) ∧ Below w.heap.size w w' := by
  obtain ⟨y, d, r⟩ := x
  have hb : Below w.heap.size w (w.alloc (.cells #[.int .i64 y, .string d, .int .i64 r] 61)) := (Below.refl _ _).alloc (Nat.le_refl _) _
  unfold cmpG
  dsimp only
  by_cases h1 : y < id
  · rw [if_pos h1]
    have d1 := decide_eq_true h1
    go_enter Try.func65, Try.ntmps65
    go_wp2
    go_ret
    exact ⟨rfl, hb⟩
  · rw [if_neg h1]
    have d1 := decide_eq_false h1
    by_cases h2 : y > id
    · rw [if_pos h2]
      have d2 := decide_eq_true h2
      go_enter Try.func65, Try.ntmps65
      go_wp2
      go_ret
      exact ⟨rfl, hb⟩
    · rw [if_neg h2]
      have d2 := decide_eq_false h2
      go_enter Try.func65, Try.ntmps65
      go_wp2
      go_ret
      exact ⟨rfl, hb⟩
theorem at1_any (x : Itm) (id : Int) (w : World) (h : -1000 ≤ x.id) (h' : x.id ≤ 1000) (hi : -1000 ≤ id) (hi' : id ≤ 1000) :
    Calls Try.prog 66 #[.agg #[.int .i64 x.id, .string x.data, .int .i64 x.refs], .int .i64 id] w fun e w' => e = .returned (.int .i64 (cmpA id x)) ∧ Below w.heap.size w w' := by
  obtain ⟨y, d, r⟩ := x
  have hb : Below w.heap.size w (w.alloc (.cells #[.int .i64 y, .string d, .int .i64 r] 61)) := (Below.refl _ _).alloc (Nat.le_refl _) _
  unfold cmpA
  dsimp only at h h' ⊢
  go_enter Try.func66, Try.ntmps66
  go_wp2
  go_ret
  exact ⟨rfl, hb⟩

theorem Good.lt {ls : List Itm} (g : Good ls) {j k : Nat} (hjk : j < k) (hk : k < ls.length) : (ls[j]'(by omega)).id < ls[k].id := List.pairwise_iff_getElem.1 g.2.ids j k (by omega) hk hjk
theorem Good.le {ls : List Itm} (g : Good ls) {j k : Nat} (hjk : j ≤ k) (hk : k < ls.length) : (ls[j]'(by omega)).id ≤ ls[k].id := by
  rcases Nat.lt_or_eq_of_le hjk with h | h
  · exact Int.le_of_lt (g.lt h hk)
  · subst h; exact Int.le_refl _
/-- where the comparison is by the numbers' order, the search tells the item's place, or that there is none -/
theorem searchPost_at {ls : List Itm} {cft : Itm → Int} {e : Ending} {k : Nat} {id : Int} (h : SearchPost ls cft e) (hs : ∀ x ∈ ls, (cft x < 0 ↔ x.id < id) ∧ (cft x = 0 ↔ x.id = id)) (g : Good ls) (hk : k < ls.length) (hid : ls[k].id = id) :
    e = .returned (.tuple #[.int .i64 k, .bool true]) := by
  obtain ⟨q, hq, h1, h2, b, hb, rfl⟩ := h
  have hqk : q = k := by
    rcases Nat.lt_trichotomy q k with h | h | h
    · have := h2 q (Nat.le_refl _) (by omega)
      have := (hs _ (List.getElem_mem (show q < ls.length by omega))).1
      have := g.lt h hk
      omega
    · exact h
    · have := h1 k h hk
      have := (hs _ (List.getElem_mem hk)).1
      omega
  subst hqk
  have : b = true := hb.2 ⟨hk, (hs _ (List.getElem_mem hk)).2.2 hid⟩
  rw [this]
theorem searchPost_none {ls : List Itm} {cft : Itm → Int} {e : Ending} {id : Int} (h : SearchPost ls cft e) (hs : ∀ x ∈ ls, (cft x < 0 ↔ x.id < id) ∧ (cft x = 0 ↔ x.id = id)) (hno : ∀ x ∈ ls, x.id ≠ id) :
    ∃ q : Nat, q ≤ ls.length ∧ e = .returned (.tuple #[.int .i64 q, .bool false]) := by
  obtain ⟨q, hq, h1, h2, b, hb, rfl⟩ := h
  refine ⟨q, hq, ?_⟩
  cases b with
  | false => rfl
  | true =>
    obtain ⟨hk, h0⟩ := hb.1 rfl
    exact absurd ((hs _ (List.getElem_mem hk)).2.1 h0) (hno _ (List.getElem_mem hk))
theorem cmpG_says (id : Int) (x : Itm) : (cmpG id x < 0 ↔ x.id < id) ∧ (cmpG id x = 0 ↔ x.id = id) := by
  unfold cmpG
  by_cases h1 : x.id < id
  · rw [if_pos h1]; omega
  · rw [if_neg h1]
    by_cases h2 : x.id > id
    · rw [if_pos h2]; omega
    · rw [if_neg h2]; omega
theorem cmpA_says (id : Int) (x : Itm) : (cmpA id x < 0 ↔ x.id < id) ∧ (cmpA id x = 0 ↔ x.id = id) := by
  unfold cmpA; omega
end Go.Proofs.Ytphbebcbbfbgpab
