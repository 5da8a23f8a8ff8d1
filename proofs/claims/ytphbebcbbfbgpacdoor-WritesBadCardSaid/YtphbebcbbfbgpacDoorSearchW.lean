/- slices.BinarySearchFunc over writes; what an engine finds. -/
import Derived.Test.YtphbebcbbfbgpacDoorGet
import Derived.Test.YtphbebcbbfbgpacDoorLogFirstP
import Derived.Test.YtphbebcbbfbgpacDoorPlainEngine
namespace Go.Proofs.YtphbebcbbfbgpacDoor
open Go Go.RowKit

def MonoW (ls : List Wrt) (cft : Wrt → Int) : Prop := ∀ a b (_ : a ≤ b) (hb : b < ls.length), cft ls[b] < 0 → cft (ls[a]'(by omega)) < 0
def SearchPostW (ls : List Wrt) (cft : Wrt → Int) (e : Ending) : Prop :=
  ∃ q, q ≤ ls.length ∧ (MonoW ls cft → (∀ t (_ : t < q) (ht : t < ls.length), cft ls[t] < 0) ∧ (∀ t (_ : q ≤ t) (ht : t < ls.length), 0 ≤ cft ls[t])) ∧
    ∃ b : Bool, (b = true ↔ ∃ h : q < ls.length, cft ls[q] = 0) ∧ e = .returned (.tuple #[.int .i64 q, .bool b])

set_option maxHeartbeats 4000000 in
theorem search_anyW (g : Nat) (cft : Wrt → Int) (A : Option Addr) (n c : Nat) (id : Int) (ls : List Wrt) (w : World) (h : Rep w w.heap.size 2 Wrt.cell A n ls) (hn : n ≤ 24)
    (eg : ∀ args w, (callFunc g args).run Tryd.prog w = .ok (.enter g args) w)
    (hc : ∀ x ∈ ls, ∀ W, Below w.heap.size w W → Calls Tryd.prog g #[.agg #[.int .i64 x.block, .string x.data], .int .i64 id] W fun e w' => e = .returned (.int .i64 (cft x)) ∧ Below W.heap.size W w') :
    Calls Tryd.prog 106 #[.slice A n c, .int .i64 id, .func (.func g) #[] #[]] w fun e w' => SearchPostW ls cft e ∧ Below w.heap.size w w' := by
  have hlen := h.1
  have H := Lib.hid h
  have HL := Lib.hid hlen
  have HC := Lib.hid hc
  clear h hlen hc
  go_enter Tryd.func106, Tryd.ntmps106
  go_wp2
  go_loopw [9, 10] (fun v t wr => ∃ lo hi : Nat, v = .int .i64 lo ∧ t = .int .i64 hi ∧ lo ≤ hi ∧ hi ≤ n ∧ Below w.heap.size w wr ∧ Hid (MonoW ls cft → (∀ t (_ : t < lo) (ht : t < ls.length), cft ls[t] < 0) ∧ (∀ t (_ : hi ≤ t) (ht : t < ls.length), 0 ≤ cft ls[t]))) (fun v t _ => (intOf t).toNat - (intOf v).toNat)
  case atStart => exact ⟨0, n, rfl, rfl, by omega, by omega, Below.refl _ _, Lib.hid (fun _ => ⟨fun t ht => absurd ht (by omega), fun t h1 h2 => absurd h2 (by have := HL.out; omega)⟩)⟩
  case round =>
    obtain ⟨lo, hi, rfl, rfl, hlh, hin, hbel, hinv⟩ := hrel
    have HB := Lib.hid hbel
    clear hbel
    by_cases hlt : lo < hi
    · have hml : (lo + hi) / 2 < ls.length := by have := HL.out; omega
      obtain ⟨b, off, rfl, hb, c0, c1⟩ := writes_at (k := (lo + hi) / 2) (H.out.below HB.out (Nat.le_refl _)) (by omega)
      obtain ⟨x, hx⟩ : ∃ x, ls[(lo + hi) / 2]'hml = x := ⟨_, rfl⟩
      rw [hx] at c0 c1
      have hcx := HC.out x (by rw [← hx]; exact List.getElem_mem hml) wr HB.out
      have HX := Lib.hid hx
      obtain ⟨y, hy⟩ : ∃ y, cft x = y := ⟨_, rfl⟩
      rw [hy] at hcx
      have HY := Lib.hid hy
      have HCX := Lib.hid hcx
      clear hx hcx hy
      by_cases hyx : y < 0
      · have dy := decide_eq_true hyx
        go_wp2_with (go_at_fn g; refine HCX.out.mono ?_; rintro e w' ⟨rfl, hb1⟩)
        have HB1 := Lib.hid (HB.out.trans (hb1.mono HB.out.size))
        have hnew : MonoW ls cft → (∀ t (_ : t < (lo + hi) / 2 + 1) (ht : t < ls.length), cft ls[t] < 0) ∧ (∀ t (_ : hi ≤ t) (ht : t < ls.length), 0 ≤ cft ls[t]) :=
          fun hm => ⟨fun t h1 h2 => hm t ((lo + hi) / 2) (by omega) hml (by rw [HX.out, HY.out]; exact hyx), (hinv.out hm).2⟩
        have HN := Lib.hid hnew
        clear hnew
        go_roundw
        case rel => exact ⟨(lo + hi) / 2 + 1, hi, by rw [show ((lo : Int) + (hi : Int)) / 2 + 1 = (((lo + hi) / 2 + 1 : Nat) : Int) by omega], rfl, by omega, hin, HB1.out, HN⟩
        case measure => simp [intOf]; omega
      · have dy := decide_eq_false hyx
        go_wp2_with (go_at_fn g; refine HCX.out.mono ?_; rintro e w' ⟨rfl, hb1⟩)
        have HB1 := Lib.hid (HB.out.trans (hb1.mono HB.out.size))
        have hnew : MonoW ls cft → (∀ t (_ : t < lo) (ht : t < ls.length), cft ls[t] < 0) ∧ (∀ t (_ : (lo + hi) / 2 ≤ t) (ht : t < ls.length), 0 ≤ cft ls[t]) :=
          fun hm => ⟨(hinv.out hm).1, fun t h1 h2 => Int.not_lt.1 fun h => by have := hm ((lo + hi) / 2) t h1 h2 h; rw [HX.out, HY.out] at this; omega⟩
        have HN := Lib.hid hnew
        clear hnew
        go_roundw
        case rel => exact ⟨lo, (lo + hi) / 2, rfl, by rw [show ((lo : Int) + (hi : Int)) / 2 = (((lo + hi) / 2 : Nat) : Int) by omega], by omega, by omega, HB1.out, HN⟩
        case measure => simp [intOf]; omega
    · obtain rfl : hi = lo := by omega
      by_cases hln : hi < n
      · have hml : hi < ls.length := by have := HL.out; omega
        obtain ⟨b, off, rfl, hb, c0, c1⟩ := writes_at (k := hi) (H.out.below HB.out (Nat.le_refl _)) hln
        obtain ⟨x, hx⟩ : ∃ x, ls[hi]'hml = x := ⟨_, rfl⟩
        rw [hx] at c0 c1
        have hcx := HC.out x (by rw [← hx]; exact List.getElem_mem hml) wr HB.out
        have HX := Lib.hid hx
        obtain ⟨y, hy⟩ : ∃ y, cft x = y := ⟨_, rfl⟩
        rw [hy] at hcx
        have HY := Lib.hid hy
        have HCX := Lib.hid hcx
        clear hx hcx hy
        have dl : decide ((hi : Int) < (n : Int)) = true := by simp; omega
        go_wp2_with (go_at_fn g; refine HCX.out.mono ?_; rintro e w' ⟨rfl, hb1⟩)
        go_ret2
        exact ⟨⟨hi, by omega, hinv.out, y == 0, by rw [beq_iff_eq]; exact ⟨fun h => ⟨hml, by rw [HX.out, HY.out]; exact h⟩, fun ⟨_, h⟩ => by rw [HX.out, HY.out] at h; exact h⟩, rfl⟩, HB.out.trans (hb1.mono HB.out.size)⟩
      · have dl : decide ((hi : Int) < (n : Int)) = false := by simp; omega
        go_wp2
        go_ret2
        exact ⟨⟨hi, by have := HL.out; omega, hinv.out, false, by have := HL.out; exact ⟨fun h => absurd h (by simp), fun h => absurd h.1 (by omega)⟩, rfl⟩, HB.out⟩


def cmpW (b : Int) (x : Wrt) : Int := IntKind.i64.wrap (x.block - b)
theorem find1_any (x : Wrt) (b : Int) (w : World) : Calls Tryd.prog 107 #[.agg #[.int .i64 x.block, .string x.data], .int .i64 b] w fun e w' => e = .returned (.int .i64 (cmpW b x)) ∧ Below w.heap.size w w' := by
  obtain ⟨y, d⟩ := x
  have hb : Below w.heap.size w (w.alloc (.cells #[.int .i64 y, .string d] 55)) := (Below.refl _ _).alloc (Nat.le_refl _) _
  unfold cmpW
  dsimp only
  go_enter Tryd.func107, Tryd.ntmps107
  go_wp2
  go_ret
  exact ⟨by first | rfl | simp [IntKind.wrap_i64, wrap64], hb⟩

theorem lowIx_eq {b : Int} : ∀ {ws : List Wrt} {q : Nat}, q ≤ ws.length → (∀ t (_ : t < q) (ht : t < ws.length), ws[t].block < b) → (∀ t (_ : q ≤ t) (ht : t < ws.length), b ≤ ws[t].block) → lowIx ws b = q
  | [], q, hq, _, _ => by
    have : q = 0 := by simpa using hq
    subst this; rfl
  | x :: r, 0, _, _, h2 => by
    have := h2 0 (Nat.le_refl _) (by simp)
    simp only [List.getElem_cons_zero] at this
    exact lowIx_ge (by omega)
  | x :: r, q + 1, hq, h1, h2 => by
    have := h1 0 (by omega) (by simp)
    simp only [List.getElem_cons_zero] at this
    rw [lowIx_lt this, lowIx_eq (ws := r) (q := q) (by simpa using hq) (fun t ht hl => by have := h1 (t + 1) (by omega) (by simpa using hl); simpa using this) (fun t ht hl => by have := h2 (t + 1) (by omega) (by simpa using hl); simpa using this)]
theorem there_no {ws : List Wrt} {b : Int} (h : ∀ x ∈ ws, x.block ≠ b) : thereB ws b = false := by
  cases ht : thereB ws b with
  | false => rfl
  | true =>
    obtain ⟨hl, he⟩ := there_mem ht
    exact absurd he (h _ (List.getElem_mem hl))

/-- where a block is among writes, and whether it is there -/
def FindPost (ws : List Wrt) (b : Int) (e : Ending) : Prop := ∃ q : Nat, e = .returned (.tuple #[.int .i64 q, .bool (thereB ws b)]) ∧ (0 ≤ b → b ≤ 1000 → q = lowIx ws b)
theorem find_of {ws : List Wrt} {b : Int} {e : Ending} (hb1 : -9223372036854775808 ≤ b) (hb2 : b ≤ 9223372036854775807) (ha : AscW ws) (hr : ∀ x ∈ ws, 0 ≤ x.block ∧ x.block < 1000) (h : SearchPostW ws (cmpW b) e) : FindPost ws b e := by
  obtain ⟨q, hq, hm, t, ht, rfl⟩ := h
  by_cases hb : 0 ≤ b ∧ b ≤ 1000
  · have hc : ∀ x ∈ ws, cmpW b x = x.block - b := fun x hx => by
      have := hr x hx
      rw [cmpW, IntKind.wrap_i64]; omega
    have hmono : MonoW ws (cmpW b) := by
      intro i j hij hj hlt
      rw [hc _ (List.getElem_mem _)] at hlt ⊢
      rcases Nat.lt_or_eq_of_le hij with h | h
      · have := List.pairwise_iff_getElem.1 ha i j (by omega) hj h; omega
      · subst h; exact hlt
    obtain ⟨h1, h2⟩ := hm hmono
    have hlow : lowIx ws b = q := lowIx_eq hq (fun t ht hl => by have := h1 t ht hl; rw [hc _ (List.getElem_mem _)] at this; omega) (fun t ht hl => by have := h2 t ht hl; rw [hc _ (List.getElem_mem _)] at this; omega)
    have htb : t = thereB ws b := by
      rw [Bool.eq_iff_iff, ht]
      constructor
      · rintro ⟨hl, he⟩
        rw [hc _ (List.getElem_mem _)] at he
        unfold thereB
        rw [hlow, List.getElem?_eq_getElem hl]
        simp; omega
      · intro h
        obtain ⟨hl, he⟩ := there_mem h
        have hl' : q < ws.length := by omega
        refine ⟨hl', ?_⟩
        rw [hc _ (List.getElem_mem _)]
        simp only [hlow] at he
        omega
    exact ⟨q, by rw [htb], fun _ _ => hlow.symm⟩
  · have hno : ∀ x ∈ ws, cmpW b x ≠ 0 := fun x hx => by
      have := hr x hx
      rw [cmpW, IntKind.wrap_i64]; omega
    have hnt : ∀ x ∈ ws, x.block ≠ b ∨ (b = 1000) ∨ True := fun _ _ => .inr (.inr trivial)
    have htf : t = false := by
      cases t with
      | false => rfl
      | true =>
        obtain ⟨hl, he⟩ := ht.1 rfl
        exact absurd he (hno _ (List.getElem_mem hl))
    refine ⟨q, ?_, fun h0 h1 => absurd ⟨h0, h1⟩ hb⟩
    rw [htf, there_no (fun x hx e => by have := hr x hx; omega)]
end Go.Proofs.YtphbebcbbfbgpacDoor
