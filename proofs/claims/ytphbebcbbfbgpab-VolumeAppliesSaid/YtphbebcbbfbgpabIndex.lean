/- slices.IndexFunc over items, and the test of repo.Keep. -/
import Derived.Test.YtphbebcbbfbgpabItems
namespace Go.Proofs.Ytphbebcbbfbgpab
open Go Go.RowKit

theorem keep1_any (x : Itm) (data : ByteArray) (b : Nat) (w : World) (hc : w.cell? ⟨b, 0, none⟩ = some (.string data)) (hb : b < w.heap.size) :
    Calls Try.prog 45 #[.agg #[.int .i64 x.id, .string x.data, .int .i64 x.refs], .pointer (some ⟨b, 0, none⟩)] w fun e w' => e = .returned (.bool (decide (x.data = data))) ∧ Below w.heap.size w w' := by
  obtain ⟨y, d, r⟩ := x
  have hl := (World.cell?_alloc_lt w (.cells #[.int .i64 y, .string d, .int .i64 r] 61) (a := ⟨b, 0, none⟩) hb).trans hc
  have hbe : Below w.heap.size w (w.alloc (.cells #[.int .i64 y, .string d, .int .i64 r] 61)) := (Below.refl _ _).alloc (Nat.le_refl _) _
  dsimp only
  by_cases h : d = data
  · subst h
    rw [decide_eq_true rfl]
    go_enter Try.func45, Try.ntmps45
    go_wp2
    go_ret
    exact ⟨rfl, hbe⟩
  · have hne := toList_beq_no h
    rw [decide_eq_false h]
    go_enter Try.func45, Try.ntmps45
    go_wp2
    go_ret
    exact ⟨rfl, hbe⟩

/-- the first place where the test strikes; -1: none -/
def firstIx (p : Itm → Bool) (ls : List Itm) : Int := match ls.findIdx? p with
  | some k => k
  | none => -1
theorem firstIx_some {p : Itm → Bool} {ls : List Itm} {k : Nat} (hk : k < ls.length) (h : p ls[k] = true) (hb : ∀ j (hj : j < k), p (ls[j]'(by omega)) = false) : firstIx p ls = k := by
  have : ls.findIdx? p = some k := by
    rw [List.findIdx?_eq_some_iff_getElem]
    exact ⟨hk, h, fun j hj => by rw [hb j hj]; simp⟩
  rw [firstIx, this]
theorem firstIx_none {p : Itm → Bool} {ls : List Itm} (h : ∀ x ∈ ls, p x = false) : firstIx p ls = -1 := by
  have : ls.findIdx? p = none := by
    rw [List.findIdx?_eq_none_iff]; exact h
  rw [firstIx, this]

set_option maxHeartbeats 2000000 in
theorem index_any (g : Nat) (cb : Array Value) (p : Itm → Bool) (A : Option Addr) (n c : Nat) (ls : List Itm) (w : World) (h : Rep w w.heap.size 3 Itm.cell A n ls) (hn : n ≤ 24)
    (eg : ∀ args w, (callFunc g args).run Try.prog w = .ok (.enter g args) w)
    (hc : ∀ x ∈ ls, ∀ W, Below w.heap.size w W → Calls Try.prog g (#[.agg #[.int .i64 x.id, .string x.data, .int .i64 x.refs]] ++ cb) W fun e w' => e = .returned (.bool (p x)) ∧ Below W.heap.size W w') :
    Calls Try.prog 44 #[.slice A n c, .func (.func g) #[] cb] w fun e w' => e = .returned (.int .i64 (firstIx p ls)) ∧ Below w.heap.size w w' := by
  have hlen := h.1
  have H := Lib.hid h
  have HL := Lib.hid hlen
  have HC := Lib.hid hc
  clear h hlen hc
  go_enter Try.func44, Try.ntmps44
  go_wp2
  go_loopw [8] (fun t wr => ∃ k : Nat, k ≤ n ∧ t = .int .i64 k ∧ Below w.heap.size w wr ∧ Hid (∀ j (_ : j < k) (hj : j < ls.length), p ls[j] = false)) (fun t _ => n - (intOf t).toNat)
  case atStart => exact ⟨0, by omega, rfl, Below.refl _ _, Lib.hid (fun j h _ => absurd h (by omega))⟩
  case round =>
    obtain ⟨k, hk, rfl, hbel, hall⟩ := hrel
    have HB := Lib.hid hbel
    clear hbel
    by_cases hlt : k < n
    · have hkl : k < ls.length := by have := HL.out; omega
      obtain ⟨b, off, rfl, hb, c0, c1, c2⟩ := items_at (k := k) (H.out.below HB.out (Nat.le_refl _)) hlt
      obtain ⟨x, hx⟩ : ∃ x, ls[k]'hkl = x := ⟨_, rfl⟩
      rw [hx] at c0 c1 c2
      have hcx := HC.out x (by rw [← hx]; exact List.getElem_mem hkl) wr HB.out
      have HX := Lib.hid hx
      cases hpx : p x with
      | true =>
        rw [hpx] at hcx
        have hfin : firstIx p ls = k := firstIx_some hkl (by rw [hx]; exact hpx) (fun j hj => hall.out j hj (by omega))
        have HF := Lib.hid hfin
        have HCX := Lib.hid hcx
        clear hx hcx hpx hfin
        go_wp2_with (go_at_fn g; refine HCX.out.mono ?_; rintro e w' ⟨rfl, hb1⟩)
        go_ret
        exact ⟨by rw [HF.out]; rfl, HB.out.trans (hb1.mono HB.out.size)⟩
      | false =>
        rw [hpx] at hcx
        have hnew : ∀ j (_ : j < k + 1) (hj : j < ls.length), p ls[j] = false := by
          intro j h1 h2
          by_cases hjk : j = k
          · subst hjk; rw [hx]; exact hpx
          · exact hall.out j (by omega) h2
        have HN := Lib.hid hnew
        have HCX := Lib.hid hcx
        clear hx hcx hpx hnew
        go_wp2_with (go_at_fn g; refine HCX.out.mono ?_; rintro e w' ⟨rfl, hb1⟩)
        have HB1 := Lib.hid (HB.out.trans (hb1.mono HB.out.size))
        go_roundw
        case rel => exact ⟨k + 1, by omega, by go_num, HB1.out, HN⟩
        case measure => simp [intOf]; omega
    · have hfin : firstIx p ls = -1 := firstIx_none (fun x hx => by
        obtain ⟨j, hj, rfl⟩ := List.getElem_of_mem hx
        exact hall.out j (by have := HL.out; omega) hj)
      have HF := Lib.hid hfin
      clear hfin
      go_wp2
      go_ret
      exact ⟨by rw [HF.out]; rfl, HB.out⟩
end Go.Proofs.Ytphbebcbbfbgpab
