/- slices.BinarySearchFunc over writes; what an engine finds. saltcellarref.with: a write put among writes. -/
import Derived.Test.YtphbebcbbfbgpabGet
import Derived.Test.YtphbebcbbfbgpabRefRecord
import Derived.Test.YtphbebcbbfbgpabPlainHouse
import Derived.Test.YtphbebcbbfbgpabReadOf
namespace Go.Proofs.Ytphbebcbbfbgpab
open Go Go.RowKit

def MonoW (ls : List Wrt) (cft : Wrt → Int) : Prop := ∀ a b (_ : a ≤ b) (hb : b < ls.length), cft ls[b] < 0 → cft (ls[a]'(by omega)) < 0
def SearchPostW (ls : List Wrt) (cft : Wrt → Int) (e : Ending) : Prop :=
  ∃ q, q ≤ ls.length ∧ (MonoW ls cft → (∀ t (_ : t < q) (ht : t < ls.length), cft ls[t] < 0) ∧ (∀ t (_ : q ≤ t) (ht : t < ls.length), 0 ≤ cft ls[t])) ∧
    ∃ b : Bool, (b = true ↔ ∃ h : q < ls.length, cft ls[q] = 0) ∧ e = .returned (.tuple #[.int .i64 q, .bool b])

set_option maxHeartbeats 4000000 in
theorem search_anyW (g : Nat) (cft : Wrt → Int) (A : Option Addr) (n c : Nat) (id : Int) (ls : List Wrt) (w : World) (h : Rep w w.heap.size 2 Wrt.cell A n ls) (hn : n ≤ 24)
    (eg : ∀ args w, (callFunc g args).run Try.prog w = .ok (.enter g args) w)
    (hc : ∀ x ∈ ls, ∀ W, Below w.heap.size w W → Calls Try.prog g #[.agg #[.int .i64 x.block, .string x.data], .int .i64 id] W fun e w' => e = .returned (.int .i64 (cft x)) ∧ Below W.heap.size W w') :
    Calls Try.prog 97 #[.slice A n c, .int .i64 id, .func (.func g) #[] #[]] w fun e w' => SearchPostW ls cft e ∧ Below w.heap.size w w' := by
  have hlen := h.1
  have H := Lib.hid h
  have HL := Lib.hid hlen
  have HC := Lib.hid hc
  clear h hlen hc
  go_enter Try.func97, Try.ntmps97
  go_wp2
  go_loopw [9, 10] (fun v t wr => ∃ lo hi : Nat, v = .int .i64 lo ∧ t = .int .i64 hi ∧ lo ≤ hi ∧ hi ≤ n ∧ Below w.heap.size w wr ∧ Hid (MonoW ls cft → (∀ t (_ : t < lo) (ht : t < ls.length), cft ls[t] < 0) ∧ (∀ t (_ : hi ≤ t) (ht : t < ls.length), 0 ≤ cft ls[t]))) (fun v t _ => (intOf t).toNat - (intOf v).toNat)
  case atStart => exact ⟨0, n, rfl, rfl, by omega, by omega, Below.refl _ _, Lib.hid (fun _ => ⟨fun t ht => absurd ht (by omega), fun t h1 h2 => absurd h2 (by have := HL.out; omega)⟩)⟩
  case round =>
    obtain ⟨lo, hi, rfl, rfl, hlh, hin, hbel, hinv⟩ := hrel
    have HB := Lib.hid hbel
    clear hbel
    by_cases hlt : lo < hi
    · have hml : (lo + hi) / 2 < ls.length := by have := HL.out; omega
      obtain ⟨b, off, rfl, hb, c0, c1⟩ := writes_at (k := (lo + hi) / 2) (H.out.below HB.out (Nat.le_refl _)) (by omega)
      obtain ⟨x, hx⟩ : ∃ x, ls[(lo + hi) / 2]'hml = x := ⟨_, rfl⟩
      rw [hx] at c0 c1
      have hcx := HC.out x (by rw [← hx]; exact List.getElem_mem hml) wr HB.out
      have HX := Lib.hid hx
      obtain ⟨y, hy⟩ : ∃ y, cft x = y := ⟨_, rfl⟩
      rw [hy] at hcx
      have HY := Lib.hid hy
      have HCX := Lib.hid hcx
      clear hx hcx hy
      by_cases hyx : y < 0
      · have dy := decide_eq_true hyx
        go_wp2_with (go_at_fn g; refine HCX.out.mono ?_; rintro e w' ⟨rfl, hb1⟩)
        have HB1 := Lib.hid (HB.out.trans (hb1.mono HB.out.size))
        have hnew : MonoW ls cft → (∀ t (_ : t < (lo + hi) / 2 + 1) (ht : t < ls.length), cft ls[t] < 0) ∧ (∀ t (_ : hi ≤ t) (ht : t < ls.length), 0 ≤ cft ls[t]) :=
          fun hm => ⟨fun t h1 h2 => hm t ((lo + hi) / 2) (by omega) hml (by rw [HX.out, HY.out]; exact hyx), (hinv.out hm).2⟩
        have HN := Lib.hid hnew
        clear hnew
        go_roundw
        case rel => exact ⟨(lo + hi) / 2 + 1, hi, by rw [show ((lo : Int) + (hi : Int)) / 2 + 1 = (((lo + hi) / 2 + 1 : Nat) : Int) by omega], rfl, by omega, hin, HB1.out, HN⟩
        case measure => simp [intOf]; omega
      · have dy := decide_eq_false hyx
        go_wp2_with (go_at_fn g; refine HCX.out.mono ?_; rintro e w' ⟨rfl, hb1⟩)
        have HB1 := Lib.hid (HB.out.trans (hb1.mono HB.out.size))
        have hnew : MonoW ls cft → (∀ t (_ : t < lo) (ht : t < ls.length), cft ls[t] < 0) ∧ (∀ t (_ : (lo + hi) / 2 ≤ t) (ht : t < ls.length), 0 ≤ cft ls[t]) :=
          fun hm => ⟨(hinv.out hm).1, fun t h1 h2 => Int.not_lt.1 fun h => by have := hm ((lo + hi) / 2) t h1 h2 h; rw [HX.out, HY.out] at this; omega⟩
        have HN := Lib.hid hnew
        clear hnew
        go_roundw
        case rel => exact ⟨lo, (lo + hi) / 2, rfl, by rw [show ((lo : Int) + (hi : Int)) / 2 = (((lo + hi) / 2 : Nat) : Int) by omega], by omega, by omega, HB1.out, HN⟩
        case measure => simp [intOf]; omega
    · obtain rfl : hi = lo := by omega
      by_cases hln : hi < n
      · have hml : hi < ls.length := by have := HL.out; omega
        obtain ⟨b, off, rfl, hb, c0, c1⟩ := writes_at (k := hi) (H.out.below HB.out (Nat.le_refl _)) hln
        obtain ⟨x, hx⟩ : ∃ x, ls[hi]'hml = x := ⟨_, rfl⟩
        rw [hx] at c0 c1
        have hcx := HC.out x (by rw [← hx]; exact List.getElem_mem hml) wr HB.out
        have HX := Lib.hid hx
        obtain ⟨y, hy⟩ : ∃ y, cft x = y := ⟨_, rfl⟩
        rw [hy] at hcx
        have HY := Lib.hid hy
        have HCX := Lib.hid hcx
        clear hx hcx hy
        have dl : decide ((hi : Int) < (n : Int)) = true := by simp; omega
        go_wp2_with (go_at_fn g; refine HCX.out.mono ?_; rintro e w' ⟨rfl, hb1⟩)
        go_ret2
        exact ⟨⟨hi, by omega, hinv.out, y == 0, by rw [beq_iff_eq]; exact ⟨fun h => ⟨hml, by rw [HX.out, HY.out]; exact h⟩, fun ⟨_, h⟩ => by rw [HX.out, HY.out] at h; exact h⟩, rfl⟩, HB.out.trans (hb1.mono HB.out.size)⟩
      · have dl : decide ((hi : Int) < (n : Int)) = false := by simp; omega
        go_wp2
        go_ret2
        exact ⟨⟨hi, by have := HL.out; omega, hinv.out, false, by have := HL.out; exact ⟨fun h => absurd h (by simp), fun h => absurd h.1 (by omega)⟩, rfl⟩, HB.out⟩


def cmpW (b : Int) (x : Wrt) : Int := IntKind.i64.wrap (x.block - b)
theorem find1_any (x : Wrt) (b : Int) (w : World) : Calls Try.prog 98 #[.agg #[.int .i64 x.block, .string x.data], .int .i64 b] w fun e w' => e = .returned (.int .i64 (cmpW b x)) ∧ Below w.heap.size w w' := by
  obtain ⟨y, d⟩ := x
  have hb : Below w.heap.size w (w.alloc (.cells #[.int .i64 y, .string d] 77)) := (Below.refl _ _).alloc (Nat.le_refl _) _
  unfold cmpW
  dsimp only
  go_enter Try.func98, Try.ntmps98
  go_wp2
  go_ret
  exact ⟨by first | rfl | simp [IntKind.wrap_i64, wrap64], hb⟩

theorem lowIx_eq {b : Int} : ∀ {ws : List Wrt} {q : Nat}, q ≤ ws.length → (∀ t (_ : t < q) (ht : t < ws.length), ws[t].block < b) → (∀ t (_ : q ≤ t) (ht : t < ws.length), b ≤ ws[t].block) → lowIx ws b = q
  | [], q, hq, _, _ => by
    have : q = 0 := by simpa using hq
    subst this; rfl
  | x :: r, 0, _, _, h2 => by
    have := h2 0 (Nat.le_refl _) (by simp)
    simp only [List.getElem_cons_zero] at this
    exact lowIx_ge (by omega)
  | x :: r, q + 1, hq, h1, h2 => by
    have := h1 0 (by omega) (by simp)
    simp only [List.getElem_cons_zero] at this
    rw [lowIx_lt this, lowIx_eq (ws := r) (q := q) (by simpa using hq) (fun t ht hl => by have := h1 (t + 1) (by omega) (by simpa using hl); simpa using this) (fun t ht hl => by have := h2 (t + 1) (by omega) (by simpa using hl); simpa using this)]
theorem there_no {ws : List Wrt} {b : Int} (h : ∀ x ∈ ws, x.block ≠ b) : thereB ws b = false := by
  cases ht : thereB ws b with
  | false => rfl
  | true =>
    obtain ⟨hl, he⟩ := there_mem ht
    exact absurd he (h _ (List.getElem_mem hl))

/-- where a block is among writes, and whether it is there -/
def FindPost (ws : List Wrt) (b : Int) (e : Ending) : Prop := ∃ q : Nat, e = .returned (.tuple #[.int .i64 q, .bool (thereB ws b)]) ∧ (0 ≤ b → b ≤ 1000 → q = lowIx ws b)
theorem find_of {ws : List Wrt} {b : Int} {e : Ending} (hb1 : -9223372036854775808 ≤ b) (hb2 : b ≤ 9223372036854775807) (ha : AscW ws) (hr : ∀ x ∈ ws, 0 ≤ x.block ∧ x.block < 1000) (h : SearchPostW ws (cmpW b) e) : FindPost ws b e := by
  obtain ⟨q, hq, hm, t, ht, rfl⟩ := h
  by_cases hb : 0 ≤ b ∧ b ≤ 1000
  · have hc : ∀ x ∈ ws, cmpW b x = x.block - b := fun x hx => by
      have := hr x hx
      rw [cmpW, IntKind.wrap_i64]; omega
    have hmono : MonoW ws (cmpW b) := by
      intro i j hij hj hlt
      rw [hc _ (List.getElem_mem _)] at hlt ⊢
      rcases Nat.lt_or_eq_of_le hij with h | h
      · have := List.pairwise_iff_getElem.1 ha i j (by omega) hj h; omega
      · subst h; exact hlt
    obtain ⟨h1, h2⟩ := hm hmono
    have hlow : lowIx ws b = q := lowIx_eq hq (fun t ht hl => by have := h1 t ht hl; rw [hc _ (List.getElem_mem _)] at this; omega) (fun t ht hl => by have := h2 t ht hl; rw [hc _ (List.getElem_mem _)] at this; omega)
    have htb : t = thereB ws b := by
      rw [Bool.eq_iff_iff, ht]
      constructor
      · rintro ⟨hl, he⟩
        rw [hc _ (List.getElem_mem _)] at he
        unfold thereB
        rw [hlow, List.getElem?_eq_getElem hl]
        simp; omega
      · intro h
        obtain ⟨hl, he⟩ := there_mem h
        have hl' : q < ws.length := by omega
        refine ⟨hl', ?_⟩
        rw [hc _ (List.getElem_mem _)]
        simp only [hlow] at he
        omega
    exact ⟨q, by rw [htb], fun _ _ => hlow.symm⟩
  · have hno : ∀ x ∈ ws, cmpW b x ≠ 0 := fun x hx => by
      have := hr x hx
      rw [cmpW, IntKind.wrap_i64]; omega
    have hnt : ∀ x ∈ ws, x.block ≠ b ∨ (b = 1000) ∨ True := fun _ _ => .inr (.inr trivial)
    have htf : t = false := by
      cases t with
      | false => rfl
      | true =>
        obtain ⟨hl, he⟩ := ht.1 rfl
        exact absurd he (hno _ (List.getElem_mem hl))
    refine ⟨q, ?_, fun h0 h1 => absurd ⟨h0, h1⟩ hb⟩
    rw [htf, there_no (fun x hx e => by have := hr x hx; omega)]
end Go.Proofs.Ytphbebcbbfbgpab

namespace Go.Proofs.Ytphbebcbbfbgpab
open Go Go.RowKit

theorem withF_len (x : Wrt) : ∀ (d : Bool) (l : List Wrt), (withF x d l).length ≤ l.length + (if d then 0 else 1)
  | true, [] => by simp [withF]
  | false, [] => by simp [withF]
  | d, y :: r => by
    have := withF_len x (d || decide (y.block ≥ x.block)) r
    rw [withF, List.length_append, List.length_append]
    cases d <;> by_cases h : y.block ≥ x.block <;> by_cases h2 : y.block ≠ x.block <;> simp [h, h2] at this ⊢ <;> omega
/-- A call hands back writes of its own. -/
def WithPost (w : World) (ls : List Wrt) (e : Ending) (w' : World) : Prop :=
  ∃ A c, e = .returned (.slice A ls.length c) ∧ w'.ownsRow w.heap.size 77 2 (.slice A ls.length c) ls.length (flat Wrt.cell 2 ls) ∧ Below w.heap.size w w'

set_option maxRecDepth 20000 in
set_option maxHeartbeats 8000000 in
theorem with_any (A : Option Addr) (n c : Nat) (b : Int) (d : ByteArray) (ls : List Wrt) (w : World) (h : Rep w w.heap.size 2 Wrt.cell A n ls) (hn : n ≤ 12) :
    Calls Try.prog 85 #[.slice A n c, .agg #[.int .i64 b, .string d]] w (WithPost w (withF ⟨b, d⟩ false ls)) := by
  obtain ⟨w0, hw0⟩ : ∃ w0, w.alloc (.cells #[.int .i64 b, .string d] 77) = w0 := ⟨_, rfl⟩
  have hb0 : Below w.heap.size w w0 := by rw [← hw0]; exact (Below.refl _ _).alloc (Nat.le_refl _) _
  have hs0 : w0.heap.size = w.heap.size + 1 := by rw [← hw0]; simp
  have hd0 : w0.cell? ⟨w.heap.size, 0, none⟩ = some (.int .i64 b) := by rw [← hw0]; simp [go_sem]
  have hd1 : w0.cell? ⟨w.heap.size, 1, none⟩ = some (.string d) := by rw [← hw0]; simp [go_sem]
  have hbox : ∀ W, Below (w.heap.size + 1) w0 W → W.cell? ⟨w.heap.size, 0, none⟩ = some (.int .i64 b) ∧ W.cell? ⟨w.heap.size, 1, none⟩ = some (.string d) := fun W hW =>
    ⟨(hW.cell (by simp)).trans hd0, (hW.cell (by simp)).trans hd1⟩
  have hrp : ∀ W, Below (w.heap.size + 1) w0 W → Rep W w.heap.size 2 Wrt.cell A n ls := fun W hW => (h.below hb0 (Nat.le_refl _)).below hW (by omega)
  have hend : ∀ W, Below (w.heap.size + 1) w0 W → Below w.heap.size w W := fun W hW => hb0.trans (hW.mono (by omega))
  have hst : Below (w.heap.size + 1) w0 w0 := by rw [← hs0]; exact Below.refl _ _
  have HBOX := Lib.hid hbox
  have HRP := Lib.hid hrp
  have HEND := Lib.hid hend
  have HST := Lib.hid hst
  have HW0 := Lib.hid hw0
  have HL := Lib.hid h.1
  have HS0 := Lib.hid hs0
  obtain ⟨i0, hi, hz0, hz1, hz2⟩ := info_parts infoWrite
  have HI := Lib.hid hi
  have HZ0 := Lib.hid hz0
  have HZ1 := Lib.hid hz1
  have HZ2 := Lib.hid hz2
  obtain ⟨z, hz⟩ : ∃ z, withF ⟨b, d⟩ false ls = z := ⟨_, rfl⟩
  have hzl : z.length ≤ n + 1 := by have := withF_len ⟨b, d⟩ false ls; rw [hz] at this; have := h.1; simp at *; omega
  rw [hz]
  have HZ := Lib.hid hz
  have HZL := Lib.hid hzl
  clear hw0 hb0 hs0 hd0 hd1 hbox hrp hend hst h hi hz0 hz1 hz2 hz hzl
  go_enter Try.func85, Try.ntmps85
  go_wp2
  rw [HW0.out]
  go_loopw [5, 6, 7] (fun v q t wr => ∃ (i : Nat) (dn : Bool) (out : List Wrt), i ≤ n ∧ out.length ≤ 2 * i ∧ t = .int .i64 i ∧ q = .bool dn ∧ wr.ownsRow (w.heap.size + 1) 77 2 v out.length (flat Wrt.cell 2 out) ∧ Below (w.heap.size + 1) w0 wr ∧ Hid (z = out ++ withF ⟨b, d⟩ dn (ls.drop i))) (fun _ _ t _ => n - (intOf t).toNat)
  case atStart => exact ⟨0, false, [], Nat.zero_le _, Nat.le_refl _, rfl, rfl, World.ownsRow_nil _ _ _ _, HST.out, Lib.hid (by rw [List.drop_zero, List.nil_append]; exact HZ.out.symm)⟩
  case round =>
    obtain ⟨i, dn, out, hi, hol, rfl, rfl, hown, hbel, hout⟩ := hrel
    have HO := Lib.hid hown
    have HB := Lib.hid hbel
    have HLT := Lib.hid (fun k hk => (HO.out.lt k hk).1)
    obtain ⟨e0, e1⟩ := HBOX.out _ hbel
    by_cases hin : i < n
    · have hil : i < ls.length := by have := HL.out; omega
      obtain ⟨g, off, rfl, hgb, c0, c1⟩ := writes_at (k := i) (HRP.out _ hbel) hin
      have hstep := List.drop_eq_getElem_cons hil
      have hxs : ∀ W, Below (w.heap.size + 1) w0 W → W.cell? ⟨g, off + i * 2, none⟩ = some (.int .i64 (ls[i]'hil).block) ∧ W.cell? ⟨g, off + i * 2 + 1, none⟩ = some (.string (ls[i]'hil).data) := fun W hW => by
        obtain ⟨_, _, hA, _, x0, x1⟩ := writes_at (k := i) (HRP.out _ hW) hin
        simp only [Option.some.injEq, Addr.mk.injEq, and_true] at hA
        obtain ⟨rfl, rfl⟩ := hA
        exact ⟨x0, x1⟩
      obtain ⟨x, hx⟩ : ∃ x, ls[i]'hil = x := ⟨_, rfl⟩
      rw [hx] at c0 c1 hstep hxs
      obtain ⟨xb, xd⟩ := x
      dsimp only at c0 c1 hxs
      have hinv := hout.out
      rw [hstep, withF] at hinv
      have HINV := Lib.hid hinv
      have HXS := Lib.hid hxs
      clear hx hown hbel hgb hstep hxs hinv hout
      cases dn with
      | true =>
        by_cases hne : xb = b
        · have d2 : decide (xb ≠ b) = false := decide_eq_false (by omega)
          have d3 : (xb != b) = false := by simp; omega
          have hnew : z = out ++ withF ⟨b, d⟩ true (ls.drop (i + 1)) := by
            rw [HINV.out]
            simp [show (xb ≥ b) = True from eq_true (by omega), show (xb = b) = True from eq_true (by omega)]
          have HNEW := Lib.hid hnew
          clear hnew
          go_wp2
          go_quiet (fail)
          go_wp2
          go_quiet (fail)
          go_wp2
          go_roundw
          case rel => exact ⟨i + 1, true, _, by omega, by first | omega | (simp only [List.length_append, List.length_cons, List.length_nil]; omega), by go_num, rfl, own_below HO.out (below_drewN (Below.refl _ _) _), (below_drewN HB.out _), HNEW⟩
          case measure => simp [intOf]; omega
        · by_cases hge : xb ≥ b
          · have d2 : decide (xb ≠ b) = true := decide_eq_true (by omega)
            have d3 : (xb != b) = true := by simp; omega
            have hnew : z = (out ++ [⟨xb, xd⟩]) ++ withF ⟨b, d⟩ true (ls.drop (i + 1)) := by
              rw [HINV.out]
              simp [show (xb ≥ b) = True from eq_true (by omega), show (xb = b) = False from eq_false (by omega)]
            have HNEW := Lib.hid hnew
            clear hnew
            go_wp2
            go_quiet (fail)
            go_wp2
            go_quiet (fail)
            go_wp2_with (at_builtin; refine wpList_append_own _ rfl (.tmp 38) (.tmp 43) 38 rfl (w.heap.size + 1) 77 i0 _ 2 24 Try.underlying38 HI.out HZ0.out HZ1.out HZ2.out rfl (by decide) _ _ _ rfl ((own_below HO.out (below_drewN (Below.refl _ _) _)).alloc _) ⟨wr.heap.size, 0, none⟩ 1 1 [.int .i64 xb, .string xd] rfl rfl (World.news_of_block (cs := #[.int .i64 xb, .string xd]) (t := 77) (fr := (0, 0)) (heap_alloc_new (wr.drewN _) _)) (by simp [Value.oneCell']) (by unfold maxLen; first | omega | (simp only [List.length_append, List.length_cons, List.length_nil]; omega)) (by first | omega | (simp only [List.length_append, List.length_cons, List.length_nil]; omega)) (by have h1 := HB.out.size; have h2 := HS0.out; first | (simp; omega) | (simp [World.drewN]; omega)) ?_; intro v' w2 hown2 hgr2 _)
            have HB4 := Lib.hid (((below_drewN HB.out _).alloc (by have := HB.out.size; have := HS0.out; simp; omega) _).grown hgr2 (by have := HB.out.size; have := HS0.out; simp; omega) HLT.out)
            have ho4 : w2.ownsRow (w.heap.size + 1) 77 2 v' (out ++ [(⟨xb, xd⟩ : Wrt)]).length (flat Wrt.cell 2 (out ++ [⟨xb, xd⟩])) := by
              rw [flat_append, wrt_flat1, List.length_append]; exact hown2
            have HO4 := Lib.hid ho4
            clear hown2 hgr2 ho4
            go_wp2
            go_roundw
            case rel => exact ⟨i + 1, true, _, by omega, by first | omega | (simp only [List.length_append, List.length_cons, List.length_nil]; omega), by go_num, rfl, HO4.out, HB4.out, HNEW⟩
            case measure => simp [intOf]; omega
          · have d2 : decide (xb ≠ b) = true := decide_eq_true (by omega)
            have d3 : (xb != b) = true := by simp; omega
            have hnew : z = (out ++ [⟨xb, xd⟩]) ++ withF ⟨b, d⟩ true (ls.drop (i + 1)) := by
              rw [HINV.out]
              simp [show (xb ≥ b) = False from eq_false (by omega), show (xb = b) = False from eq_false (by omega)]
            have HNEW := Lib.hid hnew
            clear hnew
            go_wp2
            go_quiet (fail)
            go_wp2
            go_quiet (fail)
            go_wp2_with (at_builtin; refine wpList_append_own _ rfl (.tmp 38) (.tmp 43) 38 rfl (w.heap.size + 1) 77 i0 _ 2 24 Try.underlying38 HI.out HZ0.out HZ1.out HZ2.out rfl (by decide) _ _ _ rfl ((own_below HO.out (below_drewN (Below.refl _ _) _)).alloc _) ⟨wr.heap.size, 0, none⟩ 1 1 [.int .i64 xb, .string xd] rfl rfl (World.news_of_block (cs := #[.int .i64 xb, .string xd]) (t := 77) (fr := (0, 0)) (heap_alloc_new (wr.drewN _) _)) (by simp [Value.oneCell']) (by unfold maxLen; first | omega | (simp only [List.length_append, List.length_cons, List.length_nil]; omega)) (by first | omega | (simp only [List.length_append, List.length_cons, List.length_nil]; omega)) (by have h1 := HB.out.size; have h2 := HS0.out; first | (simp; omega) | (simp [World.drewN]; omega)) ?_; intro v' w2 hown2 hgr2 _)
            have HB4 := Lib.hid (((below_drewN HB.out _).alloc (by have := HB.out.size; have := HS0.out; simp; omega) _).grown hgr2 (by have := HB.out.size; have := HS0.out; simp; omega) HLT.out)
            have ho4 : w2.ownsRow (w.heap.size + 1) 77 2 v' (out ++ [(⟨xb, xd⟩ : Wrt)]).length (flat Wrt.cell 2 (out ++ [⟨xb, xd⟩])) := by
              rw [flat_append, wrt_flat1, List.length_append]; exact hown2
            have HO4 := Lib.hid ho4
            clear hown2 hgr2 ho4
            go_wp2
            go_roundw
            case rel => exact ⟨i + 1, true, _, by omega, by first | omega | (simp only [List.length_append, List.length_cons, List.length_nil]; omega), by go_num, rfl, HO4.out, HB4.out, HNEW⟩
            case measure => simp [intOf]; omega
      | false =>
        by_cases hne : xb = b
        · have d1 : decide (xb ≥ b) = true := decide_eq_true (by omega)
          have d2 : decide (xb ≠ b) = false := decide_eq_false (by omega)
          have d3 : (xb != b) = false := by simp; omega
          have hnew : z = (out ++ [⟨b, d⟩]) ++ withF ⟨b, d⟩ true (ls.drop (i + 1)) := by
            rw [HINV.out]
            simp [show (xb ≥ b) = True from eq_true (by omega), show (xb = b) = True from eq_true (by omega)]
          have HNEW := Lib.hid hnew
          clear hnew
          go_wp2
          go_quiet (fail)
          go_wp2_with (at_builtin; refine wpList_append_own _ rfl (.tmp 26) (.tmp 28) 38 rfl (w.heap.size + 1) 77 i0 _ 2 24 Try.underlying38 HI.out HZ0.out HZ1.out HZ2.out rfl (by decide) _ _ _ rfl ((own_below HO.out (below_drewN (Below.refl _ _) _)).alloc _) ⟨wr.heap.size, 0, none⟩ 1 1 [.int .i64 b, .string d] rfl rfl (World.news_of_block (cs := #[.int .i64 b, .string d]) (t := 77) (fr := (0, 0)) (heap_alloc_new (wr.drewN _) _)) (by simp [Value.oneCell']) (by unfold maxLen; first | omega | (simp only [List.length_append, List.length_cons, List.length_nil]; omega)) (by first | omega | (simp only [List.length_append, List.length_cons, List.length_nil]; omega)) (by have h1 := HB.out.size; have h2 := HS0.out; first | (simp; omega) | (simp [World.drewN]; omega)) ?_; intro v' w2 hown2 hgr2 _)
          have HB2 := Lib.hid (((below_drewN HB.out _).alloc (by have := HB.out.size; have := HS0.out; simp; omega) _).grown hgr2 (by have := HB.out.size; have := HS0.out; simp; omega) HLT.out)
          have ho2 : w2.ownsRow (w.heap.size + 1) 77 2 v' (out ++ [(⟨b, d⟩ : Wrt)]).length (flat Wrt.cell 2 (out ++ [⟨b, d⟩])) := by
            rw [flat_append, wrt_flat1, List.length_append]; exact hown2
          have HO2 := Lib.hid ho2
          have HLT2 := Lib.hid (fun k hk => (HO2.out.lt k hk).1)
          obtain ⟨f0, f1⟩ := HBOX.out _ HB2.out
          obtain ⟨y0, y1⟩ := HXS.out _ HB2.out
          clear hown2 hgr2 ho2
          obtain ⟨w3, rfl⟩ : ∃ w3, w3 = w2 := ⟨_, rfl⟩
          obtain ⟨v3, rfl⟩ : ∃ v3, v3 = v' := ⟨_, rfl⟩
          go_wp2
          go_quiet (fail)
          go_wp2
          go_roundw
          case rel => exact ⟨i + 1, true, _, by omega, by first | omega | (simp only [List.length_append, List.length_cons, List.length_nil]; omega), by go_num, rfl, own_below HO2.out (below_drewN (Below.refl _ _) _), (below_drewN HB2.out _), HNEW⟩
          case measure => simp [intOf]; omega
        · by_cases hge : xb ≥ b
          · have d1 : decide (xb ≥ b) = true := decide_eq_true (by omega)
            have d2 : decide (xb ≠ b) = true := decide_eq_true (by omega)
            have d3 : (xb != b) = true := by simp; omega
            have hnew : z = ((out ++ [⟨b, d⟩]) ++ [⟨xb, xd⟩]) ++ withF ⟨b, d⟩ true (ls.drop (i + 1)) := by
              rw [HINV.out]
              simp [show (xb ≥ b) = True from eq_true (by omega), show (xb = b) = False from eq_false (by omega)]
            have HNEW := Lib.hid hnew
            clear hnew
            go_wp2
            go_quiet (fail)
            go_wp2_with (at_builtin; refine wpList_append_own _ rfl (.tmp 26) (.tmp 28) 38 rfl (w.heap.size + 1) 77 i0 _ 2 24 Try.underlying38 HI.out HZ0.out HZ1.out HZ2.out rfl (by decide) _ _ _ rfl ((own_below HO.out (below_drewN (Below.refl _ _) _)).alloc _) ⟨wr.heap.size, 0, none⟩ 1 1 [.int .i64 b, .string d] rfl rfl (World.news_of_block (cs := #[.int .i64 b, .string d]) (t := 77) (fr := (0, 0)) (heap_alloc_new (wr.drewN _) _)) (by simp [Value.oneCell']) (by unfold maxLen; first | omega | (simp only [List.length_append, List.length_cons, List.length_nil]; omega)) (by first | omega | (simp only [List.length_append, List.length_cons, List.length_nil]; omega)) (by have h1 := HB.out.size; have h2 := HS0.out; first | (simp; omega) | (simp [World.drewN]; omega)) ?_; intro v' w2 hown2 hgr2 _)
            have HB2 := Lib.hid (((below_drewN HB.out _).alloc (by have := HB.out.size; have := HS0.out; simp; omega) _).grown hgr2 (by have := HB.out.size; have := HS0.out; simp; omega) HLT.out)
            have ho2 : w2.ownsRow (w.heap.size + 1) 77 2 v' (out ++ [(⟨b, d⟩ : Wrt)]).length (flat Wrt.cell 2 (out ++ [⟨b, d⟩])) := by
              rw [flat_append, wrt_flat1, List.length_append]; exact hown2
            have HO2 := Lib.hid ho2
            have HLT2 := Lib.hid (fun k hk => (HO2.out.lt k hk).1)
            obtain ⟨f0, f1⟩ := HBOX.out _ HB2.out
            obtain ⟨y0, y1⟩ := HXS.out _ HB2.out
            clear hown2 hgr2 ho2
            obtain ⟨w3, rfl⟩ : ∃ w3, w3 = w2 := ⟨_, rfl⟩
            obtain ⟨v3, rfl⟩ : ∃ v3, v3 = v' := ⟨_, rfl⟩
            go_wp2
            go_quiet (fail)
            go_wp2_with (at_builtin; refine wpList_append_own _ rfl (.tmp 38) (.tmp 43) 38 rfl (w.heap.size + 1) 77 i0 _ 2 24 Try.underlying38 HI.out HZ0.out HZ1.out HZ2.out rfl (by decide) _ _ _ rfl ((own_below HO2.out (below_drewN (Below.refl _ _) _)).alloc _) ⟨w3.heap.size, 0, none⟩ 1 1 [.int .i64 xb, .string xd] rfl rfl (World.news_of_block (cs := #[.int .i64 xb, .string xd]) (t := 77) (fr := (0, 0)) (heap_alloc_new (w3.drewN _) _)) (by simp [Value.oneCell']) (by unfold maxLen; first | omega | (simp only [List.length_append, List.length_cons, List.length_nil]; omega)) (by first | omega | (simp only [List.length_append, List.length_cons, List.length_nil]; omega)) (by have h1 := HB2.out.size; have h2 := HS0.out; first | (simp; omega) | (simp [World.drewN]; omega)) ?_; intro v' w2 hown2 hgr2 _)
            have HB4 := Lib.hid (((below_drewN HB2.out _).alloc (by have := HB2.out.size; have := HS0.out; simp; omega) _).grown hgr2 (by have := HB2.out.size; have := HS0.out; simp; omega) HLT2.out)
            have ho4 : w2.ownsRow (w.heap.size + 1) 77 2 v' ((out ++ [(⟨b, d⟩ : Wrt)]) ++ [(⟨xb, xd⟩ : Wrt)]).length (flat Wrt.cell 2 ((out ++ [(⟨b, d⟩ : Wrt)]) ++ [⟨xb, xd⟩])) := by
              rw [flat_append, wrt_flat1, List.length_append]; exact hown2
            have HO4 := Lib.hid ho4
            clear hown2 hgr2 ho4
            go_wp2
            go_roundw
            case rel => exact ⟨i + 1, true, _, by omega, by first | omega | (simp only [List.length_append, List.length_cons, List.length_nil]; omega), by go_num, rfl, HO4.out, HB4.out, HNEW⟩
            case measure => simp [intOf]; omega
          · have d1 : decide (xb ≥ b) = false := decide_eq_false (by omega)
            have d2 : decide (xb ≠ b) = true := decide_eq_true (by omega)
            have d3 : (xb != b) = true := by simp; omega
            have hnew : z = (out ++ [⟨xb, xd⟩]) ++ withF ⟨b, d⟩ false (ls.drop (i + 1)) := by
              rw [HINV.out]
              simp [show (xb ≥ b) = False from eq_false (by omega), show (xb = b) = False from eq_false (by omega)]
            have HNEW := Lib.hid hnew
            clear hnew
            go_wp2
            go_quiet (fail)
            go_wp2
            go_quiet (fail)
            go_wp2_with (at_builtin; refine wpList_append_own _ rfl (.tmp 38) (.tmp 43) 38 rfl (w.heap.size + 1) 77 i0 _ 2 24 Try.underlying38 HI.out HZ0.out HZ1.out HZ2.out rfl (by decide) _ _ _ rfl ((own_below HO.out (below_drewN (Below.refl _ _) _)).alloc _) ⟨wr.heap.size, 0, none⟩ 1 1 [.int .i64 xb, .string xd] rfl rfl (World.news_of_block (cs := #[.int .i64 xb, .string xd]) (t := 77) (fr := (0, 0)) (heap_alloc_new (wr.drewN _) _)) (by simp [Value.oneCell']) (by unfold maxLen; first | omega | (simp only [List.length_append, List.length_cons, List.length_nil]; omega)) (by first | omega | (simp only [List.length_append, List.length_cons, List.length_nil]; omega)) (by have h1 := HB.out.size; have h2 := HS0.out; first | (simp; omega) | (simp [World.drewN]; omega)) ?_; intro v' w2 hown2 hgr2 _)
            have HB4 := Lib.hid (((below_drewN HB.out _).alloc (by have := HB.out.size; have := HS0.out; simp; omega) _).grown hgr2 (by have := HB.out.size; have := HS0.out; simp; omega) HLT.out)
            have ho4 : w2.ownsRow (w.heap.size + 1) 77 2 v' (out ++ [(⟨xb, xd⟩ : Wrt)]).length (flat Wrt.cell 2 (out ++ [⟨xb, xd⟩])) := by
              rw [flat_append, wrt_flat1, List.length_append]; exact hown2
            have HO4 := Lib.hid ho4
            clear hown2 hgr2 ho4
            go_wp2
            go_roundw
            case rel => exact ⟨i + 1, false, _, by omega, by first | omega | (simp only [List.length_append, List.length_cons, List.length_nil]; omega), by go_num, rfl, HO4.out, HB4.out, HNEW⟩
            case measure => simp [intOf]; omega
    · have hfin := hout.out
      rw [List.drop_of_length_le (by have := HL.out; omega), withF] at hfin
      cases dn with
      | true =>
        have hz : z = out := by simpa using hfin
        have HZE := Lib.hid hz
        obtain ⟨A2, c2, rfl⟩ := own_slice2 hown
        clear hfin hown hbel hout hz
        go_wp2
        go_ret
        exact ⟨A2, c2, by rw [HZE.out]; rfl, by rw [HZE.out]; exact own_mono HO.out (Nat.le_succ _), HEND.out _ HB.out⟩
      | false =>
        have hz : z = out ++ [⟨b, d⟩] := by simpa using hfin
        have HZE := Lib.hid hz
        clear hfin hown hbel hout hz
        go_wp2_with (at_builtin; refine wpList_append_own _ rfl (.tmp 47) (.tmp 49) 38 rfl (w.heap.size + 1) 77 i0 _ 2 24 Try.underlying38 HI.out HZ0.out HZ1.out HZ2.out rfl (by decide) _ _ _ rfl ((HO.out).alloc _) ⟨wr.heap.size, 0, none⟩ 1 1 [.int .i64 b, .string d] rfl rfl (World.news_of_block (cs := #[.int .i64 b, .string d]) (t := 77) (fr := (0, 0)) (heap_alloc_new wr _)) (by simp [Value.oneCell']) (by unfold maxLen; first | omega | (simp only [List.length_append, List.length_cons, List.length_nil]; omega)) (by first | omega | (simp only [List.length_append, List.length_cons, List.length_nil]; omega)) (by have h1 := HB.out.size; have h2 := HS0.out; first | (simp; omega) | (simp [World.drewN]; omega)) ?_; intro v' w2 hown2 hgr2 _)
        have HB2 := Lib.hid ((HB.out.alloc (by have := HB.out.size; have := HS0.out; omega) _).grown hgr2 (by have := HB.out.size; have := HS0.out; simp; omega) HLT.out)
        have ho2 : w2.ownsRow (w.heap.size + 1) 77 2 v' z.length (flat Wrt.cell 2 z) := by
          rw [HZE.out, flat_append, wrt_flat1, List.length_append]; exact hown2
        obtain ⟨A2, c2, rfl⟩ := own_slice2 ho2
        have HO2 := Lib.hid ho2
        clear hown2 hgr2 ho2
        go_wp2
        go_ret
        exact ⟨A2, c2, rfl, own_mono HO2.out (Nat.le_succ _), HEND.out _ HB2.out⟩
end Go.Proofs.Ytphbebcbbfbgpab
