/- saltcellarref.VolumeCopy. -/
import Derived.Test.YtphbebcbbfbgpabItems
import Derived.Test.YtphbebcbbfbgpabApplyF
import Derived.Test.YtphbebcbbfbgpabBytes
namespace Go.Proofs.Ytphbebcbbfbgpab
open Go Go.RowKit

theorem step_append_rows {P : Program} {w : World} {ops : Array Oper} {o : Oper} {a : Act} {K : Act → World → Prop} {Q : Exit → Act → World → Prop} {E : Prop} {α : Type} {f : α → Nat → Value} (hgd : o.guard = none) (s x : Operand) (t : TypeId)
    (ho : o.op = .call { callee := .builtin .append, args := #[s, x], argTypes := #[t, t] })
    (e : TypeId) (i : TypeInfo) (z : Value) (size bytes : Nat) (ht : P.underlying t = some (.slice e)) (hi : P.info? e = some i) (hz : i.zero = some z) (hsize : i.size = size) (hby : i.bytes = bytes) (hzs : z.cells.size = size) (hsz : 0 < size)
    (A : Option Addr) (n c : Nat) (ls : List α) (hs : a.eval s = .slice none 0 0) (hx : a.eval x = .slice A n c) (B : Nat) (hr : Rep w B size f A n ls) (hnil : A = none → n = 0 ∧ c = 0) (h1 : ∀ u ∈ flat f size ls, u.oneCell' = true)
    (h63 : n ≤ maxLen) (hbytes : n * bytes ≤ 140737488355328)
    (h : ∀ A' c' w', w'.ownsRow w.heap.size e size (.slice A' n c') n (flat f size ls) → Below w.heap.size w w' → (A' = none → n = 0 ∧ c' = 0) → n ≤ c' → c' ≤ maxLen → K (a.put o.dst (.slice A' n c')) w') :
    if Region.wanted o (yielded ops a.tmps) = true then Oper.wp P o a w K Q else E := by
  have hn := hr.1
  cases A with
  | none =>
    obtain ⟨rfl, rfl⟩ := hnil rfl
    obtain rfl : ls = [] := List.eq_nil_of_length_eq_zero hn.symm
    have hrun := run_append_owned_none (P := P) (w := w) w.heap.size t o.type e i size ht hi (.slice none 0 0) 0 [] (World.ownsRow_nil _ _ _ _)
    exact step_append_run hgd s x t ho (.slice none 0 0) (.slice none 0 0) (.slice none 0 0) w hs hx hrun (h none 0 w (World.ownsRow_nil _ _ _ _) (Below.refl _ _) (fun _ => ⟨rfl, rfl⟩) (Nat.le_refl _) (by unfold maxLen; omega))
  | some ad =>
    refine step_append_own hgd s x t ho w.heap.size e i z size bytes ht hi hz hsize hby hzs hsz (.slice none 0 0) 0 [] hs (World.ownsRow_nil _ _ _ _) ad n c (flat f size ls) hx (by rw [flat_length, hn]) hr.flat_any h1 (by omega) (by rw [Nat.zero_add]; exact hbytes) (Nat.le_refl _) ?_
    intro v' w' hown hgr
    rw [Nat.zero_add, List.nil_append] at hown
    obtain ⟨A', c', rfl, hc1, hc2, hn'⟩ := own_form hown
    exact h A' c' w' hown ((Below.refl _ _).grown hgr (Nat.le_refl _) (by intro k hk; cases hk)) hn' hc1 hc2

set_option maxRecDepth 20000 in
set_option maxHeartbeats 2000000 in
theorem refCopy_any (A B : Option Addr) (n c m d : Nat) (ls : List Itm) (bs : List Int) (w : World) (h : Rep w w.heap.size 3 Itm.cell A n ls) (h' : Rep w w.heap.size 1 intCell B m bs)
    (hA : A = none → n = 0 ∧ c = 0) (hB : B = none → m = 0 ∧ d = 0) (hn : n * 32 ≤ 140737488355328) (hm : m * 8 ≤ 140737488355328) :
    Calls Try.prog 25 #[.agg #[.slice A n c, .slice B m d]] w (VolPost w n m ls bs) := by
  obtain ⟨i0, hi, hz0, hz1, hz2⟩ := info_parts infoItem
  have HI := Lib.hid hi
  have HZ0 := Lib.hid hz0
  have HZ1 := Lib.hid hz1
  have HZ2 := Lib.hid hz2
  obtain ⟨j0, gi, gz0, gz1, gz2⟩ := info_parts infoInt
  have GI := Lib.hid gi
  have GZ0 := Lib.hid gz0
  have GZ1 := Lib.hid gz1
  have GZ2 := Lib.hid gz2
  have H := Lib.hid h
  have H' := Lib.hid h'
  have HA := Lib.hid hA
  have HB := Lib.hid hB
  have hnx : n ≤ maxLen := by unfold maxLen; omega
  have hmx : m ≤ maxLen := by unfold maxLen; omega
  clear h h' hA hB hi hz0 hz1 hz2 gi gz0 gz1 gz2
  go_enter Try.func25, Try.ntmps25
  go_wp2
  have hf0 : CopyF w (.slice A n c) (.slice B m d) ((w.alloc (.cells #[.slice A n c, .slice B m d] 30)).alloc (.cells #[.slice none 0 0, .slice none 0 0] 30)).drew := by
    refine ⟨?_, ?_, ?_, ?_, ?_, ?_, by simp, (((Below.refl _ _).alloc (Nat.le_refl _) _).alloc (by simp) _).drew⟩
    all_goals simp [go_sem]
  have HF := Lib.hid hf0
  clear hf0
  go_region_law (first
    | (have HFc : Hid (CopyF w (.slice A n c) (.slice B m d) _) := (by assumption); refine step_append_rows rfl (.const (.slice none 0 0)) (.tmp 4) 22 rfl 61 i0 _ 3 32 Try.underlying22 HI.out HZ0.out HZ1.out HZ2.out rfl (by decide) A n c ls rfl (by simp [Act.eval]) _ (H.out.below HFc.out.be (Nat.le_refl _)) HA.out (itm_one ls) hnx hn ?_; intro A1 k1 w1 hown1 hb1 hn1 hk1 hl1; have HF1 := Lib.hid (HFc.out.step hb1); have HO1 := Lib.hid hown1; have HB1 := Lib.hid hb1; have c1 := HF1.out.a0; have c2 := HF1.out.a1; have c3 := HF1.out.r0; have c4 := HF1.out.r1; have c5 := HF1.out.z0; have c6 := HF1.out.z1; clear hown1 hb1)
    | (have HFc : Hid (CopyF w (.slice A n c) (.slice B m d) _) := (by assumption); refine step_append_rows rfl (.const (.slice none 0 0)) (.tmp 7) 28 rfl 3 j0 _ 1 8 Try.underlying28 GI.out GZ0.out GZ1.out GZ2.out rfl (by decide) B m d bs rfl (by simp [Act.eval]) _ (H'.out.below HFc.out.be (Nat.le_refl _)) HB.out (int_one bs) hmx hm ?_; intro A2 k2 w2 hown2 hb2 hn2 hk2 hl2; have HF2 := Lib.hid (HFc.out.step hb2); have HO2 := Lib.hid hown2; have HB2 := Lib.hid hb2; have c1 := HF2.out.a0; have c2 := HF2.out.a1; have c3 := HF2.out.r0; have c4 := HF2.out.r1; have c5 := HF2.out.z0; have c6 := HF2.out.z1; clear hown2 hb2))
  all_goals first
    | (have hsz1 : w.heap.size + 1 < w1.heap.size := HF1.out.sz; have o1 := ownsRow_setCell_below (ownsRow_setCell_below (own_below HO1.out HB2.out) (a := ⟨w.heap.size + 1, 0, none⟩) (by first | omega | (simp; done) | (simp; omega)) (.slice A1 n k1)) (a := ⟨w.heap.size + 1, 1, none⟩) (by first | omega | (simp; done) | (simp; omega)) (.slice A2 m k2); have o2 := ownsRow_setCell_below (ownsRow_setCell_below HO2.out (a := ⟨w.heap.size + 1, 0, none⟩) (by first | omega | (simp; done) | (simp; omega)) (.slice A1 n k1)) (a := ⟨w.heap.size + 1, 1, none⟩) (by first | omega | (simp; done) | (simp; omega)) (.slice A2 m k2); have b2 := (HF2.out.be.setCell (p := ⟨w.heap.size + 1, 0, none⟩) (Nat.le_succ _) (.slice A1 n k1)).setCell (p := ⟨w.heap.size + 1, 1, none⟩) (Nat.le_succ _) (.slice A2 m k2); have O1 := Lib.hid (own_mono o1 (base' := w.heap.size) (by first | omega | (simp; done) | (simp; omega))); have O2 := Lib.hid (own_mono o2 (base' := w.heap.size) (by first | omega | (simp; done) | (simp; omega))); have B2 := Lib.hid b2; clear o1 o2 b2; go_wp2; refine bodyPost_ret (v := .agg #[.slice A1 n k1, .slice A2 m k2]) (by simp [results, Try.results25, go_sem, c3, c4]) rfl ?_; exact ⟨A1, k1, A2, k2, rfl, O1.out, O2.out, B2.out, hk1, hl1, hk2, hl2, hn1, hn2⟩)
    | (have hsz1 : w.heap.size + 1 < w2.heap.size := HF2.out.sz; have o1 := ownsRow_setCell_below (ownsRow_setCell_below HO1.out (a := ⟨w.heap.size + 1, 0, none⟩) (by first | omega | (simp; done) | (simp; omega)) (.slice A1 n k1)) (a := ⟨w.heap.size + 1, 1, none⟩) (by first | omega | (simp; done) | (simp; omega)) (.slice A2 m k2); have o2 := ownsRow_setCell_below (ownsRow_setCell_below (own_below HO2.out HB1.out) (a := ⟨w.heap.size + 1, 0, none⟩) (by first | omega | (simp; done) | (simp; omega)) (.slice A1 n k1)) (a := ⟨w.heap.size + 1, 1, none⟩) (by first | omega | (simp; done) | (simp; omega)) (.slice A2 m k2); have b2 := (HF1.out.be.setCell (p := ⟨w.heap.size + 1, 0, none⟩) (Nat.le_succ _) (.slice A1 n k1)).setCell (p := ⟨w.heap.size + 1, 1, none⟩) (Nat.le_succ _) (.slice A2 m k2); have O1 := Lib.hid (own_mono o1 (base' := w.heap.size) (by first | omega | (simp; done) | (simp; omega))); have O2 := Lib.hid (own_mono o2 (base' := w.heap.size) (by first | omega | (simp; done) | (simp; omega))); have B2 := Lib.hid b2; clear o1 o2 b2; go_wp2; refine bodyPost_ret (v := .agg #[.slice A1 n k1, .slice A2 m k2]) (by simp [results, Try.results25, go_sem, c3, c4]) rfl ?_; exact ⟨A1, k1, A2, k2, rfl, O1.out, O2.out, B2.out, hk1, hl1, hk2, hl2, hn1, hn2⟩)
end Go.Proofs.Ytphbebcbbfbgpab
