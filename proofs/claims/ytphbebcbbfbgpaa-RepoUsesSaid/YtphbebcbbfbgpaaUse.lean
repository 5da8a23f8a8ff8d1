/- repo.Use and saltcellarref.UsedOf. -/
import Derived.Test.YtphbebcbbfbgpaaGet
import Derived.Test.YtphbebcbbfbgpaaSame
import Derived.Laws.AppendOwnNone
import Derived.Laws.OwnMore
import Derived.Deep.AppendLies
namespace Go.Proofs.Ytphbebcbbfbgpaa
open Go Go.RowKit

/-- append(nil, l...): a new slice with the same rows. -/
theorem wpList_append_rows {P : Program} {w : World} {ops : Array Oper} {rest : List Oper} {o : Oper} {a : Act} {Q : Exit → Act → World → Prop} {α : Type} {f : α → Nat → Value} (hgd : o.guard = none) (s x : Operand) (t : TypeId)
    (ho : o.op = .call { callee := .builtin .append, args := #[s, x], argTypes := #[t, t] })
    (e : TypeId) (i : TypeInfo) (z : Value) (size bytes : Nat) (ht : P.underlying t = some (.slice e)) (hi : P.info? e = some i) (hz : i.zero = some z) (hsize : i.size = size) (hby : i.bytes = bytes) (hzs : z.cells.size = size) (hsz : 0 < size)
    (A : Option Addr) (n c : Nat) (ls : List α) (hs : a.eval s = .slice none 0 0) (hx : a.eval x = .slice A n c) (B : Nat) (hr : Rep w B size f A n ls) (hnil : A = none → n = 0 ∧ c = 0) (h1 : ∀ u ∈ flat f size ls, u.oneCell' = true)
    (h63 : n ≤ maxLen) (hbytes : n * bytes ≤ 140737488355328)
    (h : ∀ A' c' w', w'.ownsRow w.heap.size e size (.slice A' n c') n (flat f size ls) → Below w.heap.size w w' → (A' = none → n = 0 ∧ c' = 0) → wpList P ops Q rest (a.put o.dst (.slice A' n c')) w') : wpList P ops Q (o :: rest) a w := by
  have hn := hr.1
  cases A with
  | none =>
    obtain ⟨rfl, rfl⟩ := hnil rfl
    obtain rfl : ls = [] := List.eq_nil_of_length_eq_zero hn.symm
    exact wpList_append_own_none hgd s x t ho w.heap.size e i size ht hi (.slice none 0 0) 0 [] hs (World.ownsRow_nil _ _ _ _) hx (h none 0 w (World.ownsRow_nil _ _ _ _) (Below.refl _ _) (fun _ => ⟨rfl, rfl⟩))
  | some ad =>
    refine wpList_append_own w hgd s x t ho w.heap.size e i z size bytes ht hi hz hsize hby hzs hsz (.slice none 0 0) 0 [] hs (World.ownsRow_nil _ _ _ _) ad n c (flat f size ls) hx (by rw [flat_length, hn]) hr.flat_any h1 (by omega) (by rw [Nat.zero_add]; exact hbytes) (Nat.le_refl _) ?_
    intro v' w' hown hgr _
    rw [Nat.zero_add, List.nil_append] at hown
    obtain ⟨A', c', rfl, _, _, hn'⟩ := own_form hown
    exact h A' c' w' hown ((Below.refl _ _).grown hgr (Nat.le_refl _) (by intro k hk; cases hk)) hn'

/-- A call hands back items of its own, and an error's number. -/
def ItemsPost (w : World) (ls : List Itm) (k : Int) (e : Ending) (w' : World) : Prop :=
  ∃ A c, e = .returned (.tuple #[.slice A ls.length c, .int .i64 k]) ∧ w'.ownsRow w.heap.size 39 3 (.slice A ls.length c) ls.length (flat Itm.cell 3 ls) ∧ Below w.heap.size w w' ∧ ls.length ≤ c ∧ c ≤ maxLen ∧ (A = none → ls.length = 0 ∧ c = 0)
theorem ItemsPost.nil {w w' : World} {k : Int} (hb : Below w.heap.size w w') : ItemsPost w [] k (.returned (.tuple #[.slice none 0 0, .int .i64 k])) w' :=
  ⟨none, 0, rfl, World.ownsRow_nil _ _ _ _, hb, by simp, by unfold maxLen; omega, fun _ => ⟨rfl, rfl⟩⟩
theorem ItemsPost.mk' {w w' : World} {A : Option Addr} {n c : Nat} {ls : List Itm} {k : Int} (hn : n = ls.length) (h : w'.ownsRow w.heap.size 39 3 (.slice A n c) n (flat Itm.cell 3 ls)) (hb : Below w.heap.size w w') :
    ItemsPost w ls k (.returned (.tuple #[.slice A n c, .int .i64 k])) w' := by
  subst hn
  obtain ⟨A', c', he, h1, h2, h3⟩ := own_form h
  simp only [Value.slice.injEq, true_and] at he
  obtain ⟨rfl, rfl⟩ := he
  exact ⟨A, c, rfl, h, hb, h1, h2, h3⟩

def upRefs (ls : List Itm) (id d : Int) : List Itm := ls.map fun x => if x.id = id then { x with refs := x.refs + d } else x
noncomputable def usedK (ls : List Itm) (id : Int) : Int := if gotK ls id = 0 then (if (gotX ls id).refs = 32 then 1 else 0) else gotK ls id
noncomputable def usedR (ls : List Itm) (id : Int) : List Itm := if usedK ls id = 0 then upRefs ls id 1 else []

theorem got_zero {ls : List Itm} {id : Int} (h : gotK ls id = 0) : Good ls ∧ ∃ k, ∃ hk : k < ls.length, ls[k].id = id ∧ (∀ j (hj : j < k), (ls[j]'(by omega)).id ≠ id) ∧ gotR ls id = ls[k] ∧ gotX ls id = ls[k] := by
  cases hg : goodB ls with
  | false => rw [(got_bad id hg).1] at h; omega
  | true =>
    have g := good_of_B hg
    refine ⟨g, ?_⟩
    rcases id_cases ls id with hno | ⟨k, hk, hid, hb⟩
    · rw [(got_none hg hno).1] at h; omega
    · have h2 := (got_some g hk hid).2
      exact ⟨k, hk, hid, hb, h2, by rw [← h2, gotR, if_pos h]⟩
theorem upRefs_set {ls : List Itm} {id d : Int} {k : Nat} (g : Good ls) (hk : k < ls.length) (hid : ls[k].id = id) : upRefs ls id d = ls.set k { ls[k] with refs := ls[k].refs + d } := by
  apply List.ext_getElem
  · simp [upRefs]
  · intro j h1 h2
    have hj : j < ls.length := by simpa [upRefs] using h1
    rw [List.getElem_set]
    simp only [upRefs, List.getElem_map]
    by_cases hkj : k = j
    · subst hkj
      rw [if_pos rfl, if_pos hid]
    · rw [if_neg hkj, if_neg]
      intro e
      rcases Nat.lt_or_gt_of_ne hkj with hlt | hlt
      · have := g.lt hlt hj; omega
      · have := g.lt hlt hk; omega
theorem flat_set (ls : List Itm) (k : Nat) (hk : k < ls.length) (r : Int) : (flat Itm.cell 3 ls).set (k * 3 + 2) (.int .i64 r) = flat Itm.cell 3 (ls.set k { ls[k] with refs := r }) := by
  induction ls generalizing k with
  | nil => simp at hk
  | cons x ls ih =>
    cases k with
    | zero => rfl
    | succ k =>
      have hk' : k < ls.length := by simpa using hk
      have := ih k hk'
      rw [List.set_cons_succ, flat_cons, flat_cons, List.getElem_cons_succ, ← this, List.set_append]
      rw [if_neg (by rw [List.length_map, List.length_range]; omega), List.length_map, List.length_range, show (k + 1) * 3 + 2 - 3 = k * 3 + 2 from by omega]

theorem at_any (A : Option Addr) (n c k : Nat) (id : Int) (ls : List Itm) (w : World) (h : Rep w w.heap.size 3 Itm.cell A n ls) (hG : Good ls) (hk : k < ls.length) (hid : ls[k].id = id) :
    Calls Try.prog 38 #[.slice A n c, .int .i64 id] w fun e w' => e = .returned (.tuple #[.int .i64 k, .bool true]) ∧ Below w.heap.size w w' := by
  have hb : ∀ x ∈ ls, 0 ≤ x.id ∧ x.id < 24 := fun x hx => ⟨(hG.2.ok x hx).1, (hG.2.ok x hx).2.1⟩
  have hib := hb _ (List.getElem_mem hk)
  rw [hid] at hib
  have hs : ∀ W, Below w.heap.size w W → Calls Try.prog 35 #[.slice A n c, .int .i64 id, .func (.func 40) #[] #[]] W fun e w' => SearchPost ls (cmpA id) e ∧ Below W.heap.size W w' :=
    fun W hbel => search_any 40 (cmpA id) A n c id ls W ((h.below hbel (Nat.le_refl _)).mono hbel.size) (by have := h.1; have := hG.1; omega) (enters_of Try.func40 rfl rfl)
      (fun x hx W' _ => at1_any x id W' (by have := hb x hx; omega) (by have := hb x hx; omega) (by omega) (by omega)) (fun a b hab hb' hlt => by
        have := (cmpA_says id (ls[b]'hb')).1.1 hlt
        exact (cmpA_says id _).1.2 (by have := hG.le hab hb'; omega))
  have HS := Lib.hid hs
  have HG := Lib.hid hG
  have HID := Lib.hid hid
  clear hs hG hid hb hib h
  go_enter Try.func38, Try.ntmps38
  go_wp2_with fail
  refine (HS.out _ (Below.refl _ _)).mono ?_
  rintro e w1 ⟨he, hb1⟩
  obtain rfl := searchPost_at he (fun x _ => cmpA_says id x) HG.out hk HID.out
  clear he
  go_wp2
  go_ret2
  exact ⟨rfl, hb1⟩

set_option maxHeartbeats 2000000 in
theorem use_any (A : Option Addr) (n c : Nat) (id : Int) (ls : List Itm) (w : World) (h : Rep w w.heap.size 3 Itm.cell A n ls) (hn : n ≤ maxLen) (hnil : A = none → n = 0 ∧ c = 0) :
    Calls Try.prog 26 #[.slice A n c, .int .i64 id] w (ItemsPost w (usedR ls id) (usedK ls id)) := by
  have hc : ∀ W, Below w.heap.size w W → Calls Try.prog 20 #[.slice A n c, .int .i64 id] W fun e w' => GetPost ls id e ∧ Below W.heap.size W w' :=
    fun W hb => get_any A n c id ls W ((h.below hb (Nat.le_refl _)).mono hb.size) hn
  have HC := Lib.hid hc
  clear hc
  by_cases h0 : gotK ls id = 0
  · obtain ⟨hG, k, hk, hid, _, hR, hX⟩ := got_zero h0
    have h24 : n ≤ 24 := by have := h.1; have := hG.1; omega
    have hkn : k < n := by have := h.1; omega
    have hn1 := h.1
    have hcl : ∀ W, Below w.heap.size w W → Calls Try.prog 29 #[.slice A n c] W (OwnPost W 39 3 n (flat Itm.cell 3 ls)) :=
      fun W hb => cloneItems A n c ls W ((h.below hb (Nat.le_refl _)).mono hb.size) hnil (by omega)
    have HCL := Lib.hid hcl
    obtain ⟨x, hx⟩ : ∃ x, ls[k] = x := ⟨_, rfl⟩
    have hrf := (hG.2.ok _ (List.getElem_mem hk)).2.2.2
    rw [hx] at hR hX hrf
    have HR := Lib.hid hR
    have HX := Lib.hid hx
    have HG := Lib.hid hG
    have HID := Lib.hid hid
    have H0 := Lib.hid h0
    have HN := Lib.hid hn1
    obtain ⟨xi, xd, xr⟩ := x
    dsimp only at hrf
    by_cases h32 : xr = 32
    · have hK : usedK ls id = 1 := by rw [usedK, if_pos h0, hX, if_pos h32]
      have hR' : usedR ls id = [] := by rw [usedR, hK]; rfl
      have d32 : (xr == 32) = true := by simp [h32]
      rw [hK, hR']
      clear hcl hX hR hx hG hid h0 hn1 h hK hR' h32 hnil
      go_enter Try.func26, Try.ntmps26
      go_wp2_with fail
      refine (HC.out _ (Below.refl _ _)).mono ?_
      rintro e w1 ⟨he, hb1⟩
      rw [GetPost, H0.out, HR.out] at he
      subst he
      have HB1 : Hid (Below w.heap.size w (w1.alloc (.cells #[.int .i64 xi, .string xd, .int .i64 xr] 39))) := Lib.hid (hb1.alloc hb1.size _)
      clear hb1
      go_wp2_with fail
      refine (HCL.out _ HB1.out).mono ?_
      rintro e w2 ⟨A1, c1, rfl, hown, hb2, _, _, hn2⟩
      have HB2 := Lib.hid (HB1.out.trans (hb2.mono HB1.out.size))
      have hrep := Rep.of_own HN.out hown (Nat.le_refl _)
      have HREP := Lib.hid hrep
      clear hb2 hown hrep
      go_wp2_with fail
      refine (at_any A1 n c1 k id ls w2 HREP.out HG.out hk HID.out).mono ?_
      rintro e w3 ⟨rfl, hb3⟩
      obtain ⟨b, off, rfl, hbs, x0, x1, x2⟩ := items_at (k := k) (HREP.out.below hb3 (Nat.le_refl _)) hkn
      rw [HX.out] at x0 x1 x2
      have HB3 := Lib.hid (HB2.out.trans (hb3.mono HB2.out.size))
      clear hb3
      go_wp2
      go_ret2
      exact ItemsPost.nil HB3.out
    · have hK : usedK ls id = 0 := by rw [usedK, if_pos h0, hX, if_neg h32]
      have hR' : usedR ls id = ls.set k ⟨xi, xd, xr + 1⟩ := by rw [usedR, if_pos hK, upRefs_set hG hk hid, hx]
      have hfs := flat_set ls k hk (xr + 1)
      rw [hx] at hfs
      have HFS := Lib.hid hfs
      have d32 : (xr == 32) = false := by simp [h32]
      rw [hK, hR']
      clear hcl hX hR hx hG hid h0 hn1 h hK hR' h32 hnil hfs
      go_enter Try.func26, Try.ntmps26
      go_wp2_with fail
      refine (HC.out _ (Below.refl _ _)).mono ?_
      rintro e w1 ⟨he, hb1⟩
      rw [GetPost, H0.out, HR.out] at he
      subst he
      have HB1 : Hid (Below w.heap.size w (w1.alloc (.cells #[.int .i64 xi, .string xd, .int .i64 xr] 39))) := Lib.hid (hb1.alloc hb1.size _)
      clear hb1
      go_wp2_with fail
      refine (HCL.out _ HB1.out).mono ?_
      rintro e w2 ⟨A1, c1, rfl, hown, hb2, _, _, hn2⟩
      have HB2 := Lib.hid (HB1.out.trans (hb2.mono HB1.out.size))
      have hrep := Rep.of_own HN.out hown (Nat.le_refl _)
      have HREP := Lib.hid hrep
      have HOWN := Lib.hid (own_mono hown (base' := w.heap.size) HB1.out.size)
      clear hb2 hown hrep
      go_wp2_with fail
      refine (at_any A1 n c1 k id ls w2 HREP.out HG.out hk HID.out).mono ?_
      rintro e w3 ⟨rfl, hb3⟩
      obtain ⟨g, cap, hA, _, _⟩ := HOWN.out.form (by omega)
      simp only [Value.slice.injEq] at hA
      obtain ⟨rfl, _, rfl⟩ := hA
      have hown3 := own_below HOWN.out hb3
      have z2 := hown3.frozenAt (k * 3 + 2)
      obtain ⟨hbs, x0, x1, x2⟩ := items_of (k := k) (HREP.out.below hb3 (Nat.le_refl _)) hkn
      rw [HX.out] at x0 x1 x2
      have x2' : w3.cell? ⟨g, k * 3 + 2, none⟩ = some (.int .i64 xr) := by rw [← x2, Nat.zero_add]
      have HB3 := Lib.hid (HB2.out.trans (hb3.mono HB2.out.size))
      have hst := hown3.stored (k * 3 + 2) (.int .i64 (xr + 1))
      rw [HFS.out] at hst
      have HST := Lib.hid hst
      have HLO := Lib.hid (HOWN.out.lt g rfl).1
      clear hb3 hown3 x0 x1 hst
      go_wp2
      go_ret2
      exact ItemsPost.mk' (by rw [List.length_set]; exact HN.out) HST.out.1 (HB3.out.grown HST.out.2 HB3.out.size (by intro j hj; cases hj; exact HLO.out))
  · have hK : usedK ls id = gotK ls id := by rw [usedK, if_neg h0]
    have hR' : usedR ls id = [] := by rw [usedR, hK, if_neg h0]
    rw [hK, hR']
    obtain ⟨x, y, hx, hy⟩ : ∃ x y, gotR ls id = x ∧ gotK ls id = y := ⟨_, _, rfl, rfl⟩
    rw [hy] at h0 ⊢
    have HX := Lib.hid hx
    have HY := Lib.hid hy
    have d0 : (y != 0) = true := by simp [h0]
    clear hK hR' hx hy h hnil h0
    go_enter Try.func26, Try.ntmps26
    go_wp2_with fail
    refine (HC.out _ (Below.refl _ _)).mono ?_
    rintro e w1 ⟨he, hb1⟩
    rw [GetPost, HX.out, HY.out] at he
    subst he
    have HB1 : Hid (Below w.heap.size w (w1.alloc (.cells #[.int .i64 x.id, .string x.data, .int .i64 x.refs] 39))) := Lib.hid (hb1.alloc hb1.size _)
    clear hb1
    go_wp2
    go_ret2
    exact ItemsPost.nil HB1.out
end Go.Proofs.Ytphbebcbbfbgpaa
