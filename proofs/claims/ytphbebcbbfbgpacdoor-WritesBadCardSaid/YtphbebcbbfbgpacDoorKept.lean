/- saltcellarref.KeptOf. (and what it wants) -/
import Derived.Test.YtphbebcbbfbgpacDoorGet
import Derived.Test.YtphbebcbbfbgpacDoorSame
import Derived.Laws.AppendOwnNone
import Derived.Laws.OwnMore
import Derived.Deep.AppendLies
namespace Go.Proofs.YtphbebcbbfbgpacDoor
open Go Go.RowKit

/-- append(nil, l...): a new slice with the same rows. -/
theorem wpList_append_rows {P : Program} {w : World} {ops : Array Oper} {rest : List Oper} {o : Oper} {a : Act} {Q : Exit → Act → World → Prop} {α : Type} {f : α → Nat → Value} (hgd : o.guard = none) (s x : Operand) (t : TypeId)
    (ho : o.op = .call { callee := .builtin .append, args := #[s, x], argTypes := #[t, t] })
    (e : TypeId) (i : TypeInfo) (z : Value) (size bytes : Nat) (ht : P.underlying t = some (.slice e)) (hi : P.info? e = some i) (hz : i.zero = some z) (hsize : i.size = size) (hby : i.bytes = bytes) (hzs : z.cells.size = size) (hsz : 0 < size)
    (A : Option Addr) (n c : Nat) (ls : List α) (hs : a.eval s = .slice none 0 0) (hx : a.eval x = .slice A n c) (B : Nat) (hr : Rep w B size f A n ls) (hnil : A = none → n = 0 ∧ c = 0) (h1 : ∀ u ∈ flat f size ls, u.oneCell' = true)
    (h63 : n ≤ maxLen) (hbytes : n * bytes ≤ 140737488355328)
    (h : ∀ A' c' w', w'.ownsRow w.heap.size e size (.slice A' n c') n (flat f size ls) → Below w.heap.size w w' → (A' = none → n = 0 ∧ c' = 0) → wpList P ops Q rest (a.put o.dst (.slice A' n c')) w') : wpList P ops Q (o :: rest) a w := by
  have hn := hr.1
  cases A with
  | none =>
    obtain ⟨rfl, rfl⟩ := hnil rfl
    obtain rfl : ls = [] := List.eq_nil_of_length_eq_zero hn.symm
    exact wpList_append_own_none hgd s x t ho w.heap.size e i size ht hi (.slice none 0 0) 0 [] hs (World.ownsRow_nil _ _ _ _) hx (h none 0 w (World.ownsRow_nil _ _ _ _) (Below.refl _ _) (fun _ => ⟨rfl, rfl⟩))
  | some ad =>
    refine wpList_append_own w hgd s x t ho w.heap.size e i z size bytes ht hi hz hsize hby hzs hsz (.slice none 0 0) 0 [] hs (World.ownsRow_nil _ _ _ _) ad n c (flat f size ls) hx (by rw [flat_length, hn]) hr.flat_any h1 (by omega) (by rw [Nat.zero_add]; exact hbytes) (Nat.le_refl _) ?_
    intro v' w' hown hgr _
    rw [Nat.zero_add, List.nil_append] at hown
    obtain ⟨A', c', rfl, _, _, hn'⟩ := own_form hown
    exact h A' c' w' hown ((Below.refl _ _).grown hgr (Nat.le_refl _) (by intro k hk; cases hk)) hn'

/-- A call hands back items of its own, and an error's number. -/
def ItemsPost (w : World) (ls : List Itm) (k : Int) (e : Ending) (w' : World) : Prop :=
  ∃ A c, e = .returned (.tuple #[.slice A ls.length c, .int .i64 k]) ∧ w'.ownsRow w.heap.size 42 3 (.slice A ls.length c) ls.length (flat Itm.cell 3 ls) ∧ Below w.heap.size w w' ∧ ls.length ≤ c ∧ c ≤ maxLen ∧ (A = none → ls.length = 0 ∧ c = 0)
theorem ItemsPost.nil {w w' : World} {k : Int} (hb : Below w.heap.size w w') : ItemsPost w [] k (.returned (.tuple #[.slice none 0 0, .int .i64 k])) w' :=
  ⟨none, 0, rfl, World.ownsRow_nil _ _ _ _, hb, by simp, by unfold maxLen; omega, fun _ => ⟨rfl, rfl⟩⟩
theorem ItemsPost.mk' {w w' : World} {A : Option Addr} {n c : Nat} {ls : List Itm} {k : Int} (hn : n = ls.length) (h : w'.ownsRow w.heap.size 42 3 (.slice A n c) n (flat Itm.cell 3 ls)) (hb : Below w.heap.size w w') :
    ItemsPost w ls k (.returned (.tuple #[.slice A n c, .int .i64 k])) w' := by
  subst hn
  obtain ⟨A', c', he, h1, h2, h3⟩ := own_form h
  simp only [Value.slice.injEq, true_and] at he
  obtain ⟨rfl, rfl⟩ := he
  exact ⟨A, c, rfl, h, hb, h1, h2, h3⟩

def upRefs (ls : List Itm) (id d : Int) : List Itm := ls.map fun x => if x.id = id then { x with refs := x.refs + d } else x
noncomputable def usedK (ls : List Itm) (id : Int) : Int := if gotK ls id = 0 then (if (gotX ls id).refs = 32 then 1 else 0) else gotK ls id
noncomputable def usedR (ls : List Itm) (id : Int) : List Itm := if usedK ls id = 0 then upRefs ls id 1 else []

theorem got_zero {ls : List Itm} {id : Int} (h : gotK ls id = 0) : Good ls ∧ ∃ k, ∃ hk : k < ls.length, ls[k].id = id ∧ (∀ j (hj : j < k), (ls[j]'(by omega)).id ≠ id) ∧ gotR ls id = ls[k] ∧ gotX ls id = ls[k] := by
  cases hg : goodB ls with
  | false => rw [(got_bad id hg).1] at h; omega
  | true =>
    have g := good_of_B hg
    refine ⟨g, ?_⟩
    rcases id_cases ls id with hno | ⟨k, hk, hid, hb⟩
    · rw [(got_none hg hno).1] at h; omega
    · have h2 := (got_some g hk hid).2
      exact ⟨k, hk, hid, hb, h2, by rw [← h2, gotR, if_pos h]⟩
theorem upRefs_set {ls : List Itm} {id d : Int} {k : Nat} (g : Good ls) (hk : k < ls.length) (hid : ls[k].id = id) : upRefs ls id d = ls.set k { ls[k] with refs := ls[k].refs + d } := by
  apply List.ext_getElem
  · simp [upRefs]
  · intro j h1 h2
    have hj : j < ls.length := by simpa [upRefs] using h1
    rw [List.getElem_set]
    simp only [upRefs, List.getElem_map]
    by_cases hkj : k = j
    · subst hkj
      rw [if_pos rfl, if_pos hid]
    · rw [if_neg hkj, if_neg]
      intro e
      rcases Nat.lt_or_gt_of_ne hkj with hlt | hlt
      · have := g.lt hlt hj; omega
      · have := g.lt hlt hk; omega
theorem flat_set (ls : List Itm) (k : Nat) (hk : k < ls.length) (r : Int) : (flat Itm.cell 3 ls).set (k * 3 + 2) (.int .i64 r) = flat Itm.cell 3 (ls.set k { ls[k] with refs := r }) := by
  induction ls generalizing k with
  | nil => simp at hk
  | cons x ls ih =>
    cases k with
    | zero => rfl
    | succ k =>
      have hk' : k < ls.length := by simpa using hk
      have := ih k hk'
      rw [List.set_cons_succ, flat_cons, flat_cons, List.getElem_cons_succ, ← this, List.set_append]
      rw [if_neg (by rw [List.length_map, List.length_range]; omega), List.length_map, List.length_range, show (k + 1) * 3 + 2 - 3 = k * 3 + 2 from by omega]

theorem at_any (A : Option Addr) (n c k : Nat) (id : Int) (ls : List Itm) (w : World) (h : Rep w w.heap.size 3 Itm.cell A n ls) (hG : Good ls) (hk : k < ls.length) (hid : ls[k].id = id) :
    Calls Tryd.prog 52 #[.slice A n c, .int .i64 id] w fun e w' => e = .returned (.tuple #[.int .i64 k, .bool true]) ∧ Below w.heap.size w w' := by
  have hb : ∀ x ∈ ls, 0 ≤ x.id ∧ x.id < 24 := fun x hx => ⟨(hG.2.ok x hx).1, (hG.2.ok x hx).2.1⟩
  have hib := hb _ (List.getElem_mem hk)
  rw [hid] at hib
  have hs : ∀ W, Below w.heap.size w W → Calls Tryd.prog 50 #[.slice A n c, .int .i64 id, .func (.func 77) #[] #[]] W fun e w' => SearchPost ls (cmpA id) e ∧ Below W.heap.size W w' :=
    fun W hbel => search_any 77 (cmpA id) A n c id ls W ((h.below hbel (Nat.le_refl _)).mono hbel.size) (by have := h.1; have := hG.1; omega) (enters_of Tryd.func77 rfl rfl)
      (fun x hx W' _ => at1_any x id W' (by have := hb x hx; omega) (by have := hb x hx; omega) (by omega) (by omega)) (fun a b hab hb' hlt => by
        have := (cmpA_says id (ls[b]'hb')).1.1 hlt
        exact (cmpA_says id _).1.2 (by have := hG.le hab hb'; omega))
  have HS := Lib.hid hs
  have HG := Lib.hid hG
  have HID := Lib.hid hid
  clear hs hG hid hb hib h
  go_enter Tryd.func52, Tryd.ntmps52
  go_wp2_with fail
  refine (HS.out _ (Below.refl _ _)).mono ?_
  rintro e w1 ⟨he, hb1⟩
  obtain rfl := searchPost_at he (fun x _ => cmpA_says id x) HG.out hk HID.out
  clear he
  go_wp2
  go_ret2
  exact ⟨rfl, hb1⟩

end Go.Proofs.YtphbebcbbfbgpacDoor

namespace Go.Proofs.YtphbebcbbfbgpacDoor
open Go Go.RowKit

theorem keep1_any (x : Itm) (data : ByteArray) (b : Nat) (w : World) (hc : w.cell? ⟨b, 0, none⟩ = some (.string data)) (hb : b < w.heap.size) :
    Calls Tryd.prog 48 #[.agg #[.int .i64 x.id, .string x.data, .int .i64 x.refs], .pointer (some ⟨b, 0, none⟩)] w fun e w' => e = .returned (.bool (decide (x.data = data))) ∧ Below w.heap.size w w' := by
  obtain ⟨y, d, r⟩ := x
  have hl := (World.cell?_alloc_lt w (.cells #[.int .i64 y, .string d, .int .i64 r] 42) (a := ⟨b, 0, none⟩) hb).trans hc
  have hbe : Below w.heap.size w (w.alloc (.cells #[.int .i64 y, .string d, .int .i64 r] 42)) := (Below.refl _ _).alloc (Nat.le_refl _) _
  dsimp only
  by_cases h : d = data
  · subst h
    rw [decide_eq_true rfl]
    go_enter Tryd.func48, Tryd.ntmps48
    go_wp2
    go_ret
    exact ⟨rfl, hbe⟩
  · have hne := toList_beq_no h
    rw [decide_eq_false h]
    go_enter Tryd.func48, Tryd.ntmps48
    go_wp2
    go_ret
    exact ⟨rfl, hbe⟩

/-- the first place where the test strikes; -1: none -/
def firstIx (p : Itm → Bool) (ls : List Itm) : Int := match ls.findIdx? p with
  | some k => k
  | none => -1
theorem firstIx_some {p : Itm → Bool} {ls : List Itm} {k : Nat} (hk : k < ls.length) (h : p ls[k] = true) (hb : ∀ j (hj : j < k), p (ls[j]'(by omega)) = false) : firstIx p ls = k := by
  have : ls.findIdx? p = some k := by
    rw [List.findIdx?_eq_some_iff_getElem]
    exact ⟨hk, h, fun j hj => by rw [hb j hj]; simp⟩
  rw [firstIx, this]
theorem firstIx_none {p : Itm → Bool} {ls : List Itm} (h : ∀ x ∈ ls, p x = false) : firstIx p ls = -1 := by
  have : ls.findIdx? p = none := by
    rw [List.findIdx?_eq_none_iff]; exact h
  rw [firstIx, this]

set_option maxHeartbeats 2000000 in
theorem index_any (g : Nat) (cb : Array Value) (p : Itm → Bool) (A : Option Addr) (n c : Nat) (ls : List Itm) (w : World) (h : Rep w w.heap.size 3 Itm.cell A n ls) (hn : n ≤ 24)
    (eg : ∀ args w, (callFunc g args).run Tryd.prog w = .ok (.enter g args) w)
    (hc : ∀ x ∈ ls, ∀ W, Below w.heap.size w W → Calls Tryd.prog g (#[.agg #[.int .i64 x.id, .string x.data, .int .i64 x.refs]] ++ cb) W fun e w' => e = .returned (.bool (p x)) ∧ Below W.heap.size W w') :
    Calls Tryd.prog 47 #[.slice A n c, .func (.func g) #[] cb] w fun e w' => e = .returned (.int .i64 (firstIx p ls)) ∧ Below w.heap.size w w' := by
  have hlen := h.1
  have H := Lib.hid h
  have HL := Lib.hid hlen
  have HC := Lib.hid hc
  clear h hlen hc
  go_enter Tryd.func47, Tryd.ntmps47
  go_wp2
  go_loopw [8] (fun t wr => ∃ k : Nat, k ≤ n ∧ t = .int .i64 k ∧ Below w.heap.size w wr ∧ Hid (∀ j (_ : j < k) (hj : j < ls.length), p ls[j] = false)) (fun t _ => n - (intOf t).toNat)
  case atStart => exact ⟨0, by omega, rfl, Below.refl _ _, Lib.hid (fun j h _ => absurd h (by omega))⟩
  case round =>
    obtain ⟨k, hk, rfl, hbel, hall⟩ := hrel
    have HB := Lib.hid hbel
    clear hbel
    by_cases hlt : k < n
    · have hkl : k < ls.length := by have := HL.out; omega
      obtain ⟨b, off, rfl, hb, c0, c1, c2⟩ := items_at (k := k) (H.out.below HB.out (Nat.le_refl _)) hlt
      obtain ⟨x, hx⟩ : ∃ x, ls[k]'hkl = x := ⟨_, rfl⟩
      rw [hx] at c0 c1 c2
      have hcx := HC.out x (by rw [← hx]; exact List.getElem_mem hkl) wr HB.out
      have HX := Lib.hid hx
      cases hpx : p x with
      | true =>
        rw [hpx] at hcx
        have hfin : firstIx p ls = k := firstIx_some hkl (by rw [hx]; exact hpx) (fun j hj => hall.out j hj (by omega))
        have HF := Lib.hid hfin
        have HCX := Lib.hid hcx
        clear hx hcx hpx hfin
        go_wp2_with (go_at_fn g; refine HCX.out.mono ?_; rintro e w' ⟨rfl, hb1⟩)
        go_ret
        exact ⟨by rw [HF.out]; rfl, HB.out.trans (hb1.mono HB.out.size)⟩
      | false =>
        rw [hpx] at hcx
        have hnew : ∀ j (_ : j < k + 1) (hj : j < ls.length), p ls[j] = false := by
          intro j h1 h2
          by_cases hjk : j = k
          · subst hjk; rw [hx]; exact hpx
          · exact hall.out j (by omega) h2
        have HN := Lib.hid hnew
        have HCX := Lib.hid hcx
        clear hx hcx hpx hnew
        go_wp2_with (go_at_fn g; refine HCX.out.mono ?_; rintro e w' ⟨rfl, hb1⟩)
        have HB1 := Lib.hid (HB.out.trans (hb1.mono HB.out.size))
        go_roundw
        case rel => exact ⟨k + 1, by omega, by go_num, HB1.out, HN⟩
        case measure => simp [intOf]; omega
    · have hfin : firstIx p ls = -1 := firstIx_none (fun x hx => by
        obtain ⟨j, hj, rfl⟩ := List.getElem_of_mem hx
        exact hall.out j (by have := HL.out; omega) hj)
      have HF := Lib.hid hfin
      clear hfin
      go_wp2
      go_ret
      exact ⟨by rw [HF.out]; rfl, HB.out⟩
end Go.Proofs.YtphbebcbbfbgpacDoor

namespace Go.Proofs.YtphbebcbbfbgpacDoor
open Go

/-- the least number that no item has -/
def freeFrom : Nat → List Itm → Nat
  | i, [] => i
  | i, x :: r => if x.id = (i : Int) then freeFrom (i + 1) r else i
def freeIx (ls : List Itm) : Nat := freeFrom 0 ls
theorem freeFrom_spec : ∀ (ls : List Itm) (i : Nat), ∃ k, freeFrom i ls = i + k ∧ k ≤ ls.length ∧ (∀ j (_ : j < k) (hj : j < ls.length), ls[j].id = ((i + j : Nat) : Int)) ∧ (∀ h : k < ls.length, ls[k].id ≠ ((i + k : Nat) : Int))
  | [], i => ⟨0, rfl, Nat.le_refl _, fun j h _ => absurd h (by omega), fun h => absurd h (by simp)⟩
  | x :: r, i => by
    by_cases hx : x.id = (i : Int)
    · obtain ⟨k, h1, h2, h3, h4⟩ := freeFrom_spec r (i + 1)
      refine ⟨k + 1, by rw [freeFrom, if_pos hx, h1]; omega, by simpa using h2, fun j hj hl => ?_, fun h => ?_⟩
      · cases j with
        | zero => simpa using hx
        | succ j =>
          have := h3 j (by omega) (by simpa using hl)
          rw [List.getElem_cons_succ, this]
          omega
      · have := h4 (by simpa using h)
        rw [List.getElem_cons_succ]
        intro e
        apply this
        rw [e]
        omega
    · exact ⟨0, by rw [freeFrom, if_neg hx]; rfl, Nat.zero_le _, fun j h _ => absurd h (by omega), fun _ => by simpa using hx⟩
theorem freeIx_spec (ls : List Itm) : freeIx ls ≤ ls.length ∧ (∀ j (_ : j < freeIx ls) (hj : j < ls.length), ls[j].id = (j : Int)) ∧ (∀ h : freeIx ls < ls.length, ls[freeIx ls].id ≠ (freeIx ls : Int)) := by
  obtain ⟨k, h1, h2, h3, h4⟩ := freeFrom_spec ls 0
  have e : freeIx ls = k := by rw [freeIx, h1]; omega
  subst e
  refine ⟨h2, fun j h hj => ?_, fun h => ?_⟩
  · have := h3 j h hj
    rwa [Nat.zero_add] at this
  · have := h4 h
    rwa [Nat.zero_add] at this
theorem free_above {ls : List Itm} (g : Good ls) {j : Nat} (h : freeIx ls ≤ j) (hj : j < ls.length) : (freeIx ls : Int) < ls[j].id := by
  obtain ⟨h1, h2, h3⟩ := freeIx_spec ls
  have hf : freeIx ls < ls.length := by omega
  have h4 := h3 hf
  have h5 := g.le h hj
  have h6 : (freeIx ls : Int) ≤ ls[freeIx ls].id := by
    rcases Nat.eq_zero_or_pos (freeIx ls) with h0 | h0
    · have := (g.2.ok _ (List.getElem_mem hf)).1
      omega
    · have h7 := h2 (freeIx ls - 1) (by omega) (by omega)
      have h8 := g.lt (j := freeIx ls - 1) (k := freeIx ls) (by omega) hf
      omega
  omega
theorem free_none {ls : List Itm} (g : Good ls) : ∀ x ∈ ls, x.id ≠ (freeIx ls : Int) := by
  intro x hx
  obtain ⟨j, hj, rfl⟩ := List.getElem_of_mem hx
  rcases Nat.lt_or_ge j (freeIx ls) with h | h
  · rw [(freeIx_spec ls).2.1 j h hj]; omega
  · have := free_above g h hj; omega
theorem free_low {ls : List Itm} (g : Good ls) : ls.filter (fun x => decide (x.id < (freeIx ls : Int))) = ls.take (freeIx ls) := by
  conv => lhs; rw [← List.take_append_drop (freeIx ls) ls]
  rw [List.filter_append, List.filter_eq_self.2, List.filter_eq_nil_iff.2, List.append_nil]
  · intro x hx
    obtain ⟨j, hj, rfl⟩ := List.getElem_of_mem hx
    rw [List.length_drop] at hj
    have := free_above g (j := freeIx ls + j) (by omega) (by omega)
    rw [List.getElem_drop]
    simp; omega
  · intro x hx
    obtain ⟨j, hj, rfl⟩ := List.getElem_of_mem hx
    rw [List.length_take] at hj
    have := (freeIx_spec ls).2.1 j (by omega) (by omega)
    rw [List.getElem_take, this]
    simp; omega
theorem free_high {ls : List Itm} (g : Good ls) : ls.filter (fun x => decide (x.id > (freeIx ls : Int))) = ls.drop (freeIx ls) := by
  conv => lhs; rw [← List.take_append_drop (freeIx ls) ls]
  rw [List.filter_append, List.filter_eq_nil_iff.2, List.filter_eq_self.2, List.nil_append]
  · intro x hx
    obtain ⟨j, hj, rfl⟩ := List.getElem_of_mem hx
    rw [List.length_drop] at hj
    have := free_above g (j := freeIx ls + j) (by omega) (by omega)
    rw [List.getElem_drop]
    simp; omega
  · intro x hx
    obtain ⟨j, hj, rfl⟩ := List.getElem_of_mem hx
    rw [List.length_take] at hj
    have := (freeIx_spec ls).2.1 j (by omega) (by omega)
    rw [List.getElem_take, this]
    simp; omega

/-- P2.3: the items, the item's number, the error's number -/
noncomputable def keptR (ls : List Itm) (data : ByteArray) : List Itm × Int × Int :=
  if goodB ls then
    if data.size ≤ 48 then
      match ls.findIdx? (fun x => decide (x.data = data)) with
      | some k => if (ls.getD k default).refs = 32 then ([], 0, 1) else (ls.set k { ls.getD k default with refs := (ls.getD k default).refs + 1 }, (ls.getD k default).id, 0)
      | none => if freeIx ls < 24 then (ls.take (freeIx ls) ++ [⟨freeIx ls, data, 1⟩] ++ ls.drop (freeIx ls), freeIx ls, 0) else ([], 0, 1)
    else ([], 0, 1)
  else ([], 0, 7)
theorem kept_bad {ls : List Itm} (d : ByteArray) (h : goodB ls = false) : keptR ls d = ([], 0, 7) := by rw [keptR, h]; rfl
theorem kept_long {ls : List Itm} {d : ByteArray} (h : goodB ls = true) (hd : ¬ d.size ≤ 48) : keptR ls d = ([], 0, 1) := by rw [keptR, if_pos h, if_neg hd]
theorem kept_full {ls : List Itm} {d : ByteArray} {k : Nat} (h : goodB ls = true) (hd : d.size ≤ 48) (hk : ls.findIdx? (fun x => decide (x.data = d)) = some k) (hl : k < ls.length) (hr : ls[k].refs = 32) : keptR ls d = ([], 0, 1) := by
  rw [keptR, if_pos h, if_pos hd, hk]
  have e : ls.getD k default = ls[k] := by rw [List.getD_eq_getElem?_getD, List.getElem?_eq_getElem hl]; rfl
  simp only [e]
  rw [if_pos hr]
theorem kept_up {ls : List Itm} {d : ByteArray} {k : Nat} (h : goodB ls = true) (hd : d.size ≤ 48) (hk : ls.findIdx? (fun x => decide (x.data = d)) = some k) (hl : k < ls.length) (hr : ls[k].refs ≠ 32) :
    keptR ls d = (ls.set k { ls[k] with refs := ls[k].refs + 1 }, ls[k].id, 0) := by
  rw [keptR, if_pos h, if_pos hd, hk]
  have e : ls.getD k default = ls[k] := by rw [List.getD_eq_getElem?_getD, List.getElem?_eq_getElem hl]; rfl
  simp only [e]
  rw [if_neg hr]
theorem kept_no {ls : List Itm} {d : ByteArray} (h : goodB ls = true) (hd : d.size ≤ 48) (hk : ls.findIdx? (fun x => decide (x.data = d)) = none) (hf : ¬ freeIx ls < 24) : keptR ls d = ([], 0, 1) := by
  rw [keptR, if_pos h, if_pos hd, hk]
  simp only
  rw [if_neg hf]
theorem kept_new {ls : List Itm} {d : ByteArray} (h : goodB ls = true) (hd : d.size ≤ 48) (hk : ls.findIdx? (fun x => decide (x.data = d)) = none) (hf : freeIx ls < 24) :
    keptR ls d = (ls.take (freeIx ls) ++ [⟨freeIx ls, d, 1⟩] ++ ls.drop (freeIx ls), ((freeIx ls : Nat) : Int), 0) := by
  rw [keptR, if_pos h, if_pos hd, hk]
  simp only
  rw [if_pos hf]
end Go.Proofs.YtphbebcbbfbgpacDoor

namespace Go.Proofs.YtphbebcbbfbgpacDoor
open Go Go.RowKit

/-- P3.2: what Read finds -/
noncomputable def readR (ls : List Itm) (bs : List Int) (b : Int) : ByteArray × Int :=
  if goodVB ls bs then (if 0 ≤ b ∧ b < bs.length then (if bs.getD b.toNat 0 < 0 then (⟨#[]⟩, 0) else ((gotX ls (bs.getD b.toNat 0)).data, 0)) else (⟨#[]⟩, 6)) else (⟨#[]⟩, 7)
def ReadPost (ls : List Itm) (bs : List Int) (b : Int) (e : Ending) : Prop := e = .returned (.tuple #[.string (readR ls bs b).1, .int .i64 (readR ls bs b).2])
theorem readPost_of {ls : List Itm} {bs : List Int} {b k : Int} {s : ByteArray} {e : Ending} (h : readR ls bs b = (s, k)) (he : e = .returned (.tuple #[.string s, .int .i64 k])) : ReadPost ls bs b e := by
  rw [ReadPost, h, he]
theorem goodVB_of {ls : List Itm} {bs : List Int} (h : goodVB ls bs = true) : GoodVol ls bs := by simpa [goodVB] using h
theorem read_bad {ls : List Itm} {bs : List Int} (b : Int) (h : goodVB ls bs = false) : readR ls bs b = (⟨#[]⟩, 7) := by rw [readR, h]; rfl
theorem read_none {ls : List Itm} {bs : List Int} {b : Int} (h : goodVB ls bs = true) (hb : ¬ (0 ≤ b ∧ b < bs.length)) : readR ls bs b = (⟨#[]⟩, 6) := by rw [readR, if_pos h, if_neg hb]
theorem read_empty {ls : List Itm} {bs : List Int} {k : Nat} (h : goodVB ls bs = true) (hk : k < bs.length) (hb : bs[k] < 0) : readR ls bs k = (⟨#[]⟩, 0) := by
  rw [readR, if_pos h, if_pos ⟨by omega, by omega⟩, Int.toNat_natCast, List.getD_eq_getElem?_getD, List.getElem?_eq_getElem hk, Option.getD_some, if_pos hb]
theorem read_some {ls : List Itm} {bs : List Int} {k j : Nat} (h : goodVB ls bs = true) (hk : k < bs.length) (hb : ¬ bs[k] < 0) (hj : j < ls.length) (hid : ls[j].id = bs[k]) : readR ls bs k = (ls[j].data, 0) := by
  rw [readR, if_pos h, if_pos ⟨by omega, by omega⟩, Int.toNat_natCast, List.getD_eq_getElem?_getD, List.getElem?_eq_getElem hk, Option.getD_some, if_neg hb]
  have g := got_some (goodVB_of h).good hj hid
  rw [← g.2, gotR, if_pos g.1]

/-- What stands in a block that holds a volume, laid by the call. -/
structure VBoxF (w : World) (B : Nat) (s1 s2 : Value) (W : World) : Prop where
  a0 : W.cell? ⟨B, 0, none⟩ = some s1
  a1 : W.cell? ⟨B, 1, none⟩ = some s2
  sz : B < W.heap.size
  be : Below w.heap.size w W
theorem VBoxF.step {w W W' : World} {B : Nat} {s1 s2 : Value} (h : VBoxF w B s1 s2 W) (hb : Below W.heap.size W W') : VBoxF w B s1 s2 W' where
  a0 := (hb.cell h.sz).trans h.a0
  a1 := (hb.cell h.sz).trans h.a1
  sz := Nat.lt_of_lt_of_le h.sz hb.size
  be := h.be.trans (hb.mono h.be.size)

set_option maxHeartbeats 2000000 in
theorem volRead_any (A B : Option Addr) (n c m d : Nat) (b : Int) (ls : List Itm) (bs : List Int) (w : World) (h : Rep w w.heap.size 3 Itm.cell A n ls) (h' : Rep w w.heap.size 1 intCell B m bs)
    (hn : n ≤ maxLen) (hm : m ≤ maxLen) (hok : ∀ b ∈ bs, i64Ok b) :
    Calls Tryd.prog 27 #[.agg #[.slice A n c, .slice B m d], .int .i64 b] w fun e w' => ReadPost ls bs b e ∧ Below w.heap.size w w' := by
  have hc : ∀ W, Below w.heap.size w W → Calls Tryd.prog 18 #[.agg #[.slice A n c, .slice B m d]] W fun e w' => VCheckPost ls bs e ∧ Below W.heap.size W w' :=
    fun W hb => volCheck_any A B n c m d ls bs W ((h.below hb (Nat.le_refl _)).mono hb.size) ((h'.below hb (Nat.le_refl _)).mono hb.size) hn hm hok
  have hg : ∀ (id : Int) W, Below w.heap.size w W → Calls Tryd.prog 23 #[.slice A n c, .int .i64 id] W fun e w' => GetPost ls id e ∧ Below W.heap.size W w' :=
    fun id W hb => get_any A n c id ls W ((h.below hb (Nat.le_refl _)).mono hb.size) hn
  have hba : VBoxF w w.heap.size (.slice A n c) (.slice B m d) (w.alloc (.cells #[.slice A n c, .slice B m d] 30)) := by
    refine ⟨?_, ?_, by simp, (Below.refl _ _).alloc (Nat.le_refl _) _⟩
    all_goals simp [go_sem]
  have HBA := Lib.hid hba
  have HC := Lib.hid hc
  have HG := Lib.hid hg
  have H := Lib.hid h
  have H' := Lib.hid h'
  have hml := h'.1
  clear hba hc hg h h' hok
  cases hgd : goodVB ls bs with
  | false =>
    have E1 := Lib.hid (read_bad b hgd)
    have E2 := Lib.hid (show goodVN ls bs = 7 by rw [goodVN_eq, hgd]; rfl)
    clear hgd hml
    go_enter Tryd.func27, Tryd.ntmps27
    go_wp2_with fail
    refine (HC.out _ HBA.out.be).mono ?_
    rintro e w1 ⟨he, hb1⟩
    rw [VCheckPost, E2.out] at he
    subst he
    have HB1 := Lib.hid (HBA.out.step hb1).be
    clear hb1
    go_wp2
    go_ret2
    exact ⟨readPost_of E1.out rfl, HB1.out⟩
  | true =>
    have hm32 : m ≤ 32 := by have := (goodVB_of hgd).hi; omega
    have E2 := Lib.hid (show goodVN ls bs = 0 by rw [goodVN_eq, hgd]; rfl)
    by_cases hb : 0 ≤ b ∧ b < bs.length
    · obtain ⟨k, rfl⟩ : ∃ k : Nat, b = k := ⟨b.toNat, by omega⟩
      have hk : k < bs.length := by omega
      have hkm : k < m := by omega
      have d1 : decide ((k : Int) < 0) = false := decide_eq_false (by omega)
      have d2 : decide ((k : Int) ≥ (m : Int)) = false := by simp; omega
      obtain ⟨y, hy⟩ : ∃ y, bs[k] = y := ⟨_, rfl⟩
      have HY := Lib.hid hy
      by_cases hneg : y < 0
      · have E1 := Lib.hid (read_empty hgd hk (by rw [hy]; exact hneg))
        have d3 := decide_eq_true hneg
        clear hgd hml hb hy
        go_enter Tryd.func27, Tryd.ntmps27
        go_wp2_with fail
        refine (HC.out _ HBA.out.be).mono ?_
        rintro e w1 ⟨he, hb1⟩
        rw [VCheckPost, E2.out] at he
        subst he
        obtain ⟨a0, a1, _, hbe⟩ := HBA.out.step hb1
        have HB1 := Lib.hid hbe
        obtain ⟨g, off, rfl, hgb, c0⟩ := ints_at (k := k) (H'.out.below hbe (Nat.le_refl _)) hkm
        rw [HY.out] at c0
        clear hb1 hbe hgb
        go_wp2
        go_ret2
        exact ⟨readPost_of E1.out rfl, HB1.out⟩
      · obtain ⟨x, hx, hxid⟩ := (goodVB_of hgd).ids y (by rw [← hy]; exact List.getElem_mem hk) (by omega)
        obtain ⟨j, hj, rfl⟩ := List.getElem_of_mem hx
        have hgs := got_some (goodVB_of hgd).good hj hxid
        have E1 := Lib.hid (read_some hgd hk (by rw [hy]; exact hneg) hj (by rw [hy]; exact hxid))
        obtain ⟨x, hx⟩ : ∃ x, ls[j] = x := ⟨_, rfl⟩
        rw [hx] at hgs
        have HGS := Lib.hid hgs
        have HX := Lib.hid hx
        have d3 := decide_eq_false hneg
        clear hgd hml hb hy hx hgs hxid
        go_enter Tryd.func27, Tryd.ntmps27
        go_wp2_with fail
        refine (HC.out _ HBA.out.be).mono ?_
        rintro e w1 ⟨he, hb1⟩
        rw [VCheckPost, E2.out] at he
        subst he
        obtain ⟨a0, a1, hs0, hbe⟩ := HBA.out.step hb1
        have HB1 := Lib.hid hbe
        obtain ⟨g, off, rfl, hgb, c0⟩ := ints_at (k := k) (H'.out.below hbe (Nat.le_refl _)) hkm
        rw [HY.out] at c0
        have hgb1 : g < w1.heap.size := by have := hbe.size; omega
        clear hb1 hbe hgb
        have HB1d := Lib.hid HB1.out.drew
        have a0d : w1.drew.cell? ⟨w.heap.size, 0, none⟩ = some (.slice A n c) := a0
        have a1d : w1.drew.cell? ⟨w.heap.size, 1, none⟩ = some (.slice (some ⟨g, off, none⟩) m d) := a1
        have c0d : w1.drew.cell? ⟨g, off + k, none⟩ = some (.int .i64 y) := c0
        go_wp2
        have a0e : (w1.alloc (.cells #[.int .i64 0, .string ⟨#[]⟩, .int .i64 0] 42)).drew.cell? ⟨w.heap.size, 0, none⟩ = some (.slice A n c) := (World.cell?_alloc_lt w1 _ (a := ⟨w.heap.size, 0, none⟩) hs0).trans a0
        have a1e : (w1.alloc (.cells #[.int .i64 0, .string ⟨#[]⟩, .int .i64 0] 42)).drew.cell? ⟨w.heap.size, 1, none⟩ = some (.slice (some ⟨g, off, none⟩) m d) := (World.cell?_alloc_lt w1 _ (a := ⟨w.heap.size, 1, none⟩) hs0).trans a1
        have c0e : (w1.alloc (.cells #[.int .i64 0, .string ⟨#[]⟩, .int .i64 0] 42)).drew.cell? ⟨g, off + k, none⟩ = some (.int .i64 y) := (World.cell?_alloc_lt w1 _ (a := ⟨g, off + k, none⟩) hgb1).trans c0
        have hbx : BoxF w w1.heap.size zItm (w1.alloc (.cells #[.int .i64 0, .string ⟨#[]⟩, .int .i64 0] 42)).drew := by
          refine ⟨?_, ?_, ?_, ?_, ?_, ?_, by simp, HB1.out.size, (HB1.out.alloc HB1.out.size _).drew⟩
          all_goals simp [go_sem, zItm]
        have HBX := Lib.hid hbx
        clear hbx
        go_region_with (first
          | (go_at_call 23; (with_reducible refine (HG.out _ _ HB1d.out).mono ?_); rintro e w2 ⟨he, hb2⟩; rw [GetPost, HGS.out.1, HGS.out.2] at he; subst he; have HB2 := Lib.hid (HB1d.out.trans (hb2.mono HB1d.out.size)))
          | (go_at_call 23; (with_reducible refine (HG.out _ _ HBX.out.be).mono ?_); rintro e w2 ⟨he, hb2⟩; rw [GetPost, HGS.out.1, HGS.out.2] at he; subst he; obtain ⟨p0, p1, p2, z0, z1, z2, hsz, hlo, hbe⟩ := HBX.out.step hb2; have HB2 := Lib.hid hbe))
        all_goals
          go_wp2
          go_ret2
          first
          | exact ⟨readPost_of (by rw [E1.out, HX.out]) rfl, HB2.out.alloc HB2.out.size _⟩
          | exact ⟨readPost_of (by rw [E1.out, HX.out]) rfl, below_set3 HB2.out _ HB1.out.size _ _ _⟩
    · have E1 := Lib.hid (read_none hgd hb)
      by_cases hlt : b < 0
      · have d1 := decide_eq_true hlt
        clear hgd hml hb
        go_enter Tryd.func27, Tryd.ntmps27
        go_wp2_with fail
        refine (HC.out _ HBA.out.be).mono ?_
        rintro e w1 ⟨he, hb1⟩
        rw [VCheckPost, E2.out] at he
        subst he
        obtain ⟨a0, a1, _, hbe⟩ := HBA.out.step hb1
        have HB1 := Lib.hid hbe
        clear hb1 hbe
        go_wp2
        go_ret2
        exact ⟨readPost_of E1.out rfl, HB1.out⟩
      · have d1 := decide_eq_false hlt
        have d2 : decide (b ≥ (m : Int)) = true := by simp; omega
        clear hgd hml hb
        go_enter Tryd.func27, Tryd.ntmps27
        go_wp2_with fail
        refine (HC.out _ HBA.out.be).mono ?_
        rintro e w1 ⟨he, hb1⟩
        rw [VCheckPost, E2.out] at he
        subst he
        obtain ⟨a0, a1, _, hbe⟩ := HBA.out.step hb1
        have HB1 := Lib.hid hbe
        clear hb1 hbe
        go_wp2
        go_ret2
        exact ⟨readPost_of E1.out rfl, HB1.out⟩
end Go.Proofs.YtphbebcbbfbgpacDoor

namespace Go.Proofs.YtphbebcbbfbgpacDoor
open Go Go.RowKit

end Go.Proofs.YtphbebcbbfbgpacDoor

namespace Go.Proofs.YtphbebcbbfbgpacDoor
open Go Go.RowKit

/-- A call hands back items of its own, an item's number, and an error's. -/
def KeepPost (w : World) (r : List Itm × Int × Int) (e : Ending) (w' : World) : Prop :=
  ∃ A c, e = .returned (.tuple #[.slice A r.1.length c, .int .i64 r.2.1, .int .i64 r.2.2]) ∧ w'.ownsRow w.heap.size 42 3 (.slice A r.1.length c) r.1.length (flat Itm.cell 3 r.1) ∧ Below w.heap.size w w'
theorem KeepPost.nil {w w' : World} {r : List Itm × Int × Int} {i k : Int} (h : r = ([], i, k)) (hb : Below w.heap.size w w') : KeepPost w r (.returned (.tuple #[.slice none 0 0, .int .i64 i, .int .i64 k])) w' := by
  subst h
  exact ⟨none, 0, rfl, World.ownsRow_nil _ _ _ _, hb⟩
theorem KeepPost.mk' {w w' : World} {A : Option Addr} {n c : Nat} {r : List Itm × Int × Int} {ls : List Itm} {i k : Int} (h : r = (ls, i, k)) (hn : n = ls.length) (ho : w'.ownsRow w.heap.size 42 3 (.slice A n c) n (flat Itm.cell 3 ls)) (hb : Below w.heap.size w w') :
    KeepPost w r (.returned (.tuple #[.slice A n c, .int .i64 i, .int .i64 k])) w' := by
  subst h hn
  exact ⟨A, c, rfl, ho, hb⟩
theorem own_slice2 {w : World} {base : Nat} {e : TypeId} {size : Nat} {v : Value} {n : Nat} {xs : List Value} (h : w.ownsRow base e size v n xs) : ∃ A cap, v = .slice A n cap := by
  obtain ⟨A, c, h, _⟩ := own_form h
  exact ⟨A, c, h⟩
theorem itm_flat1 (x : Itm) : flat Itm.cell 3 [x] = [.int .i64 x.id, .string x.data, .int .i64 x.refs] := by
  rw [flat_one]; rfl

end Go.Proofs.YtphbebcbbfbgpacDoor
