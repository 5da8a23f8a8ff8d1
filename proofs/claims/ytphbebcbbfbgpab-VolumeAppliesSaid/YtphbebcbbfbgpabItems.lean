/- Items that a call hands back; append(nil, l...); repo.at; what using an item makes. -/
import Derived.Test.YtphbebcbbfbgpabGet
import Derived.Test.YtphbebcbbfbgpabSame
import Derived.Laws.AppendOwnNone
import Derived.Laws.OwnMore
import Derived.Deep.AppendLies
namespace Go.Proofs.Ytphbebcbbfbgpab
open Go Go.RowKit

/-- append(nil, l...): a new slice with the same rows. -/
theorem wpList_append_rows {P : Program} {w : World} {ops : Array Oper} {rest : List Oper} {o : Oper} {a : Act} {Q : Exit → Act → World → Prop} {α : Type} {f : α → Nat → Value} (hgd : o.guard = none) (s x : Operand) (t : TypeId)
    (ho : o.op = .call { callee := .builtin .append, args := #[s, x], argTypes := #[t, t] })
    (e : TypeId) (i : TypeInfo) (z : Value) (size bytes : Nat) (ht : P.underlying t = some (.slice e)) (hi : P.info? e = some i) (hz : i.zero = some z) (hsize : i.size = size) (hby : i.bytes = bytes) (hzs : z.cells.size = size) (hsz : 0 < size)
    (A : Option Addr) (n c : Nat) (ls : List α) (hs : a.eval s = .slice none 0 0) (hx : a.eval x = .slice A n c) (B : Nat) (hr : Rep w B size f A n ls) (hnil : A = none → n = 0 ∧ c = 0) (h1 : ∀ u ∈ flat f size ls, u.oneCell' = true)
    (h63 : n ≤ maxLen) (hbytes : n * bytes ≤ 140737488355328)
    (h : ∀ A' c' w', w'.ownsRow w.heap.size e size (.slice A' n c') n (flat f size ls) → Below w.heap.size w w' → (A' = none → n = 0 ∧ c' = 0) → wpList P ops Q rest (a.put o.dst (.slice A' n c')) w') : wpList P ops Q (o :: rest) a w := by
  have hn := hr.1
  cases A with
  | none =>
    obtain ⟨rfl, rfl⟩ := hnil rfl
    obtain rfl : ls = [] := List.eq_nil_of_length_eq_zero hn.symm
    exact wpList_append_own_none hgd s x t ho w.heap.size e i size ht hi (.slice none 0 0) 0 [] hs (World.ownsRow_nil _ _ _ _) hx (h none 0 w (World.ownsRow_nil _ _ _ _) (Below.refl _ _) (fun _ => ⟨rfl, rfl⟩))
  | some ad =>
    refine wpList_append_own w hgd s x t ho w.heap.size e i z size bytes ht hi hz hsize hby hzs hsz (.slice none 0 0) 0 [] hs (World.ownsRow_nil _ _ _ _) ad n c (flat f size ls) hx (by rw [flat_length, hn]) hr.flat_any h1 (by omega) (by rw [Nat.zero_add]; exact hbytes) (Nat.le_refl _) ?_
    intro v' w' hown hgr _
    rw [Nat.zero_add, List.nil_append] at hown
    obtain ⟨A', c', rfl, _, _, hn'⟩ := own_form hown
    exact h A' c' w' hown ((Below.refl _ _).grown hgr (Nat.le_refl _) (by intro k hk; cases hk)) hn'

/-- A call hands back items of its own, and an error's number. -/
def ItemsPost (w : World) (ls : List Itm) (k : Int) (e : Ending) (w' : World) : Prop :=
  ∃ A c, e = .returned (.tuple #[.slice A ls.length c, .int .i64 k]) ∧ w'.ownsRow w.heap.size 61 3 (.slice A ls.length c) ls.length (flat Itm.cell 3 ls) ∧ Below w.heap.size w w' ∧ ls.length ≤ c ∧ c ≤ maxLen ∧ (A = none → ls.length = 0 ∧ c = 0)
theorem ItemsPost.nil {w w' : World} {k : Int} (hb : Below w.heap.size w w') : ItemsPost w [] k (.returned (.tuple #[.slice none 0 0, .int .i64 k])) w' :=
  ⟨none, 0, rfl, World.ownsRow_nil _ _ _ _, hb, by simp, by unfold maxLen; omega, fun _ => ⟨rfl, rfl⟩⟩
theorem ItemsPost.mk' {w w' : World} {A : Option Addr} {n c : Nat} {ls : List Itm} {k : Int} (hn : n = ls.length) (h : w'.ownsRow w.heap.size 61 3 (.slice A n c) n (flat Itm.cell 3 ls)) (hb : Below w.heap.size w w') :
    ItemsPost w ls k (.returned (.tuple #[.slice A n c, .int .i64 k])) w' := by
  subst hn
  obtain ⟨A', c', he, h1, h2, h3⟩ := own_form h
  simp only [Value.slice.injEq, true_and] at he
  obtain ⟨rfl, rfl⟩ := he
  exact ⟨A, c, rfl, h, hb, h1, h2, h3⟩

def upRefs (ls : List Itm) (id d : Int) : List Itm := ls.map fun x => if x.id = id then { x with refs := x.refs + d } else x
noncomputable def usedK (ls : List Itm) (id : Int) : Int := if gotK ls id = 0 then (if (gotX ls id).refs = 32 then 1 else 0) else gotK ls id
noncomputable def usedR (ls : List Itm) (id : Int) : List Itm := if usedK ls id = 0 then upRefs ls id 1 else []

theorem got_zero {ls : List Itm} {id : Int} (h : gotK ls id = 0) : Good ls ∧ ∃ k, ∃ hk : k < ls.length, ls[k].id = id ∧ (∀ j (hj : j < k), (ls[j]'(by omega)).id ≠ id) ∧ gotR ls id = ls[k] ∧ gotX ls id = ls[k] := by
  cases hg : goodB ls with
  | false => rw [(got_bad id hg).1] at h; omega
  | true =>
    have g := good_of_B hg
    refine ⟨g, ?_⟩
    rcases id_cases ls id with hno | ⟨k, hk, hid, hb⟩
    · rw [(got_none hg hno).1] at h; omega
    · have h2 := (got_some g hk hid).2
      exact ⟨k, hk, hid, hb, h2, by rw [← h2, gotR, if_pos h]⟩
theorem upRefs_set {ls : List Itm} {id d : Int} {k : Nat} (g : Good ls) (hk : k < ls.length) (hid : ls[k].id = id) : upRefs ls id d = ls.set k { ls[k] with refs := ls[k].refs + d } := by
  apply List.ext_getElem
  · simp [upRefs]
  · intro j h1 h2
    have hj : j < ls.length := by simpa [upRefs] using h1
    rw [List.getElem_set]
    simp only [upRefs, List.getElem_map]
    by_cases hkj : k = j
    · subst hkj
      rw [if_pos rfl, if_pos hid]
    · rw [if_neg hkj, if_neg]
      intro e
      rcases Nat.lt_or_gt_of_ne hkj with hlt | hlt
      · have := g.lt hlt hj; omega
      · have := g.lt hlt hk; omega
theorem flat_set (ls : List Itm) (k : Nat) (hk : k < ls.length) (r : Int) : (flat Itm.cell 3 ls).set (k * 3 + 2) (.int .i64 r) = flat Itm.cell 3 (ls.set k { ls[k] with refs := r }) := by
  induction ls generalizing k with
  | nil => simp at hk
  | cons x ls ih =>
    cases k with
    | zero => rfl
    | succ k =>
      have hk' : k < ls.length := by simpa using hk
      have := ih k hk'
      rw [List.set_cons_succ, flat_cons, flat_cons, List.getElem_cons_succ, ← this, List.set_append]
      rw [if_neg (by rw [List.length_map, List.length_range]; omega), List.length_map, List.length_range, show (k + 1) * 3 + 2 - 3 = k * 3 + 2 from by omega]

theorem at_any (A : Option Addr) (n c k : Nat) (id : Int) (ls : List Itm) (w : World) (h : Rep w w.heap.size 3 Itm.cell A n ls) (hG : Good ls) (hk : k < ls.length) (hid : ls[k].id = id) :
    Calls Try.prog 34 #[.slice A n c, .int .i64 id] w fun e w' => e = .returned (.tuple #[.int .i64 k, .bool true]) ∧ Below w.heap.size w w' := by
  have hb : ∀ x ∈ ls, 0 ≤ x.id ∧ x.id < 24 := fun x hx => ⟨(hG.2.ok x hx).1, (hG.2.ok x hx).2.1⟩
  have hib := hb _ (List.getElem_mem hk)
  rw [hid] at hib
  have hs : ∀ W, Below w.heap.size w W → Calls Try.prog 64 #[.slice A n c, .int .i64 id, .func (.func 66) #[] #[]] W fun e w' => SearchPost ls (cmpA id) e ∧ Below W.heap.size W w' :=
    fun W hbel => search_any 66 (cmpA id) A n c id ls W ((h.below hbel (Nat.le_refl _)).mono hbel.size) (by have := h.1; have := hG.1; omega) (enters_of Try.func66 rfl rfl)
      (fun x hx W' _ => at1_any x id W' (by have := hb x hx; omega) (by have := hb x hx; omega) (by omega) (by omega)) (fun a b hab hb' hlt => by
        have := (cmpA_says id (ls[b]'hb')).1.1 hlt
        exact (cmpA_says id _).1.2 (by have := hG.le hab hb'; omega))
  have HS := Lib.hid hs
  have HG := Lib.hid hG
  have HID := Lib.hid hid
  clear hs hG hid hb hib h
  go_enter Try.func34, Try.ntmps34
  go_wp2_with fail
  refine (HS.out _ (Below.refl _ _)).mono ?_
  rintro e w1 ⟨he, hb1⟩
  obtain rfl := searchPost_at he (fun x _ => cmpA_says id x) HG.out hk HID.out
  clear he
  go_wp2
  go_ret2
  exact ⟨rfl, hb1⟩

end Go.Proofs.Ytphbebcbbfbgpab
