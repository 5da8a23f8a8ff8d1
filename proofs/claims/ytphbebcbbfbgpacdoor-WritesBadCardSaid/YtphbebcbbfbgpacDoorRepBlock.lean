/- A list that lies in a block that was just laid. (and what it wants) -/
import Derived.WalkKit
import Derived.BigQuiet
import Derived.Deep.Draws
import Derived.Deep.QuietTactic
import Derived.Lib.Hide
import Derived.BigGuardPart
import Derived.Maps.OwnSet
import Derived.Maps.AppendAt
namespace Go.Proofs.YtphbebcbbfbgpacDoor
open Go Go.RowKit

/-- The slice value '.slice A n c' holds, row after row of 'size' cells, the list ls; its block lies below B. -/
def Rep {α : Type} (w : World) (B size : Nat) (f : α → Nat → Value) (A : Option Addr) (n : Nat) (ls : List α) : Prop :=
  n = ls.length ∧ (0 < n → ∃ b off, A = some ⟨b, off, none⟩ ∧ b < B ∧ ∀ k (hk : k < ls.length) i, i < size → w.cell? ⟨b, off + k * size + i, none⟩ = some (f ls[k] i))

section
variable {α : Type} {w w' : World} {B B' size n : Nat} {f : α → Nat → Value} {A : Option Addr} {ls : List α}

theorem Rep.len (h : Rep w B size f A n ls) : n = ls.length := h.1

theorem Rep.keep (h : Rep w B size f A n ls) (hk : ∀ p : Addr, p.block < B → w'.cell? p = w.cell? p) : Rep w' B size f A n ls := by
  refine ⟨h.1, fun hn => ?_⟩
  obtain ⟨b, off, e, hb, hc⟩ := h.2 hn
  exact ⟨b, off, e, hb, fun k hk' i hi => (hk _ hb).trans (hc k hk' i hi)⟩

theorem Rep.below (h : Rep w B size f A n ls) (hb : Below B' w w') (hB : B ≤ B') : Rep w' B size f A n ls :=
  h.keep fun _ hp => hb.cell (by omega)

theorem Rep.mono (h : Rep w B size f A n ls) (hB : B ≤ B') : Rep w B' size f A n ls := by
  refine ⟨h.1, fun hn => ?_⟩
  obtain ⟨b, off, e, hb, hc⟩ := h.2 hn
  exact ⟨b, off, e, by omega, hc⟩

theorem Rep.nil (w : World) (B size : Nat) (f : α → Nat → Value) (A : Option Addr) : Rep w B size f A 0 [] := ⟨rfl, fun h => absurd h (by omega)⟩

theorem Rep.at_ {k : Nat} (h : Rep w B size f A n ls) (hk : k < n) : ∃ b off, A = some ⟨b, off, none⟩ ∧ b < B ∧ ∀ i, i < size → w.cell? ⟨b, off + k * size + i, none⟩ = some (f (ls[k]'(by have := h.1; omega)) i) := by
  obtain ⟨b, off, e, hb, hc⟩ := h.2 (by omega)
  exact ⟨b, off, e, hb, fun i hi => hc k _ i hi⟩
end

/-- The cells of a list of rows, one behind the other. -/
def flat {α : Type} (f : α → Nat → Value) (size : Nat) (ls : List α) : List Value := ls.flatMap fun x => (List.range size).map (f x)

section
variable {α : Type} {f : α → Nat → Value} {size : Nat}
theorem flat_nil : flat f size [] = [] := rfl
theorem flat_cons (x : α) (ls : List α) : flat f size (x :: ls) = (List.range size).map (f x) ++ flat f size ls := rfl
theorem flat_append (ls ms : List α) : flat f size (ls ++ ms) = flat f size ls ++ flat f size ms := by simp [flat]
theorem flat_one (x : α) : flat f size [x] = (List.range size).map (f x) := by simp [flat]
theorem flat_length (ls : List α) : (flat f size ls).length = ls.length * size := by
  induction ls with
  | nil => simp [flat_nil]
  | cons x ls ih => rw [flat_cons, List.length_append, ih, List.length_map, List.length_range, List.length_cons, Nat.succ_mul, Nat.add_comm]
theorem flat_at (ls : List α) (k i : Nat) (hk : k < ls.length) (hi : i < size) : (flat f size ls)[k * size + i]? = some (f ls[k] i) := by
  induction ls generalizing k with
  | nil => simp at hk
  | cons x ls ih =>
    rw [flat_cons]
    cases k with
    | zero =>
      rw [List.getElem?_append_left (by simpa using hi)]
      simp [hi]
    | succ k =>
      have hk' : k < ls.length := by simpa using hk
      rw [List.getElem?_append_right (by rw [List.length_map, List.length_range, Nat.succ_mul]; omega), List.length_map, List.length_range,
        show (k + 1) * size + i - size = k * size + i by rw [Nat.succ_mul]; omega, ih k hk']
      rfl
theorem flat_split (ls : List α) (j : Nat) (u : Value) (h : (flat f size ls)[j]? = some u) : ∃ k i, ∃ hk : k < ls.length, i < size ∧ j = k * size + i ∧ u = f ls[k] i := by
  have hj : j < ls.length * size := by rw [← flat_length (f := f)]; exact (List.getElem?_eq_some_iff.1 h).1
  have hs : 0 < size := Nat.pos_of_ne_zero (fun e => by subst e; simp at hj)
  have hk : j / size < ls.length := (Nat.div_lt_iff_lt_mul hs).2 hj
  have hi : j % size < size := Nat.mod_lt _ hs
  have e : j = j / size * size + j % size := by rw [Nat.mul_comm]; exact (Nat.div_add_mod j size).symm
  refine ⟨j / size, j % size, hk, hi, e, ?_⟩
  have := flat_at (f := f) ls (j / size) (j % size) hk hi
  rw [← e, h] at this
  exact Option.some.inj this
theorem flat_take (ls : List α) (k : Nat) : (flat f size ls).take (k * size) = flat f size (ls.take k) := by
  induction ls generalizing k with
  | nil => simp [flat_nil]
  | cons x ls ih =>
    cases k with
    | zero => simp [flat_nil]
    | succ k =>
      rw [flat_cons, List.take_succ_cons, flat_cons, ← ih k, List.take_append, List.length_map, List.length_range, Nat.succ_mul, Nat.add_sub_cancel, List.take_of_length_le (by simp)]
theorem flat_drop (ls : List α) (k : Nat) : (flat f size ls).drop (k * size) = flat f size (ls.drop k) := by
  induction ls generalizing k with
  | nil => simp [flat_nil]
  | cons x ls ih =>
    cases k with
    | zero => simp
    | succ k =>
      rw [flat_cons, List.drop_succ_cons, ← ih k, List.drop_append, List.length_map, List.length_range, Nat.succ_mul, Nat.add_sub_cancel, List.drop_of_length_le (by simp), List.nil_append]

theorem Rep.flat_ {w : World} {B n b off : Nat} {ls : List α} (h : Rep w B size f (some ⟨b, off, none⟩) n ls) :
    ∀ j u, (flat f size ls)[j]? = some u → w.cell? ((⟨b, off, none⟩ : Addr).add j) = some u := by
  intro j u hu
  obtain ⟨k, i, hk, hi, rfl, rfl⟩ := flat_split ls j u hu
  obtain ⟨b', off', e, _, hc⟩ := h.2 (by have := h.1; omega)
  simp only [Option.some.injEq, Addr.mk.injEq, and_true] at e
  obtain ⟨rfl, rfl⟩ := e
  rw [Addr.add_lit, ← Nat.add_assoc]
  exact hc k hk i hi

/-- .. where the slice may be empty and its address whatever. -/
theorem Rep.flat_any {w : World} {B n : Nat} {ad : Addr} {ls : List α} (h : Rep w B size f (some ad) n ls) :
    ∀ j u, (flat f size ls)[j]? = some u → w.cell? (ad.add j) = some u := by
  intro j u hu
  obtain ⟨k, i, hk, _, _, _⟩ := flat_split ls j u hu
  obtain ⟨b, off, e, _, _⟩ := h.2 (by have := h.1; omega)
  obtain rfl := Option.some.inj e
  exact h.flat_ j u hu

/-- What a call owns reads as a list. -/
theorem Rep.of_own {w : World} {base B : Nat} {e : TypeId} {A : Option Addr} {n c : Nat} {ls : List α} (hl : n = ls.length) (h : w.ownsRow base e size (.slice A n c) n (flat f size ls)) (hB : w.heap.size ≤ B) :
    Rep w B size f A n ls := by
  refine ⟨hl, fun hn => ?_⟩
  rcases h.2 with ⟨_, h0⟩ | ⟨g, cap, cur, hv, _, hh, _, _, _, _⟩
  · omega
  · simp only [Value.slice.injEq] at hv
    obtain ⟨rfl, _, _⟩ := hv
    refine ⟨g, 0, rfl, Nat.lt_of_lt_of_le (Array.getElem?_eq_some_iff.1 hh).1 hB, fun k hk i hi => ?_⟩
    have := h.cells (g := g) rfl (k * size + i) _ (flat_at ls k i hk hi)
    rw [Addr.add_lit, ← Nat.add_assoc] at this
    exact this
end

/-- What a call owns is a slice. -/
theorem own_form {w : World} {base : Nat} {e : TypeId} {size n : Nat} {v : Value} {xs : List Value} (h : w.ownsRow base e size v n xs) :
    ∃ A c, v = .slice A n c ∧ n ≤ c ∧ c ≤ maxLen ∧ (A = none → n = 0 ∧ c = 0) := by
  rcases h.2 with ⟨rfl, rfl⟩ | ⟨g, cap, cur, rfl, _, _, hn, hc, _⟩
  · exact ⟨none, 0, rfl, Nat.le_refl _, by unfold maxLen; omega, fun _ => ⟨rfl, rfl⟩⟩
  · exact ⟨_, cap, rfl, hn, hc, fun h => by cases h⟩
theorem own_below {w w' : World} {base : Nat} {e : TypeId} {size n : Nat} {v : Value} {xs : List Value} (h : w.ownsRow base e size v n xs) (hb : Below w.heap.size w w') : w'.ownsRow base e size v n xs :=
  h.kept ⟨hb.os, hb.tape, hb.output, hb.size, fun k hk _ => hb.block k hk⟩ (row := none) (by cases v.ownBlock <;> simp)

theorem own_mono {w : World} {base base' : Nat} {e : TypeId} {size n : Nat} {v : Value} {xs : List Value} (h : w.ownsRow base e size v n xs) (hb : base' ≤ base) : w.ownsRow base' e size v n xs := by
  obtain ⟨h1, h2 | ⟨g, cap, cur, hv, hg, r⟩⟩ := h
  · exact ⟨h1, .inl h2⟩
  · exact ⟨h1, .inr ⟨g, cap, cur, hv, Nat.le_trans hb hg, r⟩⟩

/-- A call hands back a slice of its own that holds these cells; what was there before it is as it was. -/
def OwnPost (w : World) (T : TypeId) (size n : Nat) (cs : List Value) (e : Ending) (w' : World) : Prop :=
  ∃ A c, e = .returned (.slice A n c) ∧ w'.ownsRow w.heap.size T size (.slice A n c) n cs ∧ Below w.heap.size w w' ∧ n ≤ c ∧ c ≤ maxLen ∧ (A = none → n = 0 ∧ c = 0)
theorem OwnPost.mk' {w w' : World} {T : TypeId} {size n : Nat} {cs : List Value} {v : Value} (h : w'.ownsRow w.heap.size T size v n cs) (hb : Below w.heap.size w w') : OwnPost w T size n cs (.returned v) w' := by
  obtain ⟨A, c, rfl, h1, h2, h3⟩ := own_form h
  exact ⟨A, c, rfl, h, hb, h1, h2, h3⟩

theorem below_drewN {B : Nat} {a w : World} (h : Below B a w) (n : Nat) : Below B a (w.drewN n) := ⟨h.os, h.tape, h.output, h.size, h.block⟩

theorem toList_inj {a b : ByteArray} (h : a.toList = b.toList) : a = b := by
  rw [ByteArray.toList_eq, ByteArray.toList_eq] at h
  exact ByteArray.ext (Array.toList_inj.1 h)
theorem toList_beq_no {a b : ByteArray} (h : a ≠ b) : (a.toList == b.toList) = false := by
  rw [beq_eq_false_iff_ne]
  exact fun e => h (toList_inj e)
theorem toList_bne_no {a b : ByteArray} (h : a ≠ b) : (a.toList != b.toList) = true := by
  rw [bne_iff_ne]
  exact fun e => h (toList_inj e)

theorem toList_length (s : ByteArray) : s.toList.length = s.size := by rw [ByteArray.toList_eq]; simp
theorem isEmpty_yes {s : ByteArray} (h : s.size = 0) : s.toList.isEmpty = true := by
  rw [List.isEmpty_iff, ← List.length_eq_zero_iff, toList_length, h]
theorem isEmpty_no {s : ByteArray} (h : s.size ≠ 0) : s.toList.isEmpty = false := by
  rw [Bool.eq_false_iff, ne_eq, List.isEmpty_iff, ← List.length_eq_zero_iff, toList_length]
  exact h

theorem quiet_left {P : Program} {f : FuncId} {args : Array Value} {w : World} {n : Nat} {v : Value} (h : Calls P f args (w.drewN n) fun e w' => e = .returned v ∧ w.drewN n = w') :
    Calls P f args (w.drewN n) fun e w'' => e = .returned v ∧ ∃ m, w'' = w.drewN m :=
  h.mono fun _ _ ⟨he, hm⟩ => ⟨he, n, hm.symm⟩

end Go.Proofs.YtphbebcbbfbgpacDoor

namespace Go.Proofs.YtphbebcbbfbgpacDoor
open Go

structure Itm where
  id : Int
  data : ByteArray
  refs : Int
  deriving DecidableEq, Inhabited

def Itm.cell (x : Itm) : Nat → Value
  | 0 => .int .i64 x.id
  | 1 => .string x.data
  | _ => .int .i64 x.refs

def itmOk (x : Itm) : Prop := 0 ≤ x.id ∧ x.id < 24 ∧ x.data.size ≤ 48 ∧ 1 ≤ x.refs ∧ x.refs ≤ 32
instance (x : Itm) : Decidable (itmOk x) := by unfold itmOk; exact inferInstance

/-- All but the count of P2.1. -/
structure GoodPre (l : List Itm) : Prop where
  ok : ∀ x ∈ l, itmOk x
  ids : l.Pairwise (fun x y => x.id < y.id)
  datas : l.Pairwise (fun x y => x.data ≠ y.data)
def Good (l : List Itm) : Prop := l.length ≤ 24 ∧ GoodPre l
open Classical in
noncomputable def goodN (l : List Itm) : Int := if Good l then 0 else 7

theorem GoodPre.nil : GoodPre [] := ⟨by simp, .nil, .nil⟩
theorem GoodPre.snoc {l : List Itm} {x : Itm} (h : GoodPre l) (hx : itmOk x) (hi : ∀ y ∈ l, y.id < x.id) (hd : ∀ y ∈ l, y.data ≠ x.data) : GoodPre (l ++ [x]) where
  ok := by
    intro y hy
    rcases List.mem_append.1 hy with h1 | h1
    · exact h.ok y h1
    · rw [List.mem_singleton.1 h1]; exact hx
  ids := List.pairwise_append.2 ⟨h.ids, by simp, fun a ha b hb => by rw [List.mem_singleton.1 hb]; exact hi a ha⟩
  datas := List.pairwise_append.2 ⟨h.datas, by simp, fun a ha b hb => by rw [List.mem_singleton.1 hb]; exact hd a ha⟩
theorem GoodPre.left {l r : List Itm} (h : GoodPre (l ++ r)) : GoodPre l :=
  ⟨fun x hx => h.ok x (List.mem_append_left _ hx), (List.pairwise_append.1 h.ids).1, (List.pairwise_append.1 h.datas).1⟩
theorem take_snoc {α : Type} (l : List α) (k : Nat) (h : k < l.length) : l.take (k + 1) = l.take k ++ [l[k]] := List.take_succ_eq_append_getElem h
theorem GoodPre.takeSucc {l : List Itm} {k : Nat} (h : GoodPre (l.take k)) (hk : k < l.length) (hx : itmOk l[k]) (hp : 0 < k → (l[k - 1]'(by omega)).id < l[k].id)
    (hd : l[k].data ∉ (l.take k).map (·.data)) : GoodPre (l.take (k + 1)) := by
  rw [take_snoc l k hk]
  refine h.snoc hx (fun y hy => ?_) (fun y hy e => hd (List.mem_map.2 ⟨y, hy, e⟩))
  obtain ⟨j, hj, rfl⟩ := List.getElem_of_mem hy
  rw [List.length_take] at hj
  have h2 := hp (by omega)
  rw [List.getElem_take]
  by_cases hjk : j = k - 1
  · subst hjk; exact h2
  · have h3 := List.pairwise_iff_getElem.1 h.ids j (k - 1) (by rw [List.length_take]; omega) (by rw [List.length_take]; omega) (by omega)
    rw [List.getElem_take, List.getElem_take] at h3
    omega
theorem goodN_no {l : List Itm} {k : Nat} (hk : k < l.length) (h : itmOk l[k] → (0 < k → (l[k - 1]'(by omega)).id < l[k].id) → l[k].data ∉ (l.take k).map (·.data) → False) : goodN l = 7 := by
  unfold goodN
  rw [if_neg]
  rintro ⟨_, g⟩
  have hl : l = l.take k ++ l.drop k := (List.take_append_drop k l).symm
  refine h (g.ok _ (List.getElem_mem hk)) (fun h0 => List.pairwise_iff_getElem.1 g.ids _ _ _ _ (by omega)) (fun hm => ?_)
  obtain ⟨y, hy, e⟩ := List.mem_map.1 hm
  obtain ⟨j, hj, rfl⟩ := List.getElem_of_mem hy
  rw [List.length_take] at hj
  rw [List.getElem_take] at e
  exact List.pairwise_iff_getElem.1 g.datas j k (by omega) hk (by omega) e
theorem goodN_long {l : List Itm} (h : 24 < l.length) : goodN l = 7 := by
  unfold goodN; rw [if_neg (fun g => by have := g.1; omega)]
theorem goodN_yes {l : List Itm} (h : l.length ≤ 24) (g : GoodPre l) : goodN l = 0 := by
  unfold goodN; rw [if_pos ⟨h, g⟩]
theorem notGood_pair {l : List Itm} {j k : Nat} (hjk : j < k) (hk : k < l.length) (h : l[k].id ≤ (l[j]'(by omega)).id ∨ (l[j]'(by omega)).data = l[k].data) : ¬ Good l := by
  rintro ⟨_, g⟩
  rcases h with h | h
  · have := List.pairwise_iff_getElem.1 g.ids j k (by omega) hk hjk
    omega
  · exact List.pairwise_iff_getElem.1 g.datas j k (by omega) hk hjk h
theorem notGood_item {l : List Itm} {k : Nat} (hk : k < l.length) (h : ¬ itmOk l[k]) : ¬ Good l := fun g => h (g.2.ok _ (List.getElem_mem hk))
theorem notGood_long {l : List Itm} (h : 24 < l.length) : ¬ Good l := fun g => by have := g.1; omega
open Classical in
noncomputable def goodB (l : List Itm) : Bool := decide (Good l)
theorem goodB_false {l : List Itm} (h : ¬ Good l) : goodB l = false := by simp [goodB, h]
theorem goodB_true {l : List Itm} (h : Good l) : goodB l = true := by simp [goodB, h]
theorem goodN_eq (l : List Itm) : goodN l = if goodB l then 0 else 7 := by
  unfold goodN goodB
  by_cases g : Good l <;> simp [g]
end Go.Proofs.YtphbebcbbfbgpacDoor

namespace Go.Proofs.YtphbebcbbfbgpacDoor
open Go Go.RowKit Go.Maps

instance : LawfulBEq ByteArray where
  eq_of_beq := by
    rintro ⟨a⟩ ⟨b⟩ h
    have : (a == b) = true := h
    simpa using this
  rfl := by
    rintro ⟨a⟩
    show (a == a) = true
    simp

theorem snocInd {α : Type} {C : List α → Prop} (l : List α) (h0 : C []) (h1 : ∀ l a, C l → C (l ++ [a])) : C l := by
  have h : ∀ l : List α, C l.reverse := fun l => by
    induction l with
    | nil => exact h0
    | cons a l ih => rw [List.reverse_cons]; exact h1 _ _ ih
  have := h l.reverse
  rwa [List.reverse_reverse] at this

def strKey (s : ByteArray) : Lit := .string s.data.toList
theorem strKey_inj {s t : ByteArray} (h : strKey s = strKey t) : s = t := by
  simp only [strKey, Lit.string.injEq] at h
  exact ByteArray.ext (Array.toList_inj.1 h)
theorem strKey_isKey (s : ByteArray) : WideAt.IsKeyLit (strKey s) := trivial

/-- Block b is a map whose keys, each with true, are the strings of ss. -/
def StrSet (P : Program) (kT bT : TypeId) (w : World) (b : Nat) (ss : List ByteArray) : Prop :=
  w.ownsMap (H := Unit) P kT (plainElem P bT) b ss.length (setOf (.lit (.bool true)) (ss.map strKey))

section
variable {P : Program} {kT bT t : TypeId} {w w' : World} {b : Nat} {ss : List ByteArray}

theorem StrSet.made (P : Program) (kT bT : TypeId) (w : World) : StrSet P kT bT (w.alloc (.map #[] 0)) w.heap.size [] :=
  World.ownsMap_made w P kT (plainElem P bT)
theorem StrSet.kept {row : Option Nat} (h : StrSet P kT bT w b ss) (hg : w.grownBy w' row) (hne : some b ≠ row) : StrSet P kT bT w' b ss := World.ownsMap.kept h hg hne
theorem StrSet.alloc (h : StrSet P kT bT w b ss) (o : Obj) : StrSet P kT bT (w.alloc o) b ss := World.ownsMap.alloc h o
theorem StrSet.below (h : StrSet P kT bT w b ss) (hb : Below w.heap.size w w') : StrSet P kT bT w' b ss :=
  h.kept ⟨hb.os, hb.tape, hb.output, hb.size, fun k hk _ => hb.block k hk⟩ (row := none) (by simp)
theorem StrSet.drewN (h : StrSet P kT bT w b ss) (n : Nat) : StrSet P kT bT (w.drewN n) b ss := h
theorem StrSet.lt (h : StrSet P kT bT w b ss) : b < w.heap.size := World.ownsMap.lt h

theorem mem_strKeys {ss : List ByteArray} {s : ByteArray} : (ss.map strKey).any (fun x => x.sameKey (strKey s)) = decide (s ∈ ss) := by
  rw [Bool.eq_iff_iff, List.any_eq_true, decide_eq_true_iff]
  constructor
  · rintro ⟨x, hx, hs⟩
    obtain ⟨y, hy, rfl⟩ := List.mem_map.1 hx
    have := strKey_inj ((WideAt.sameKey_iff (strKey_isKey s)).1 hs)
    rwa [← this]
  · intro hs
    exact ⟨_, List.mem_map.2 ⟨s, hs, rfl⟩, (WideAt.sameKey_iff (strKey_isKey s)).2 rfl⟩

theorem keys_isKey (ss : List ByteArray) : ∀ x ∈ ss.map strKey, WideAt.IsKeyLit x := by
  intro x hx
  obtain ⟨y, _, rfl⟩ := List.mem_map.1 hx
  exact strKey_isKey y

theorem atKey_strSet (ss : List ByteArray) (s : ByteArray) :
    (setOf (H := Unit) (.lit (.bool true)) (ss.map strKey)).atKey (strKey s) (.lit (.bool false)) = .lit (.bool (decide (s ∈ ss))) := by
  refine snocInd (C := fun ss => (setOf (H := Unit) (.lit (.bool true)) (ss.map strKey)).atKey (strKey s) (.lit (.bool false)) = .lit (.bool (decide (s ∈ ss)))) ss ?_ ?_
  · rfl
  · intro ss x ih
    rw [List.map_append, List.map_cons, List.map_nil, setOf_snoc]
    by_cases hx : s = x
    · subst hx
      rw [atKey_put_same (Tidy.isMap (tidy_setOf _ _ (keys_isKey ss))) (strKey_isKey s)]
      simp
    · rw [atKey_put_other (fun e => hx (strKey_inj e)), ih]
      simp [hx]

theorem StrSet.lookup (h : StrSet P kT bT w b ss) (hk : P.underlying kT = some .string) (hb : P.underlying bT = some .bool) (ht : P.underlying t = some (.map kT bT))
    (hz : (zeroValue bT).run P w = .ok (.bool false) w) {s : ByteArray} (hs : s.size ≤ maxLen) :
    (Instr.lookup t (.map (some b)) (.string s) false).run P w = .ok (.bool (decide (s ∈ ss))) w := by
  obtain ⟨v, ps, hrun, hv⟩ := World.ownsMap.lookup h (string_keyed hk) ht hz (plainElem_bool hb false) (WideMaps.keyOf_string_mk hk hs)
  rw [show (Lit.string s.data.toList) = strKey s from rfl, atKey_strSet] at hv
  have : v = .bool (decide (s ∈ ss)) := by
    unfold plainElem at hv
    rw [hb] at hv
    cases v <;> simp at hv
    obtain ⟨rfl, _⟩ := hv
    rfl
  rw [hrun, this]

theorem StrSet.put (h : StrSet P kT bT w b ss) (hk : P.underlying kT = some .string) (hb : P.underlying bT = some .bool) (ht : P.underlying t = some (.map kT bT))
    {s : ByteArray} (hs : s.size ≤ maxLen) (hn : ss.length < maxLen) :
    ∃ w', (Instr.mapUpdate t (.map (some b)) (.string s) (.bool true)).run P w = .ok () w' ∧ StrSet P kT bT w' b (ss ++ [s]) ∧ w.grownBy w' (some b) := by
  obtain ⟨w', hrun, h1, h2⟩ := World.ownsMap.update h (string_keyed hk) ht hn (WideMaps.keyOf_string_mk hk hs) (plainElem_bool hb true)
  refine ⟨w', hrun, ?_, h2⟩
  unfold StrSet
  rw [List.map_append, List.map_cons, List.map_nil, setOf_snoc, List.length_append]
  exact h1

/-- the different strings of a list -/
def dedupe (ss : List ByteArray) : List ByteArray := ss.foldl (fun acc x => if x ∈ acc then acc else acc ++ [x]) []

theorem foldl_addKey (ss : List ByteArray) (acc : List ByteArray) :
    (ss.map strKey).foldl addKey (acc.map strKey) = (ss.foldl (fun acc x => if x ∈ acc then acc else acc ++ [x]) acc).map strKey := by
  induction ss generalizing acc with
  | nil => rfl
  | cons x ss ih =>
    rw [List.map_cons, List.foldl_cons, List.foldl_cons, ← ih]
    congr 1
    unfold addKey
    rw [mem_strKeys]
    by_cases hx : x ∈ acc <;> simp [hx]

theorem StrSet.len (h : StrSet P kT bT w b ss) (ht : P.underlying t = some (.map kT bT)) (ty : TypeId) :
    (Builtin.len_ #[t] ty #[.map (some b)]).run P w = .ok (.int .i64 (dedupe ss).length) w := by
  have := World.ownsMap.len h ht ty
  rw [size_setOf _ _ (keys_isKey ss)] at this
  have e := foldl_addKey ss []
  simp only [List.map_nil] at e
  rw [e, List.length_map] at this
  exact this

theorem wpList_strSet_put {ops : Array Oper} {rest : List Oper} {o : Oper} {a : Act} {Q : Exit → Act → World → Prop}
    (hg : o.guard = none) (m x v : Operand) (t : TypeId) (hop : o.op = Op.mapUpdate t m x v) (hk : P.underlying kT = some .string) (hb : P.underlying bT = some .bool) (ht : P.underlying t = some (.map kT bT))
    (s : ByteArray) (hm : a.eval m = .map (some b)) (hx : a.eval x = .string s) (hv : a.eval v = .bool true) (hown : StrSet P kT bT w b ss) (hs : s.size ≤ maxLen) (hn : ss.length < maxLen)
    (hK : ∀ w', StrSet P kT bT w' b (ss ++ [s]) → w.grownBy w' (some b) → wpList P ops Q rest (a.put o.dst undef) w') :
    wpList P ops Q (o :: rest) a w := by
  refine wpList_plain hg fun K' hK' => ?_
  obtain ⟨w', hrun, r1, r2⟩ := hown.put hk hb ht hs hn
  unfold Oper.wp
  simp [execOp, hop, hm, hx, hv, hrun, Result.andThen]
  exact hK' _ _ (hK w' r1 r2)
end

def intKey (x : Int) : Lit := .int .i64 x
theorem intKey_ne {x y : Int} (h : x ≠ y) : intKey x ≠ intKey y := fun e => h (by simpa [intKey] using e)
theorem intKey_isKey (x : Int) : WideAt.IsKeyLit (intKey x) := trivial

/-- the different numbers of a list -/
def dedupeI (xs : List Int) : List Int := xs.foldl (fun acc x => if x ∈ acc then acc else acc ++ [x]) []
theorem dedupeI_snoc (xs : List Int) (x : Int) : dedupeI (xs ++ [x]) = if x ∈ dedupeI xs then dedupeI xs else dedupeI xs ++ [x] := by unfold dedupeI; rw [List.foldl_append]; rfl
theorem mem_dedupeI {xs : List Int} {x : Int} : x ∈ dedupeI xs ↔ x ∈ xs := by
  suffices h : ∀ x, x ∈ dedupeI xs ↔ x ∈ xs from h x
  refine snocInd (C := fun xs => ∀ x, x ∈ dedupeI xs ↔ x ∈ xs) xs (by simp [dedupeI]) (fun l a ih x => ?_)
  rw [dedupeI_snoc]
  by_cases h : a ∈ dedupeI l
  · rw [if_pos h, List.mem_append, ih x]
    constructor
    · exact .inl
    · rintro (h1 | h1)
      · exact h1
      · rw [List.mem_singleton.1 h1]; exact (ih a).1 h
  · rw [if_neg h, List.mem_append, List.mem_append, ih x]
theorem nodup_dedupeI (xs : List Int) : (dedupeI xs).Nodup := by
  refine snocInd (C := fun xs => (dedupeI xs).Nodup) xs (by simp [dedupeI]) (fun l a ih => ?_)
  rw [dedupeI_snoc]
  split
  · exact ih
  · rename_i h
    rw [List.nodup_append]
    exact ⟨ih, by simp, fun x hx y hy => by rw [List.mem_singleton.1 hy]; rintro rfl; exact h hx⟩

/-- Block b is a map that counts the numbers of xs. -/
def CntMap (P : Program) (kT eT : TypeId) (w : World) (b : Nat) (xs : List Int) : Prop :=
  ∃ D : DataW Unit, w.ownsMap P kT (plainElem P eT) b xs.length D ∧ Tidy D ∧ (∀ x, D.atKey (intKey x) (.lit (.int .i64 0)) = .lit (.int .i64 (xs.count x : Nat))) ∧
    (∀ x, has D (intKey x) = decide (x ∈ xs)) ∧ Maps.size D = (dedupeI xs).length

section
variable {P : Program} {kT eT t : TypeId} {w w' : World} {b : Nat} {xs : List Int}
theorem CntMap.made (P : Program) (kT eT : TypeId) (w : World) : CntMap P kT eT (w.alloc (.map #[] 0)) w.heap.size [] :=
  ⟨_, World.ownsMap_made w P kT (plainElem P eT), tidy_empty, fun x => by simp [DataW.atKey], fun x => by simp [has], by simp [Maps.size, dedupeI]⟩
theorem CntMap.kept {row : Option Nat} (h : CntMap P kT eT w b xs) (hg : w.grownBy w' row) (hne : some b ≠ row) : CntMap P kT eT w' b xs := by
  obtain ⟨D, h1, h2⟩ := h
  exact ⟨D, h1.kept hg hne, h2⟩
theorem CntMap.alloc (h : CntMap P kT eT w b xs) (o : Obj) : CntMap P kT eT (w.alloc o) b xs := h.kept (World.grownBy_alloc w o none) (by simp)
theorem CntMap.below (h : CntMap P kT eT w b xs) (hb : Below w.heap.size w w') : CntMap P kT eT w' b xs :=
  h.kept ⟨hb.os, hb.tape, hb.output, hb.size, fun k hk _ => hb.block k hk⟩ (row := none) (by simp)
theorem CntMap.drewN (h : CntMap P kT eT w b xs) (n : Nat) : CntMap P kT eT (w.drewN n) b xs := h
theorem CntMap.lt (h : CntMap P kT eT w b xs) : b < w.heap.size := by obtain ⟨D, h1, _⟩ := h; exact h1.lt
theorem CntMap.lookup (h : CntMap P kT eT w b xs) (hk : P.underlying kT = some (.int .i64)) (he : P.underlying eT = some (.int .i64)) (ht : P.underlying t = some (.map kT eT))
    (hz : (zeroValue eT).run P w = .ok (.int .i64 0) w) {x : Int} (hx : (Lit.int .i64 x).wf = true) :
    (Instr.lookup t (.map (some b)) (.int .i64 x) false).run P w = .ok (.int .i64 (xs.count x : Nat)) w := by
  obtain ⟨D, h1, _, h3, _⟩ := h
  obtain ⟨c, hrun, hc, _⟩ := h1.lookup_int (int_keyed hk) ht he hz (keyOf_int_mk hk hx)
  rw [show (Lit.int .i64 x) = intKey x from rfl, h3] at hc
  simp only [DataW.lit.injEq, Lit.int.injEq, true_and] at hc
  rw [hrun, ← hc]
theorem CntMap.put (h : CntMap P kT eT w b xs) (hk : P.underlying kT = some (.int .i64)) (he : P.underlying eT = some (.int .i64)) (ht : P.underlying t = some (.map kT eT))
    {x : Int} (hx : (Lit.int .i64 x).wf = true) (hn : xs.length < maxLen) :
    ∃ w', (Instr.mapUpdate t (.map (some b)) (.int .i64 x) (.int .i64 ((xs.count x : Nat) + 1))).run P w = .ok () w' ∧ CntMap P kT eT w' b (xs ++ [x]) ∧ w.grownBy w' (some b) := by
  obtain ⟨D, h1, h2, h3, h4, h5⟩ := h
  have hcl : xs.count x ≤ xs.length := List.count_le_length
  have hw : (Lit.int .i64 ((xs.count x : Nat) + 1)).wf = true := by
    unfold maxLen at hn
    exact WalkArith.wf_i64 (by omega)
  obtain ⟨w', hrun, r1, r2⟩ := h1.update (int_keyed hk) ht hn (keyOf_int_mk hk hx) (plainElem_int he hw)
  refine ⟨w', hrun, ⟨D.put (intKey x) (.lit (.int .i64 ((xs.count x : Nat) + 1))), by rw [List.length_append]; exact r1, h2.put (intKey_isKey x) _, fun y => ?_, fun y => ?_, ?_⟩, r2⟩
  · by_cases hy : y = x
    · subst hy
      rw [atKey_put_same h2.isMap (intKey_isKey y)]
      simp
    · rw [atKey_put_other (intKey_ne hy), h3]
      simp [List.count_append, Ne.symm hy]
  · by_cases hy : y = x
    · subst hy
      rw [has_put_same h2.isMap (intKey_isKey y)]
      simp
    · rw [has_put_other (intKey_ne hy), h4]
      simp [hy]
  · rw [size_put h2, h4, h5, dedupeI_snoc]
    by_cases hm : x ∈ xs
    · rw [if_pos (by simpa using hm), if_pos (mem_dedupeI.2 hm)]
    · rw [if_neg (by simpa using hm), if_neg (fun h => hm (mem_dedupeI.1 h)), List.length_append]; rfl
theorem CntMap.len (h : CntMap P kT eT w b xs) (ht : P.underlying t = some (.map kT eT)) (ty : TypeId) :
    (Builtin.len_ #[t] ty #[.map (some b)]).run P w = .ok (.int .i64 (dedupeI xs).length) w := by
  obtain ⟨D, h1, _, _, _, h5⟩ := h
  rw [h1.len ht ty, h5]

theorem wpList_cntMap_put {ops : Array Oper} {rest : List Oper} {o : Oper} {a : Act} {Q : Exit → Act → World → Prop}
    (hg : o.guard = none) (m x v : Operand) (t : TypeId) (hop : o.op = Op.mapUpdate t m x v) (hk : P.underlying kT = some (.int .i64)) (he : P.underlying eT = some (.int .i64)) (ht : P.underlying t = some (.map kT eT))
    (y : Int) (hm : a.eval m = .map (some b)) (hx : a.eval x = .int .i64 y) (hv : a.eval v = .int .i64 ((xs.count y : Nat) + 1)) (hown : CntMap P kT eT w b xs) (hs : (Lit.int .i64 y).wf = true) (hn : xs.length < maxLen)
    (hK : ∀ w', CntMap P kT eT w' b (xs ++ [y]) → w.grownBy w' (some b) → wpList P ops Q rest (a.put o.dst undef) w') :
    wpList P ops Q (o :: rest) a w := by
  refine wpList_plain hg fun K' hK' => ?_
  obtain ⟨w', hrun, r1, r2⟩ := hown.put hk he ht hs hn
  unfold Oper.wp
  simp [execOp, hop, hm, hx, hv, hrun, Result.andThen]
  exact hK' _ _ (hK w' r1 r2)
end
end Go.Proofs.YtphbebcbbfbgpacDoor

namespace Go.Proofs.YtphbebcbbfbgpacDoor
open Go

structure GoodVol (ls : List Itm) (bs : List Int) : Prop where
  good : Good ls
  lo : 1 ≤ bs.length
  hi : bs.length ≤ 32
  ge : ∀ b ∈ bs, -1 ≤ b
  ids : ∀ b ∈ bs, 0 ≤ b → ∃ x ∈ ls, x.id = b
  refs : ∀ x ∈ ls, (bs.count x.id : Int) = x.refs
  data : ∀ x ∈ ls, x.data.size ≠ 0
open Classical in
noncomputable def goodVN (ls : List Itm) (bs : List Int) : Int := if GoodVol ls bs then 0 else 7
open Classical in
noncomputable def goodVB (ls : List Itm) (bs : List Int) : Bool := decide (GoodVol ls bs)
theorem goodVN_no {ls : List Itm} {bs : List Int} (h : ¬ GoodVol ls bs) : goodVN ls bs = 7 := by simp [goodVN, h]
theorem goodVN_yes {ls : List Itm} {bs : List Int} (h : GoodVol ls bs) : goodVN ls bs = 0 := by simp [goodVN, h]
theorem goodVB_no {ls : List Itm} {bs : List Int} (h : ¬ GoodVol ls bs) : goodVB ls bs = false := by simp [goodVB, h]
theorem goodVB_yes {ls : List Itm} {bs : List Int} (h : GoodVol ls bs) : goodVB ls bs = true := by simp [goodVB, h]
theorem goodVN_eq (ls : List Itm) (bs : List Int) : goodVN ls bs = if goodVB ls bs then 0 else 7 := by
  unfold goodVN goodVB
  by_cases g : GoodVol ls bs <;> simp [g]

/-- the blocks that are not empty -/
def notEmpty (bs : List Int) : List Int := bs.filter (fun b => decide (0 ≤ b))
theorem notEmpty_snoc (bs : List Int) (b : Int) : notEmpty (bs ++ [b]) = if 0 ≤ b then notEmpty bs ++ [b] else notEmpty bs := by
  unfold notEmpty
  rw [List.filter_append]
  by_cases h : 0 ≤ b <;> simp [h]
theorem mem_notEmpty {bs : List Int} {b : Int} : b ∈ notEmpty bs ↔ b ∈ bs ∧ 0 ≤ b := by simp [notEmpty]
theorem count_notEmpty {bs : List Int} {b : Int} (h : 0 ≤ b) : (notEmpty bs).count b = bs.count b := by
  unfold notEmpty
  rw [List.count_filter (by simpa using h)]

theorem length_le_of_subset {l m : List Int} (hl : l.Nodup) (h : ∀ x ∈ l, x ∈ m) : l.length ≤ m.length := by
  induction l generalizing m with
  | nil => simp
  | cons a l ih =>
    have ha : a ∈ m := h a (by simp)
    have hl' := List.nodup_cons.1 hl
    have : l.length ≤ (m.erase a).length := ih hl'.2 (fun x hx => by
      have hne : x ≠ a := fun e => hl'.1 (e ▸ hx)
      exact (List.mem_erase_of_ne hne).2 (h x (by simp [hx])))
    rw [List.length_erase_of_mem ha] at this
    have hp : 0 < m.length := List.length_pos_of_mem ha
    simp only [List.length_cons]
    omega

theorem sub_of_length {l m : List Int} (hl : l.Nodup) (h : ∀ x ∈ l, x ∈ m) (hlen : m.length ≤ l.length) : ∀ x ∈ m, x ∈ l := by
  intro x hx
  by_cases hxl : x ∈ l
  · exact hxl
  · have := length_le_of_subset (l := x :: l) (m := m) (List.nodup_cons.2 ⟨hxl, hl⟩) (fun y hy => by
      rcases List.mem_cons.1 hy with rfl | hy
      · exact hx
      · exact h y hy)
    simp at this
    omega

theorem ids_nodup {ls : List Itm} (h : GoodPre ls) : (ls.map (·.id)).Nodup := by
  rw [List.nodup_iff_pairwise_ne, List.pairwise_map]
  exact List.pairwise_iff_getElem.2 (fun i j hi hj hij => by have := List.pairwise_iff_getElem.1 h.ids i j hi hj hij; omega)

/-- The program's test by counting the different blocks. -/
theorem goodVol_iff {ls : List Itm} {bs : List Int} (g : Good ls) (h1 : 1 ≤ bs.length) (h2 : bs.length ≤ 32) (h3 : ∀ b ∈ bs, -1 ≤ b) (h4 : ∀ x ∈ ls, ((notEmpty bs).count x.id : Int) = x.refs) (h5 : ∀ x ∈ ls, x.data.size ≠ 0) :
    GoodVol ls bs ↔ (dedupeI (notEmpty bs)).length = ls.length := by
  have hsub : ∀ y ∈ ls.map (·.id), y ∈ dedupeI (notEmpty bs) := by
    intro y hy
    obtain ⟨x, hx, rfl⟩ := List.mem_map.1 hy
    have hr := (g.2.ok x hx).2.2.2.1
    have hc := h4 x hx
    rw [mem_dedupeI]
    exact List.count_pos_iff.1 (by omega)
  have hl := ids_nodup g.2
  constructor
  · intro gv
    have := length_le_of_subset (nodup_dedupeI (notEmpty bs)) (m := ls.map (·.id)) (fun y hy => by
      rw [mem_dedupeI, mem_notEmpty] at hy
      obtain ⟨x, hx, e⟩ := gv.ids y hy.1 hy.2
      exact List.mem_map.2 ⟨x, hx, e⟩)
    have h6 := length_le_of_subset hl hsub
    simp only [List.length_map] at this h6
    omega
  · intro e
    have := sub_of_length hl hsub (by simp [e])
    refine ⟨g, h1, h2, h3, fun b hb h0 => ?_, fun x hx => ?_, h5⟩
    · obtain ⟨x, hx, e⟩ := List.mem_map.1 (this b (mem_dedupeI.2 (mem_notEmpty.2 ⟨hb, h0⟩)))
      exact ⟨x, hx, e⟩
    · rw [← h4 x hx, count_notEmpty (g.2.ok x hx).1]
end Go.Proofs.YtphbebcbbfbgpacDoor

namespace Go.Proofs.YtphbebcbbfbgpacDoor
open Go

structure Wrt where
  block : Int
  data : ByteArray
  deriving DecidableEq, Inhabited

def Wrt.cell (x : Wrt) : Nat → Value
  | 0 => .int .i64 x.block
  | _ => .string x.data

/-- the fault of the first write that may not be; the block of the write before -/
def faultL (b : Int) : Option Int → List Wrt → Int
  | _, [] => 0
  | p, x :: r => if 0 ≤ x.block ∧ x.block < b then (if x.data.size ≤ 48 then (if ∀ q, p = some q → q < x.block then faultL b (some x.block) r else 4) else 1) else 6
def writesK (ls : List Wrt) (b : Int) : Int := if ls.length ≤ 12 then faultL b none ls else 1

structure GoodW (ls : List Wrt) (b : Int) : Prop where
  len : ls.length ≤ 12
  lo : ∀ x ∈ ls, 0 ≤ x.block
  hi : ∀ x ∈ ls, x.block < b
  size : ∀ x ∈ ls, x.data.size ≤ 48
  asc : ls.Pairwise (fun x y => x.block < y.block)

theorem faultL_zero (b : Int) : ∀ (ls : List Wrt) (p : Option Int), faultL b p ls = 0 ↔ (∀ x ∈ ls, 0 ≤ x.block ∧ x.block < b ∧ x.data.size ≤ 48) ∧ ls.Pairwise (fun x y => x.block < y.block) ∧ (∀ q, p = some q → ∀ x ∈ ls, q < x.block)
  | [], p => by simp [faultL]
  | x :: r, p => by
    rw [faultL]
    by_cases h1 : 0 ≤ x.block ∧ x.block < b
    · rw [if_pos h1]
      by_cases h2 : x.data.size ≤ 48
      · rw [if_pos h2]
        by_cases h3 : ∀ q, p = some q → q < x.block
        · rw [if_pos h3, faultL_zero b r (some x.block), List.pairwise_cons]
          constructor
          · rintro ⟨a1, a2, a3⟩
            refine ⟨?_, ⟨a3 x.block rfl, a2⟩, ?_⟩
            · intro y hy
              rcases List.mem_cons.1 hy with rfl | hy
              · exact ⟨h1.1, h1.2, h2⟩
              · exact a1 y hy
            · intro q hq y hy
              rcases List.mem_cons.1 hy with rfl | hy
              · exact h3 q hq
              · have := h3 q hq
                have := a3 x.block rfl y hy
                omega
          · rintro ⟨a1, ⟨a2, a3⟩, a4⟩
            exact ⟨fun y hy => a1 y (List.mem_cons_of_mem _ hy), a3, fun q hq => by cases hq; exact a2⟩
        · rw [if_neg h3]
          refine ⟨fun h => absurd h (by omega), fun ⟨_, _, a3⟩ => ?_⟩
          exact absurd (fun q hq => a3 q hq x (by simp)) h3
      · rw [if_neg h2]
        refine ⟨fun h => absurd h (by omega), fun ⟨a1, _⟩ => absurd (a1 x (by simp)).2.2 h2⟩
    · rw [if_neg h1]
      refine ⟨fun h => absurd h (by omega), fun ⟨a1, _⟩ => absurd ⟨(a1 x (by simp)).1, (a1 x (by simp)).2.1⟩ h1⟩
theorem writesK_zero {ls : List Wrt} {b : Int} : writesK ls b = 0 ↔ GoodW ls b := by
  unfold writesK
  by_cases h : ls.length ≤ 12
  · rw [if_pos h, faultL_zero]
    constructor
    · rintro ⟨h1, h2, _⟩
      exact ⟨h, fun x hx => (h1 x hx).1, fun x hx => (h1 x hx).2.1, fun x hx => (h1 x hx).2.2, h2⟩
    · rintro ⟨_, h1, h2, h3, h4⟩
      exact ⟨fun x hx => ⟨h1 x hx, h2 x hx, h3 x hx⟩, h4, fun q hq => by cases hq⟩
  · rw [if_neg h]
    exact ⟨fun e => absurd e (by omega), fun g => absurd g.len h⟩

/-- the block ahead of place i -/
def prevB (ls : List Wrt) (i : Nat) : Option Int := if 0 < i then (ls[i - 1]?).map (·.block) else none
theorem faultL_end (ls : List Wrt) (b : Int) {i : Nat} (h : ls.length ≤ i) (p : Option Int) : faultL b p (ls.drop i) = 0 := by rw [List.drop_of_length_le h]; rfl
theorem faultL_step (ls : List Wrt) (b : Int) {i : Nat} (h : i < ls.length) :
    faultL b (prevB ls i) (ls.drop i) = if 0 ≤ ls[i].block ∧ ls[i].block < b then (if ls[i].data.size ≤ 48 then (if ∀ q, prevB ls i = some q → q < ls[i].block then faultL b (prevB ls (i + 1)) (ls.drop (i + 1)) else 4) else 1) else 6 := by
  have e : prevB ls (i + 1) = some ls[i].block := by simp [prevB, h]
  rw [List.drop_eq_getElem_cons h, faultL, e]
theorem prevB_lt {ls : List Wrt} {i : Nat} (h : i < ls.length) (h0 : 0 < i) : (∀ q, prevB ls i = some q → q < ls[i].block) ↔ (ls[i - 1]'(by omega)).block < ls[i].block := by
  have e : prevB ls i = some (ls[i - 1]'(by omega)).block := by
    unfold prevB; rw [if_pos h0, List.getElem?_eq_getElem (by omega)]; rfl
  rw [e]
  exact ⟨fun h => h _ rfl, fun h q hq => by cases hq; exact h⟩
theorem prevB_zero {ls : List Wrt} (x : Int) : (∀ q, prevB ls 0 = some q → q < x) := fun q hq => by simp [prevB] at hq
end Go.Proofs.YtphbebcbbfbgpacDoor

namespace Go.Proofs.YtphbebcbbfbgpacDoor

/-- how many bytes at the front are the first one -/
def runLen : List UInt8 → Nat
  | [] => 0
  | [_] => 1
  | a :: b :: l => if b = a then runLen (b :: l) + 1 else 1

theorem runLen_le : ∀ l, runLen l ≤ l.length
  | [] => by simp [runLen]
  | [_] => by simp [runLen]
  | a :: b :: l => by
    have := runLen_le (b :: l)
    simp only [runLen, List.length_cons] at this ⊢
    split <;> omega
theorem runLen_pos : ∀ l, l ≠ [] → 1 ≤ runLen l
  | [], h => absurd rfl h
  | [_], _ => by simp [runLen]
  | a :: b :: l, _ => by
    simp only [runLen]
    split <;> omega
/-- within the run all bytes are the first -/
theorem runLen_same : ∀ (l : List UInt8) (j : Nat), j < runLen l → ∀ (h0 : 0 < l.length) (hj : j < l.length), l[j] = l[0]
  | [], j, h, h0, _ => absurd h0 (by simp)
  | [_], j, h, _, hj => by
    have : j = 0 := by simp at hj; omega
    subst this; rfl
  | a :: b :: l, j, h, h0, hj => by
    simp only [runLen] at h
    split at h
    · rename_i hba
      cases j with
      | zero => rfl
      | succ j =>
        have := runLen_same (b :: l) j (by omega) (by simp) (by simpa using hj)
        simpa [hba] using this
    · have : j = 0 := by omega
      subst this; rfl
/-- behind it stands another -/
theorem runLen_stop : ∀ (l : List UInt8) (h : runLen l < l.length) (h0 : 0 < l.length), l[runLen l] ≠ l[0]
  | [], _, h0 => absurd h0 (by simp)
  | [_], h, _ => by simp [runLen] at h
  | a :: b :: l, h, h0 => by
    by_cases hba : b = a
    · have e : runLen (a :: b :: l) = runLen (b :: l) + 1 := by simp only [runLen, if_pos hba]
      have hl : runLen (b :: l) < (b :: l).length := by simp only [List.length_cons] at h ⊢; omega
      have := runLen_stop (b :: l) hl (by simp)
      simp only [e, List.getElem_cons_succ, List.getElem_cons_zero]
      simpa [hba] using this
    · have e : runLen (a :: b :: l) = 1 := by simp only [runLen, if_neg hba]
      simp only [e]
      simpa using hba
/-- so a count that has come so far, and cannot go on, is the run's length -/
theorem runLen_eq {l : List UInt8} {n : Nat} (hn : 1 ≤ n) (hl : n ≤ l.length) (hs : ∀ j (hj : j < n), l[j]'(by omega) = l[0]'(by omega)) (he : ∀ h : n < l.length, l[n] ≠ l[0]'(by omega)) : runLen l = n := by
  rcases Nat.lt_trichotomy (runLen l) n with h | h | h
  · exact absurd (hs (runLen l) h) (runLen_stop l (by omega) (by omega))
  · exact h
  · have hle := runLen_le l
    exact absurd (runLen_same l n h (by omega) (by omega)) (he (by omega))

/-- how many bytes stand as they are: up to the next run of three -/
def plainLen : List UInt8 → Nat
  | [] => 0
  | a :: l => if 3 ≤ runLen (a :: l) then 0 else plainLen l + 1

theorem plainLen_le : ∀ l, plainLen l ≤ l.length
  | [] => by simp [plainLen]
  | a :: l => by
    have := plainLen_le l
    simp only [plainLen, List.length_cons]
    split <;> omega
theorem plainLen_drop : ∀ (l : List UInt8) (k : Nat), k ≤ l.length → (∀ j, j < k → runLen (l.drop j) < 3) → plainLen l = k + plainLen (l.drop k)
  | l, 0, _, _ => by simp
  | [], k + 1, h, _ => by simp at h
  | a :: l, k + 1, h, hr => by
    have h0 := hr 0 (by omega)
    simp only [List.drop_zero] at h0
    rw [plainLen, if_neg (by omega), plainLen_drop l k (by simpa using h) (fun j hj => by simpa using hr (j + 1) (by omega)), List.drop_succ_cons]
    omega
theorem plainLen_stop {l : List UInt8} (h : 3 ≤ runLen l) : plainLen l = 0 := by
  cases l with
  | nil => rfl
  | cons a l => rw [plainLen, if_pos h]
theorem plainLen_run : ∀ (l : List UInt8) (j : Nat), j < plainLen l → runLen (l.drop j) < 3
  | [], j, h => by simp [plainLen] at h
  | a :: l, j, h => by
    simp only [plainLen] at h
    split at h
    · omega
    · cases j with
      | zero => simp only [List.drop_zero]; omega
      | succ j => simpa using plainLen_run l j (by omega)
theorem plainLen_end (l : List UInt8) : plainLen l = l.length ∨ 3 ≤ runLen (l.drop (plainLen l)) := by
  induction l with
  | nil => exact .inl rfl
  | cons a l ih =>
    simp only [plainLen]
    split
    · right; simpa
    · rcases ih with h | h
      · left; simp [h]
      · right; simpa using h

/-- P1.1, with as many rounds as there are bytes. -/
def packF : Nat → List UInt8 → List UInt8
  | 0, _ => []
  | _ + 1, [] => []
  | n + 1, a :: l =>
    if 3 ≤ runLen (a :: l) then UInt8.ofNat (125 + runLen (a :: l)) :: a :: packF n ((a :: l).drop (runLen (a :: l)))
    else UInt8.ofNat (plainLen (a :: l) - 1) :: ((a :: l).take (plainLen (a :: l)) ++ packF n ((a :: l).drop (plainLen (a :: l))))
def pack (l : List UInt8) : List UInt8 := packF l.length l

theorem packF_enough : ∀ (n m : Nat) (l : List UInt8), l.length ≤ n → l.length ≤ m → packF n l = packF m l
  | 0, 0, _, _, _ => rfl
  | 0, _ + 1, l, h, _ => by
    have : l = [] := List.eq_nil_of_length_eq_zero (by omega)
    subst this; rfl
  | _ + 1, 0, l, _, h => by
    have : l = [] := List.eq_nil_of_length_eq_zero (by omega)
    subst this; rfl
  | n + 1, m + 1, [], _, _ => rfl
  | n + 1, m + 1, a :: l, h1, h2 => by
    simp only [packF]
    simp only [List.length_cons] at h1 h2
    by_cases hr : 3 ≤ runLen (a :: l)
    · rw [if_pos hr, if_pos hr, packF_enough n m _ (by rw [List.length_drop, List.length_cons]; omega) (by rw [List.length_drop, List.length_cons]; omega)]
    · have hp : 1 ≤ plainLen (a :: l) := by rw [plainLen, if_neg hr]; omega
      rw [if_neg hr, if_neg hr, packF_enough n m _ (by rw [List.length_drop, List.length_cons]; omega) (by rw [List.length_drop, List.length_cons]; omega)]

theorem pack_nil : pack [] = [] := rfl
theorem pack_run {l : List UInt8} (h : 3 ≤ runLen l) (h0 : 0 < l.length) : pack l = UInt8.ofNat (125 + runLen l) :: l[0] :: pack (l.drop (runLen l)) := by
  cases l with
  | nil => simp at h0
  | cons a l =>
    unfold pack
    rw [List.length_cons, packF, if_pos h, packF_enough l.length ((a :: l).drop (runLen (a :: l))).length _ (by rw [List.length_drop, List.length_cons]; omega) (Nat.le_refl _)]
    rfl
theorem pack_plain {l : List UInt8} (h : runLen l < 3) (h0 : 0 < l.length) : pack l = UInt8.ofNat (plainLen l - 1) :: (l.take (plainLen l) ++ pack (l.drop (plainLen l))) := by
  cases l with
  | nil => simp at h0
  | cons a l =>
    have hp : 1 ≤ plainLen (a :: l) := by rw [plainLen, if_neg (by omega)]; omega
    unfold pack
    rw [List.length_cons, packF, if_neg (by omega), packF_enough l.length ((a :: l).drop (plainLen (a :: l))).length _ (by rw [List.length_drop, List.length_cons]; omega) (Nat.le_refl _)]

/-- P1.2: 0: unpacked; 5, 1, 4: the errors. -/
def unpackF (s : List UInt8) : Nat → List UInt8 → List UInt8 → Int × List UInt8
  | 0, _, _ => (5, [])
  | _ + 1, [], acc => if pack acc = s then (0, acc) else (4, [])
  | n + 1, c :: rest, acc =>
    if 128 ≤ c.toNat then
      match rest with
      | [] => (5, [])
      | x :: rest' => if 48 < (acc ++ List.replicate (c.toNat - 125) x).length then (1, []) else unpackF s n rest' (acc ++ List.replicate (c.toNat - 125) x)
    else if rest.length < c.toNat + 1 then (5, [])
    else if 48 < (acc ++ rest.take (c.toNat + 1)).length then (1, []) else unpackF s n (rest.drop (c.toNat + 1)) (acc ++ rest.take (c.toNat + 1))
def unpack (s : List UInt8) : Int × List UInt8 := unpackF s (s.length + 1) s []
theorem unpackF_enough (s : List UInt8) : ∀ (n m : Nat) (l acc : List UInt8), l.length < n → l.length < m → unpackF s n l acc = unpackF s m l acc
  | 0, _, _, _, h, _ => absurd h (by omega)
  | _, 0, _, _, _, h => absurd h (by omega)
  | n + 1, m + 1, [], acc, _, _ => rfl
  | n + 1, m + 1, c :: rest, acc, h1, h2 => by
    simp only [List.length_cons] at h1 h2
    simp only [unpackF]
    by_cases hc : 128 ≤ c.toNat
    · rw [if_pos hc, if_pos hc]
      cases rest with
      | nil => rfl
      | cons x rest =>
        simp only [List.length_cons] at h1 h2
        simp only
        rw [unpackF_enough s n m rest _ (by omega) (by omega)]
    · rw [if_neg hc, if_neg hc, unpackF_enough s n m _ _ (by rw [List.length_drop]; omega) (by rw [List.length_drop]; omega)]
/-- one step on -/
def unpackOn (s l acc : List UInt8) : Int × List UInt8 := unpackF s (l.length + 1) l acc
theorem unpackOn_nil (s acc : List UInt8) : unpackOn s [] acc = if pack acc = s then (0, acc) else (4, []) := rfl
theorem unpackOn_run (s rest acc : List UInt8) (c x : UInt8) (h : 128 ≤ c.toNat) : unpackOn s (c :: x :: rest) acc =
    if 48 < (acc ++ List.replicate (c.toNat - 125) x).length then (1, []) else unpackOn s rest (acc ++ List.replicate (c.toNat - 125) x) := by
  unfold unpackOn
  rw [List.length_cons, List.length_cons]
  simp only [unpackF]
  rw [if_pos h, unpackF_enough s (rest.length + 1 + 1) (rest.length + 1) rest _ (by omega) (by omega)]
theorem unpackOn_runEnd (s acc : List UInt8) (c : UInt8) (h : 128 ≤ c.toNat) : unpackOn s [c] acc = (5, []) := by
  unfold unpackOn
  simp only [unpackF, List.length_cons]
  rw [if_pos h]
theorem unpackOn_plain (s rest acc : List UInt8) (c : UInt8) (h : ¬ 128 ≤ c.toNat) (hl : c.toNat + 1 ≤ rest.length) : unpackOn s (c :: rest) acc =
    if 48 < (acc ++ rest.take (c.toNat + 1)).length then (1, []) else unpackOn s (rest.drop (c.toNat + 1)) (acc ++ rest.take (c.toNat + 1)) := by
  unfold unpackOn
  rw [List.length_cons]
  simp only [unpackF]
  rw [if_neg h, if_neg (by omega), unpackF_enough s (rest.length + 1) ((rest.drop (c.toNat + 1)).length + 1) _ _ (by rw [List.length_drop]; omega) (by omega)]
theorem unpackOn_plainEnd (s rest acc : List UInt8) (c : UInt8) (h : ¬ 128 ≤ c.toNat) (hl : rest.length < c.toNat + 1) : unpackOn s (c :: rest) acc = (5, []) := by
  unfold unpackOn
  rw [List.length_cons]
  simp only [unpackF]
  rw [if_neg h, if_pos hl]
end Go.Proofs.YtphbebcbbfbgpacDoor

namespace Go.Proofs.YtphbebcbbfbgpacDoor
open Go Go.RowKit

theorem ownBlock_len (A : Option Addr) (n m c d : Nat) : (Value.slice A n c).ownBlock = (Value.slice A m d).ownBlock := by cases A <;> rfl
/-- Only blocks of R may have changed. -/
structure Touch (R : Nat → Prop) (w w' : World) : Prop where
  os : w'.os = w.os
  tape : w'.tape = w.tape
  output : w'.output = w.output
  size : w.heap.size ≤ w'.heap.size
  block : ∀ k, k < w.heap.size → ¬ R k → w'.heap[k]? = w.heap[k]?
section
variable {R R' : Nat → Prop} {w w' w'' : World}
theorem Touch.refl (R : Nat → Prop) (w : World) : Touch R w w := ⟨rfl, rfl, rfl, Nat.le_refl _, fun _ _ _ => rfl⟩
theorem Touch.trans (h : Touch R w w') (k : Touch R w' w'') : Touch R w w'' :=
  ⟨k.os.trans h.os, k.tape.trans h.tape, k.output.trans h.output, Nat.le_trans h.size k.size, fun i hi hr => (k.block i (Nat.lt_of_lt_of_le hi h.size) hr).trans (h.block i hi hr)⟩
theorem Touch.below (h : Below w.heap.size w w') : Touch R w w' := ⟨h.os, h.tape, h.output, h.size, fun k hk _ => h.block k hk⟩
theorem Touch.mono (h : Touch R w w') (hr : ∀ k, k < w.heap.size → R k → R' k) : Touch R' w w' := ⟨h.os, h.tape, h.output, h.size, fun k hk hn => h.block k hk (fun r => hn (hr k hk r))⟩
theorem Touch.grown {row : Option Nat} (h : w.grownBy w' row) (hr : ∀ k, row = some k → R k) : Touch R w w' := ⟨h.os, h.tape, h.output, h.size, fun k hk hn => h.block k hk (fun e => hn (hr k e.symm))⟩
theorem Touch.drew : Touch R w w.drew := ⟨rfl, rfl, rfl, Nat.le_refl _, fun _ _ _ => rfl⟩
theorem Touch.setCell (p : Addr) (hp : R p.block) (u : Value) : Touch R w (w.setCell p u) :=
  ⟨rfl, rfl, rfl, by simp [World.setCell], fun k _ hn => Below.heap_setCell _ _ _ _ (fun e => hn (by rw [e]; exact hp))⟩
theorem Touch.toBelow {B : Nat} (h : Touch R w w') (hB : B ≤ w.heap.size) (hr : ∀ k, R k → B ≤ k) : Below B w w' :=
  ⟨h.os, h.tape, h.output, h.size, fun k hk => h.block k (by omega) (fun r => by have := hr k r; omega)⟩
theorem Touch.cell (h : Touch R w w') {p : Addr} (hp : p.block < w.heap.size) (hr : ¬ R p.block) : w'.cell? p = w.cell? p :=
  World.cell?_of_block (h.block _ hp hr)
theorem Touch.frozen (h : Touch R w w') {p : Addr} (hp : p.block < w.heap.size) (hr : ¬ R p.block) : w'.frozen? p = w.frozen? p := World.frozen?_of_block (h.block _ hp hr)
theorem own_touch {base : Nat} {e : TypeId} {size : Nat} {v : Value} {n : Nat} {xs : List Value} (h : w.ownsRow base e size v n xs) (ht : Touch R w w') (hr : ∀ g, v.ownBlock = some g → ¬ R g) : w'.ownsRow base e size v n xs := by
  refine ⟨h.1, ?_⟩
  rcases h.2 with hn | ⟨g, cap, cur, rfl, hb, hgg, rest⟩
  · exact .inl hn
  · exact .inr ⟨g, cap, cur, rfl, hb, (ht.block g (Array.getElem?_eq_some_iff.1 hgg).1 (hr g rfl)).trans hgg, rest⟩
end


/-- Block g holds cells of type T. -/
def IsCells (W : World) (g : Nat) (T : TypeId) : Prop := ∃ cs, W.heap[g]? = some (.cells cs T (0, 0))
theorem IsCells.setCell {W : World} {g : Nat} {T : TypeId} (h : IsCells W g T) (p : Addr) (u : Value) : IsCells (W.setCell p u) g T := by
  obtain ⟨cs, h⟩ := h
  unfold IsCells
  simp only [World.setCell, Array.getElem?_modify]
  split
  · exact ⟨_, by rw [h]; rfl⟩
  · exact ⟨cs, h⟩
theorem IsCells.touch {R : Nat → Prop} {W W' : World} {g : Nat} {T : TypeId} (h : IsCells W g T) (ht : Touch R W W') (hr : ¬ R g) : IsCells W' g T := by
  obtain ⟨cs, h⟩ := h
  exact ⟨cs, (ht.block g (Array.getElem?_eq_some_iff.1 h).1 hr).trans h⟩
theorem IsCells.below {W W' : World} {g : Nat} {T : TypeId} (h : IsCells W g T) (hb : Below W.heap.size W W') : IsCells W' g T := by
  obtain ⟨cs, h⟩ := h
  exact ⟨cs, (hb.block g (Array.getElem?_eq_some_iff.1 h).1).trans h⟩
theorem IsCells.new (W : World) (cs : Array Value) (T : TypeId) : IsCells (W.alloc (.cells cs T)) W.heap.size T := ⟨cs, heap_alloc_new W _⟩
theorem IsCells.drew {W : World} {g : Nat} {T : TypeId} (h : IsCells W g T) : IsCells W.drew g T := h
/-- a row of another type lies elsewhere -/
theorem own_not {w : World} {base size n : Nat} {e T : TypeId} {v : Value} {xs : List Value} {g : Nat} (ho : w.ownsRow base e size v n xs) (h : IsCells w g T) (he : e ≠ T) : ∀ r, v.ownBlock = some r → r ≠ g := by
  intro r hr e1
  subst e1
  obtain ⟨cs, h⟩ := h
  rcases ho.2 with ⟨rfl, _⟩ | ⟨g', cap', cur, rfl, _, hh, _⟩
  · simp [Value.ownBlock] at hr
  · simp only [Value.ownBlock, Option.some.injEq] at hr
    subst hr
    rw [h] at hh
    simp only [Option.some.injEq, Obj.cells.injEq] at hh
    exact he hh.2.1.symm
end Go.Proofs.YtphbebcbbfbgpacDoor

namespace Go.Proofs.YtphbebcbbfbgpacDoor
open Go Go.RowKit

theorem rep_block {α : Type} {f : α → Nat → Value} {size B g : Nat} {w : World} {cs : Array Value} {T : TypeId} {fr : Nat × Nat} {ls : List α} (h : w.heap[g]? = some (.cells cs T fr)) (hB : g < B) (hc : cs.toList = flat f size ls) :
    Rep w B size f (some ⟨g, 0, none⟩) ls.length ls := by
  refine ⟨rfl, fun _ => ⟨g, 0, rfl, hB, fun k hk i hi => ?_⟩⟩
  have := flat_at (f := f) ls k i hk hi
  rw [← hc] at this
  simp only [World.cell?, h, Nat.zero_add]
  simp only [Option.isSome_none, Bool.false_eq_true, if_false]
  rw [← Array.getElem?_toList, this]
/-- .. a stretch of it -/
theorem Rep.dropped {α : Type} {f : α → Nat → Value} {size B n b off : Nat} {w : World} {ls : List α} (h : Rep w B size f (some ⟨b, off, none⟩) n ls) {k : Nat} (hk : k ≤ n) : Rep w B size f (some ⟨b, off + k * size, none⟩) (n - k) (ls.drop k) := by
  refine ⟨by rw [List.length_drop, h.1], fun hp => ?_⟩
  obtain ⟨b', off', e, hb, hc⟩ := h.2 (by omega)
  simp only [Option.some.injEq, Addr.mk.injEq, and_true] at e
  obtain ⟨rfl, rfl⟩ := e
  refine ⟨b, off + k * size, rfl, hb, fun j hj i hi => ?_⟩
  rw [List.length_drop] at hj
  have := hc (k + j) (by omega) i hi
  rw [Nat.add_mul, ← Nat.add_assoc] at this
  rw [this, List.getElem_drop]
theorem Rep.taken {α : Type} {f : α → Nat → Value} {size B n : Nat} {A : Option Addr} {w : World} {ls : List α} (h : Rep w B size f A n ls) {k : Nat} (hk : k ≤ n) : Rep w B size f A k (ls.take k) := by
  have hl := h.1
  refine ⟨by rw [List.length_take]; omega, fun hp => ?_⟩
  obtain ⟨b, off, e, hb, hc⟩ := h.2 (by omega)
  refine ⟨b, off, e, hb, fun j hj i hi => ?_⟩
  rw [List.length_take] at hj
  rw [hc j (by omega) i hi, List.getElem_take]
end Go.Proofs.YtphbebcbbfbgpacDoor
