/- Predicates on memory used by all proofs of this seat: a slice that holds the rows of a list; how it is kept when memory grows. -/
import Derived.WalkKit
import Derived.BigQuiet
import Derived.Deep.Draws
import Derived.Deep.QuietTactic
import Derived.Lib.Hide
import Derived.BigGuardPart
import Derived.Maps.OwnSet
import Derived.Maps.AppendAt
namespace Go.Proofs.Ytphbebcbbfbgpab
open Go Go.RowKit

/-- The slice value '.slice A n c' holds, row after row of 'size' cells, the list ls; its block lies below B. -/
def Rep {α : Type} (w : World) (B size : Nat) (f : α → Nat → Value) (A : Option Addr) (n : Nat) (ls : List α) : Prop :=
  n = ls.length ∧ (0 < n → ∃ b off, A = some ⟨b, off, none⟩ ∧ b < B ∧ ∀ k (hk : k < ls.length) i, i < size → w.cell? ⟨b, off + k * size + i, none⟩ = some (f ls[k] i))

section
variable {α : Type} {w w' : World} {B B' size n : Nat} {f : α → Nat → Value} {A : Option Addr} {ls : List α}

theorem Rep.len (h : Rep w B size f A n ls) : n = ls.length := h.1

theorem Rep.keep (h : Rep w B size f A n ls) (hk : ∀ p : Addr, p.block < B → w'.cell? p = w.cell? p) : Rep w' B size f A n ls := by
  refine ⟨h.1, fun hn => ?_⟩
  obtain ⟨b, off, e, hb, hc⟩ := h.2 hn
  exact ⟨b, off, e, hb, fun k hk' i hi => (hk _ hb).trans (hc k hk' i hi)⟩

theorem Rep.below (h : Rep w B size f A n ls) (hb : Below B' w w') (hB : B ≤ B') : Rep w' B size f A n ls :=
  h.keep fun _ hp => hb.cell (by omega)

theorem Rep.mono (h : Rep w B size f A n ls) (hB : B ≤ B') : Rep w B' size f A n ls := by
  refine ⟨h.1, fun hn => ?_⟩
  obtain ⟨b, off, e, hb, hc⟩ := h.2 hn
  exact ⟨b, off, e, by omega, hc⟩

theorem Rep.nil (w : World) (B size : Nat) (f : α → Nat → Value) (A : Option Addr) : Rep w B size f A 0 [] := ⟨rfl, fun h => absurd h (by omega)⟩

theorem Rep.at_ {k : Nat} (h : Rep w B size f A n ls) (hk : k < n) : ∃ b off, A = some ⟨b, off, none⟩ ∧ b < B ∧ ∀ i, i < size → w.cell? ⟨b, off + k * size + i, none⟩ = some (f (ls[k]'(by have := h.1; omega)) i) := by
  obtain ⟨b, off, e, hb, hc⟩ := h.2 (by omega)
  exact ⟨b, off, e, hb, fun i hi => hc k _ i hi⟩
end

/-- The cells of a list of rows, one behind the other. -/
def flat {α : Type} (f : α → Nat → Value) (size : Nat) (ls : List α) : List Value := ls.flatMap fun x => (List.range size).map (f x)

section
variable {α : Type} {f : α → Nat → Value} {size : Nat}
theorem flat_nil : flat f size [] = [] := rfl
theorem flat_cons (x : α) (ls : List α) : flat f size (x :: ls) = (List.range size).map (f x) ++ flat f size ls := rfl
theorem flat_append (ls ms : List α) : flat f size (ls ++ ms) = flat f size ls ++ flat f size ms := by simp [flat]
theorem flat_one (x : α) : flat f size [x] = (List.range size).map (f x) := by simp [flat]
theorem flat_length (ls : List α) : (flat f size ls).length = ls.length * size := by
  induction ls with
  | nil => simp [flat_nil]
  | cons x ls ih => rw [flat_cons, List.length_append, ih, List.length_map, List.length_range, List.length_cons, Nat.succ_mul, Nat.add_comm]
theorem flat_at (ls : List α) (k i : Nat) (hk : k < ls.length) (hi : i < size) : (flat f size ls)[k * size + i]? = some (f ls[k] i) := by
  induction ls generalizing k with
  | nil => simp at hk
  | cons x ls ih =>
    rw [flat_cons]
    cases k with
    | zero =>
      rw [List.getElem?_append_left (by simpa using hi)]
      simp [hi]
    | succ k =>
      have hk' : k < ls.length := by simpa using hk
      rw [List.getElem?_append_right (by rw [List.length_map, List.length_range, Nat.succ_mul]; omega), List.length_map, List.length_range,
        show (k + 1) * size + i - size = k * size + i by rw [Nat.succ_mul]; omega, ih k hk']
      rfl
theorem flat_split (ls : List α) (j : Nat) (u : Value) (h : (flat f size ls)[j]? = some u) : ∃ k i, ∃ hk : k < ls.length, i < size ∧ j = k * size + i ∧ u = f ls[k] i := by
  have hj : j < ls.length * size := by rw [← flat_length (f := f)]; exact (List.getElem?_eq_some_iff.1 h).1
  have hs : 0 < size := Nat.pos_of_ne_zero (fun e => by subst e; simp at hj)
  have hk : j / size < ls.length := (Nat.div_lt_iff_lt_mul hs).2 hj
  have hi : j % size < size := Nat.mod_lt _ hs
  have e : j = j / size * size + j % size := by rw [Nat.mul_comm]; exact (Nat.div_add_mod j size).symm
  refine ⟨j / size, j % size, hk, hi, e, ?_⟩
  have := flat_at (f := f) ls (j / size) (j % size) hk hi
  rw [← e, h] at this
  exact Option.some.inj this
theorem flat_take (ls : List α) (k : Nat) : (flat f size ls).take (k * size) = flat f size (ls.take k) := by
  induction ls generalizing k with
  | nil => simp [flat_nil]
  | cons x ls ih =>
    cases k with
    | zero => simp [flat_nil]
    | succ k =>
      rw [flat_cons, List.take_succ_cons, flat_cons, ← ih k, List.take_append, List.length_map, List.length_range, Nat.succ_mul, Nat.add_sub_cancel, List.take_of_length_le (by simp)]
theorem flat_drop (ls : List α) (k : Nat) : (flat f size ls).drop (k * size) = flat f size (ls.drop k) := by
  induction ls generalizing k with
  | nil => simp [flat_nil]
  | cons x ls ih =>
    cases k with
    | zero => simp
    | succ k =>
      rw [flat_cons, List.drop_succ_cons, ← ih k, List.drop_append, List.length_map, List.length_range, Nat.succ_mul, Nat.add_sub_cancel, List.drop_of_length_le (by simp), List.nil_append]

theorem Rep.flat_ {w : World} {B n b off : Nat} {ls : List α} (h : Rep w B size f (some ⟨b, off, none⟩) n ls) :
    ∀ j u, (flat f size ls)[j]? = some u → w.cell? ((⟨b, off, none⟩ : Addr).add j) = some u := by
  intro j u hu
  obtain ⟨k, i, hk, hi, rfl, rfl⟩ := flat_split ls j u hu
  obtain ⟨b', off', e, _, hc⟩ := h.2 (by have := h.1; omega)
  simp only [Option.some.injEq, Addr.mk.injEq, and_true] at e
  obtain ⟨rfl, rfl⟩ := e
  rw [Addr.add_lit, ← Nat.add_assoc]
  exact hc k hk i hi

/-- .. where the slice may be empty and its address whatever. -/
theorem Rep.flat_any {w : World} {B n : Nat} {ad : Addr} {ls : List α} (h : Rep w B size f (some ad) n ls) :
    ∀ j u, (flat f size ls)[j]? = some u → w.cell? (ad.add j) = some u := by
  intro j u hu
  obtain ⟨k, i, hk, _, _, _⟩ := flat_split ls j u hu
  obtain ⟨b, off, e, _, _⟩ := h.2 (by have := h.1; omega)
  obtain rfl := Option.some.inj e
  exact h.flat_ j u hu

/-- What a call owns reads as a list. -/
theorem Rep.of_own {w : World} {base B : Nat} {e : TypeId} {A : Option Addr} {n c : Nat} {ls : List α} (hl : n = ls.length) (h : w.ownsRow base e size (.slice A n c) n (flat f size ls)) (hB : w.heap.size ≤ B) :
    Rep w B size f A n ls := by
  refine ⟨hl, fun hn => ?_⟩
  rcases h.2 with ⟨_, h0⟩ | ⟨g, cap, cur, hv, _, hh, _, _, _, _⟩
  · omega
  · simp only [Value.slice.injEq] at hv
    obtain ⟨rfl, _, _⟩ := hv
    refine ⟨g, 0, rfl, Nat.lt_of_lt_of_le (Array.getElem?_eq_some_iff.1 hh).1 hB, fun k hk i hi => ?_⟩
    have := h.cells (g := g) rfl (k * size + i) _ (flat_at ls k i hk hi)
    rw [Addr.add_lit, ← Nat.add_assoc] at this
    exact this
end

/-- What a call owns is a slice. -/
theorem own_form {w : World} {base : Nat} {e : TypeId} {size n : Nat} {v : Value} {xs : List Value} (h : w.ownsRow base e size v n xs) :
    ∃ A c, v = .slice A n c ∧ n ≤ c ∧ c ≤ maxLen ∧ (A = none → n = 0 ∧ c = 0) := by
  rcases h.2 with ⟨rfl, rfl⟩ | ⟨g, cap, cur, rfl, _, _, hn, hc, _⟩
  · exact ⟨none, 0, rfl, Nat.le_refl _, by unfold maxLen; omega, fun _ => ⟨rfl, rfl⟩⟩
  · exact ⟨_, cap, rfl, hn, hc, fun h => by cases h⟩
theorem own_below {w w' : World} {base : Nat} {e : TypeId} {size n : Nat} {v : Value} {xs : List Value} (h : w.ownsRow base e size v n xs) (hb : Below w.heap.size w w') : w'.ownsRow base e size v n xs :=
  h.kept ⟨hb.os, hb.tape, hb.output, hb.size, fun k hk _ => hb.block k hk⟩ (row := none) (by cases v.ownBlock <;> simp)

theorem own_mono {w : World} {base base' : Nat} {e : TypeId} {size n : Nat} {v : Value} {xs : List Value} (h : w.ownsRow base e size v n xs) (hb : base' ≤ base) : w.ownsRow base' e size v n xs := by
  obtain ⟨h1, h2 | ⟨g, cap, cur, hv, hg, r⟩⟩ := h
  · exact ⟨h1, .inl h2⟩
  · exact ⟨h1, .inr ⟨g, cap, cur, hv, Nat.le_trans hb hg, r⟩⟩

/-- A call hands back a slice of its own that holds these cells; what was there before it is as it was. -/
def OwnPost (w : World) (T : TypeId) (size n : Nat) (cs : List Value) (e : Ending) (w' : World) : Prop :=
  ∃ A c, e = .returned (.slice A n c) ∧ w'.ownsRow w.heap.size T size (.slice A n c) n cs ∧ Below w.heap.size w w' ∧ n ≤ c ∧ c ≤ maxLen ∧ (A = none → n = 0 ∧ c = 0)
theorem OwnPost.mk' {w w' : World} {T : TypeId} {size n : Nat} {cs : List Value} {v : Value} (h : w'.ownsRow w.heap.size T size v n cs) (hb : Below w.heap.size w w') : OwnPost w T size n cs (.returned v) w' := by
  obtain ⟨A, c, rfl, h1, h2, h3⟩ := own_form h
  exact ⟨A, c, rfl, h, hb, h1, h2, h3⟩

theorem below_drewN {B : Nat} {a w : World} (h : Below B a w) (n : Nat) : Below B a (w.drewN n) := ⟨h.os, h.tape, h.output, h.size, h.block⟩

theorem toList_inj {a b : ByteArray} (h : a.toList = b.toList) : a = b := by
  rw [ByteArray.toList_eq, ByteArray.toList_eq] at h
  exact ByteArray.ext (Array.toList_inj.1 h)
theorem toList_beq_no {a b : ByteArray} (h : a ≠ b) : (a.toList == b.toList) = false := by
  rw [beq_eq_false_iff_ne]
  exact fun e => h (toList_inj e)
theorem toList_bne_no {a b : ByteArray} (h : a ≠ b) : (a.toList != b.toList) = true := by
  rw [bne_iff_ne]
  exact fun e => h (toList_inj e)

theorem toList_length (s : ByteArray) : s.toList.length = s.size := by rw [ByteArray.toList_eq]; simp
theorem isEmpty_yes {s : ByteArray} (h : s.size = 0) : s.toList.isEmpty = true := by
  rw [List.isEmpty_iff, ← List.length_eq_zero_iff, toList_length, h]
theorem isEmpty_no {s : ByteArray} (h : s.size ≠ 0) : s.toList.isEmpty = false := by
  rw [Bool.eq_false_iff, ne_eq, List.isEmpty_iff, ← List.length_eq_zero_iff, toList_length]
  exact h

theorem quiet_left {P : Program} {f : FuncId} {args : Array Value} {w : World} {n : Nat} {v : Value} (h : Calls P f args (w.drewN n) fun e w' => e = .returned v ∧ w.drewN n = w') :
    Calls P f args (w.drewN n) fun e w'' => e = .returned v ∧ ∃ m, w'' = w.drewN m :=
  h.mono fun _ _ ⟨he, hm⟩ => ⟨he, n, hm.symm⟩

end Go.Proofs.Ytphbebcbbfbgpab
