/- A set of strings that a call keeps in a map[string]bool; a count of numbers that it keeps in a map[int]int: looked up, stored, counted. -/
import Derived.Test.YtphbebcbbfbgpabMem
namespace Go.Proofs.Ytphbebcbbfbgpab
open Go Go.RowKit Go.Maps

instance : LawfulBEq ByteArray where
  eq_of_beq := by
    rintro ⟨a⟩ ⟨b⟩ h
    have : (a == b) = true := h
    simpa using this
  rfl := by
    rintro ⟨a⟩
    show (a == a) = true
    simp

theorem snocInd {α : Type} {C : List α → Prop} (l : List α) (h0 : C []) (h1 : ∀ l a, C l → C (l ++ [a])) : C l := by
  have h : ∀ l : List α, C l.reverse := fun l => by
    induction l with
    | nil => exact h0
    | cons a l ih => rw [List.reverse_cons]; exact h1 _ _ ih
  have := h l.reverse
  rwa [List.reverse_reverse] at this

def strKey (s : ByteArray) : Lit := .string s.data.toList
theorem strKey_inj {s t : ByteArray} (h : strKey s = strKey t) : s = t := by
  simp only [strKey, Lit.string.injEq] at h
  exact ByteArray.ext (Array.toList_inj.1 h)
theorem strKey_isKey (s : ByteArray) : WideAt.IsKeyLit (strKey s) := trivial

/-- Block b is a map whose keys, each with true, are the strings of ss. -/
def StrSet (P : Program) (kT bT : TypeId) (w : World) (b : Nat) (ss : List ByteArray) : Prop :=
  w.ownsMap (H := Unit) P kT (plainElem P bT) b ss.length (setOf (.lit (.bool true)) (ss.map strKey))

section
variable {P : Program} {kT bT t : TypeId} {w w' : World} {b : Nat} {ss : List ByteArray}

theorem StrSet.made (P : Program) (kT bT : TypeId) (w : World) : StrSet P kT bT (w.alloc (.map #[] 0)) w.heap.size [] :=
  World.ownsMap_made w P kT (plainElem P bT)
theorem StrSet.kept {row : Option Nat} (h : StrSet P kT bT w b ss) (hg : w.grownBy w' row) (hne : some b ≠ row) : StrSet P kT bT w' b ss := World.ownsMap.kept h hg hne
theorem StrSet.alloc (h : StrSet P kT bT w b ss) (o : Obj) : StrSet P kT bT (w.alloc o) b ss := World.ownsMap.alloc h o
theorem StrSet.below (h : StrSet P kT bT w b ss) (hb : Below w.heap.size w w') : StrSet P kT bT w' b ss :=
  h.kept ⟨hb.os, hb.tape, hb.output, hb.size, fun k hk _ => hb.block k hk⟩ (row := none) (by simp)
theorem StrSet.drewN (h : StrSet P kT bT w b ss) (n : Nat) : StrSet P kT bT (w.drewN n) b ss := h
theorem StrSet.lt (h : StrSet P kT bT w b ss) : b < w.heap.size := World.ownsMap.lt h

theorem mem_strKeys {ss : List ByteArray} {s : ByteArray} : (ss.map strKey).any (fun x => x.sameKey (strKey s)) = decide (s ∈ ss) := by
  rw [Bool.eq_iff_iff, List.any_eq_true, decide_eq_true_iff]
  constructor
  · rintro ⟨x, hx, hs⟩
    obtain ⟨y, hy, rfl⟩ := List.mem_map.1 hx
    have := strKey_inj ((WideAt.sameKey_iff (strKey_isKey s)).1 hs)
    rwa [← this]
  · intro hs
    exact ⟨_, List.mem_map.2 ⟨s, hs, rfl⟩, (WideAt.sameKey_iff (strKey_isKey s)).2 rfl⟩

theorem keys_isKey (ss : List ByteArray) : ∀ x ∈ ss.map strKey, WideAt.IsKeyLit x := by
  intro x hx
  obtain ⟨y, _, rfl⟩ := List.mem_map.1 hx
  exact strKey_isKey y

theorem atKey_strSet (ss : List ByteArray) (s : ByteArray) :
    (setOf (H := Unit) (.lit (.bool true)) (ss.map strKey)).atKey (strKey s) (.lit (.bool false)) = .lit (.bool (decide (s ∈ ss))) := by
  refine snocInd (C := fun ss => (setOf (H := Unit) (.lit (.bool true)) (ss.map strKey)).atKey (strKey s) (.lit (.bool false)) = .lit (.bool (decide (s ∈ ss)))) ss ?_ ?_
  · rfl
  · intro ss x ih
    rw [List.map_append, List.map_cons, List.map_nil, setOf_snoc]
    by_cases hx : s = x
    · subst hx
      rw [atKey_put_same (Tidy.isMap (tidy_setOf _ _ (keys_isKey ss))) (strKey_isKey s)]
      simp
    · rw [atKey_put_other (fun e => hx (strKey_inj e)), ih]
      simp [hx]

theorem StrSet.lookup (h : StrSet P kT bT w b ss) (hk : P.underlying kT = some .string) (hb : P.underlying bT = some .bool) (ht : P.underlying t = some (.map kT bT))
    (hz : (zeroValue bT).run P w = .ok (.bool false) w) {s : ByteArray} (hs : s.size ≤ maxLen) :
    (Instr.lookup t (.map (some b)) (.string s) false).run P w = .ok (.bool (decide (s ∈ ss))) w := by
  obtain ⟨v, ps, hrun, hv⟩ := World.ownsMap.lookup h (string_keyed hk) ht hz (plainElem_bool hb false) (WideMaps.keyOf_string_mk hk hs)
  rw [show (Lit.string s.data.toList) = strKey s from rfl, atKey_strSet] at hv
  have : v = .bool (decide (s ∈ ss)) := by
    unfold plainElem at hv
    rw [hb] at hv
    cases v <;> simp at hv
    obtain ⟨rfl, _⟩ := hv
    rfl
  rw [hrun, this]

theorem StrSet.put (h : StrSet P kT bT w b ss) (hk : P.underlying kT = some .string) (hb : P.underlying bT = some .bool) (ht : P.underlying t = some (.map kT bT))
    {s : ByteArray} (hs : s.size ≤ maxLen) (hn : ss.length < maxLen) :
    ∃ w', (Instr.mapUpdate t (.map (some b)) (.string s) (.bool true)).run P w = .ok () w' ∧ StrSet P kT bT w' b (ss ++ [s]) ∧ w.grownBy w' (some b) := by
  obtain ⟨w', hrun, h1, h2⟩ := World.ownsMap.update h (string_keyed hk) ht hn (WideMaps.keyOf_string_mk hk hs) (plainElem_bool hb true)
  refine ⟨w', hrun, ?_, h2⟩
  unfold StrSet
  rw [List.map_append, List.map_cons, List.map_nil, setOf_snoc, List.length_append]
  exact h1

/-- the different strings of a list -/
def dedupe (ss : List ByteArray) : List ByteArray := ss.foldl (fun acc x => if x ∈ acc then acc else acc ++ [x]) []

theorem foldl_addKey (ss : List ByteArray) (acc : List ByteArray) :
    (ss.map strKey).foldl addKey (acc.map strKey) = (ss.foldl (fun acc x => if x ∈ acc then acc else acc ++ [x]) acc).map strKey := by
  induction ss generalizing acc with
  | nil => rfl
  | cons x ss ih =>
    rw [List.map_cons, List.foldl_cons, List.foldl_cons, ← ih]
    congr 1
    unfold addKey
    rw [mem_strKeys]
    by_cases hx : x ∈ acc <;> simp [hx]

theorem StrSet.len (h : StrSet P kT bT w b ss) (ht : P.underlying t = some (.map kT bT)) (ty : TypeId) :
    (Builtin.len_ #[t] ty #[.map (some b)]).run P w = .ok (.int .i64 (dedupe ss).length) w := by
  have := World.ownsMap.len h ht ty
  rw [size_setOf _ _ (keys_isKey ss)] at this
  have e := foldl_addKey ss []
  simp only [List.map_nil] at e
  rw [e, List.length_map] at this
  exact this

theorem wpList_strSet_put {ops : Array Oper} {rest : List Oper} {o : Oper} {a : Act} {Q : Exit → Act → World → Prop}
    (hg : o.guard = none) (m x v : Operand) (t : TypeId) (hop : o.op = Op.mapUpdate t m x v) (hk : P.underlying kT = some .string) (hb : P.underlying bT = some .bool) (ht : P.underlying t = some (.map kT bT))
    (s : ByteArray) (hm : a.eval m = .map (some b)) (hx : a.eval x = .string s) (hv : a.eval v = .bool true) (hown : StrSet P kT bT w b ss) (hs : s.size ≤ maxLen) (hn : ss.length < maxLen)
    (hK : ∀ w', StrSet P kT bT w' b (ss ++ [s]) → w.grownBy w' (some b) → wpList P ops Q rest (a.put o.dst undef) w') :
    wpList P ops Q (o :: rest) a w := by
  refine wpList_plain hg fun K' hK' => ?_
  obtain ⟨w', hrun, r1, r2⟩ := hown.put hk hb ht hs hn
  unfold Oper.wp
  simp [execOp, hop, hm, hx, hv, hrun, Result.andThen]
  exact hK' _ _ (hK w' r1 r2)
end

def intKey (x : Int) : Lit := .int .i64 x
theorem intKey_ne {x y : Int} (h : x ≠ y) : intKey x ≠ intKey y := fun e => h (by simpa [intKey] using e)
theorem intKey_isKey (x : Int) : WideAt.IsKeyLit (intKey x) := trivial

/-- the different numbers of a list -/
def dedupeI (xs : List Int) : List Int := xs.foldl (fun acc x => if x ∈ acc then acc else acc ++ [x]) []
theorem dedupeI_snoc (xs : List Int) (x : Int) : dedupeI (xs ++ [x]) = if x ∈ dedupeI xs then dedupeI xs else dedupeI xs ++ [x] := by unfold dedupeI; rw [List.foldl_append]; rfl
theorem mem_dedupeI {xs : List Int} {x : Int} : x ∈ dedupeI xs ↔ x ∈ xs := by
  suffices h : ∀ x, x ∈ dedupeI xs ↔ x ∈ xs from h x
  refine snocInd (C := fun xs => ∀ x, x ∈ dedupeI xs ↔ x ∈ xs) xs (by simp [dedupeI]) (fun l a ih x => ?_)
  rw [dedupeI_snoc]
  by_cases h : a ∈ dedupeI l
  · rw [if_pos h, List.mem_append, ih x]
    constructor
    · exact .inl
    · rintro (h1 | h1)
      · exact h1
      · rw [List.mem_singleton.1 h1]; exact (ih a).1 h
  · rw [if_neg h, List.mem_append, List.mem_append, ih x]
theorem nodup_dedupeI (xs : List Int) : (dedupeI xs).Nodup := by
  refine snocInd (C := fun xs => (dedupeI xs).Nodup) xs (by simp [dedupeI]) (fun l a ih => ?_)
  rw [dedupeI_snoc]
  split
  · exact ih
  · rename_i h
    rw [List.nodup_append]
    exact ⟨ih, by simp, fun x hx y hy => by rw [List.mem_singleton.1 hy]; rintro rfl; exact h hx⟩

/-- Block b is a map that counts the numbers of xs. -/
def CntMap (P : Program) (kT eT : TypeId) (w : World) (b : Nat) (xs : List Int) : Prop :=
  ∃ D : DataW Unit, w.ownsMap P kT (plainElem P eT) b xs.length D ∧ Tidy D ∧ (∀ x, D.atKey (intKey x) (.lit (.int .i64 0)) = .lit (.int .i64 (xs.count x : Nat))) ∧
    (∀ x, has D (intKey x) = decide (x ∈ xs)) ∧ Maps.size D = (dedupeI xs).length

section
variable {P : Program} {kT eT t : TypeId} {w w' : World} {b : Nat} {xs : List Int}
theorem CntMap.made (P : Program) (kT eT : TypeId) (w : World) : CntMap P kT eT (w.alloc (.map #[] 0)) w.heap.size [] :=
  ⟨_, World.ownsMap_made w P kT (plainElem P eT), tidy_empty, fun x => by simp [DataW.atKey], fun x => by simp [has], by simp [Maps.size, dedupeI]⟩
theorem CntMap.kept {row : Option Nat} (h : CntMap P kT eT w b xs) (hg : w.grownBy w' row) (hne : some b ≠ row) : CntMap P kT eT w' b xs := by
  obtain ⟨D, h1, h2⟩ := h
  exact ⟨D, h1.kept hg hne, h2⟩
theorem CntMap.alloc (h : CntMap P kT eT w b xs) (o : Obj) : CntMap P kT eT (w.alloc o) b xs := h.kept (World.grownBy_alloc w o none) (by simp)
theorem CntMap.below (h : CntMap P kT eT w b xs) (hb : Below w.heap.size w w') : CntMap P kT eT w' b xs :=
  h.kept ⟨hb.os, hb.tape, hb.output, hb.size, fun k hk _ => hb.block k hk⟩ (row := none) (by simp)
theorem CntMap.drewN (h : CntMap P kT eT w b xs) (n : Nat) : CntMap P kT eT (w.drewN n) b xs := h
theorem CntMap.lt (h : CntMap P kT eT w b xs) : b < w.heap.size := by obtain ⟨D, h1, _⟩ := h; exact h1.lt
theorem CntMap.lookup (h : CntMap P kT eT w b xs) (hk : P.underlying kT = some (.int .i64)) (he : P.underlying eT = some (.int .i64)) (ht : P.underlying t = some (.map kT eT))
    (hz : (zeroValue eT).run P w = .ok (.int .i64 0) w) {x : Int} (hx : (Lit.int .i64 x).wf = true) :
    (Instr.lookup t (.map (some b)) (.int .i64 x) false).run P w = .ok (.int .i64 (xs.count x : Nat)) w := by
  obtain ⟨D, h1, _, h3, _⟩ := h
  obtain ⟨c, hrun, hc, _⟩ := h1.lookup_int (int_keyed hk) ht he hz (keyOf_int_mk hk hx)
  rw [show (Lit.int .i64 x) = intKey x from rfl, h3] at hc
  simp only [DataW.lit.injEq, Lit.int.injEq, true_and] at hc
  rw [hrun, ← hc]
theorem CntMap.put (h : CntMap P kT eT w b xs) (hk : P.underlying kT = some (.int .i64)) (he : P.underlying eT = some (.int .i64)) (ht : P.underlying t = some (.map kT eT))
    {x : Int} (hx : (Lit.int .i64 x).wf = true) (hn : xs.length < maxLen) :
    ∃ w', (Instr.mapUpdate t (.map (some b)) (.int .i64 x) (.int .i64 ((xs.count x : Nat) + 1))).run P w = .ok () w' ∧ CntMap P kT eT w' b (xs ++ [x]) ∧ w.grownBy w' (some b) := by
  obtain ⟨D, h1, h2, h3, h4, h5⟩ := h
  have hcl : xs.count x ≤ xs.length := List.count_le_length
  have hw : (Lit.int .i64 ((xs.count x : Nat) + 1)).wf = true := by
    unfold maxLen at hn
    exact WalkArith.wf_i64 (by omega)
  obtain ⟨w', hrun, r1, r2⟩ := h1.update (int_keyed hk) ht hn (keyOf_int_mk hk hx) (plainElem_int he hw)
  refine ⟨w', hrun, ⟨D.put (intKey x) (.lit (.int .i64 ((xs.count x : Nat) + 1))), by rw [List.length_append]; exact r1, h2.put (intKey_isKey x) _, fun y => ?_, fun y => ?_, ?_⟩, r2⟩
  · by_cases hy : y = x
    · subst hy
      rw [atKey_put_same h2.isMap (intKey_isKey y)]
      simp
    · rw [atKey_put_other (intKey_ne hy), h3]
      simp [List.count_append, Ne.symm hy]
  · by_cases hy : y = x
    · subst hy
      rw [has_put_same h2.isMap (intKey_isKey y)]
      simp
    · rw [has_put_other (intKey_ne hy), h4]
      simp [hy]
  · rw [size_put h2, h4, h5, dedupeI_snoc]
    by_cases hm : x ∈ xs
    · rw [if_pos (by simpa using hm), if_pos (mem_dedupeI.2 hm)]
    · rw [if_neg (by simpa using hm), if_neg (fun h => hm (mem_dedupeI.1 h)), List.length_append]; rfl
theorem CntMap.len (h : CntMap P kT eT w b xs) (ht : P.underlying t = some (.map kT eT)) (ty : TypeId) :
    (Builtin.len_ #[t] ty #[.map (some b)]).run P w = .ok (.int .i64 (dedupeI xs).length) w := by
  obtain ⟨D, h1, _, _, _, h5⟩ := h
  rw [h1.len ht ty, h5]

theorem wpList_cntMap_put {ops : Array Oper} {rest : List Oper} {o : Oper} {a : Act} {Q : Exit → Act → World → Prop}
    (hg : o.guard = none) (m x v : Operand) (t : TypeId) (hop : o.op = Op.mapUpdate t m x v) (hk : P.underlying kT = some (.int .i64)) (he : P.underlying eT = some (.int .i64)) (ht : P.underlying t = some (.map kT eT))
    (y : Int) (hm : a.eval m = .map (some b)) (hx : a.eval x = .int .i64 y) (hv : a.eval v = .int .i64 ((xs.count y : Nat) + 1)) (hown : CntMap P kT eT w b xs) (hs : (Lit.int .i64 y).wf = true) (hn : xs.length < maxLen)
    (hK : ∀ w', CntMap P kT eT w' b (xs ++ [y]) → w.grownBy w' (some b) → wpList P ops Q rest (a.put o.dst undef) w') :
    wpList P ops Q (o :: rest) a w := by
  refine wpList_plain hg fun K' hK' => ?_
  obtain ⟨w', hrun, r1, r2⟩ := hown.put hk he ht hs hn
  unfold Oper.wp
  simp [execOp, hop, hm, hx, hv, hrun, Result.andThen]
  exact hK' _ _ (hK w' r1 r2)
end
end Go.Proofs.Ytphbebcbbfbgpab
