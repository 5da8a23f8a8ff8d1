/- saltcellarref.PackedOf: the bytes that P1.1 asks for. saltcellarref.UnpackedOf: P1.2. What is packed unpacks to what it was; what unpacks is packed so; how long it is. No program in sight. Records of transactions in plain Lean (P4.1, P4.2): what is written is scanned back. press.Unpack: P1.2. -/
import Derived.Test.YtphbebcbbfbgpacDoorPressPack
import Derived.Laws.DeepStrings4
import Derived.Test.YtphbebcbbfbgpacDoorRepBlock
namespace Go.Proofs.YtphbebcbbfbgpacDoor
open Go Go.RowKit

theorem conv_new1 (W : World) (x : Int) : (convert 105 9 (.slice (some ⟨W.heap.size, 0, none⟩) 1 1)).run Tryd.prog (W.alloc (.cells #[.int .u8 x] 5)) = .ok (.string (strOfNums [x])) (W.alloc (.cells #[.int .u8 x] 5)) := by
  refine run_convert_bytes_arg _ _ _ Tryd.underlying105 Tryd.underlying5 W.heap.size 0 1 1 [x] rfl (fun i hi => ?_) _ Tryd.underlying9
  have : i = 0 := by omega
  subst this
  simp
theorem conv_new2 (W : World) (x y : Int) : (convert 105 9 (.slice (some ⟨W.heap.size, 0, none⟩) 2 2)).run Tryd.prog (W.alloc (.cells #[.int .u8 x, .int .u8 y] 5)) = .ok (.string (strOfNums [x, y])) (W.alloc (.cells #[.int .u8 x, .int .u8 y] 5)) := by
  refine run_convert_bytes_arg _ _ _ Tryd.underlying105 Tryd.underlying5 W.heap.size 0 2 2 [x, y] rfl (fun i hi => ?_) _ Tryd.underlying9
  have : i = 0 ∨ i = 1 := by omega
  rcases this with rfl | rfl <;> simp

/-- what stands in the loop: what has been put out, what stands as it is, the place -/
structure PackedI (l : List UInt8) (i : Nat) (o p : ByteArray) : Prop where
  inv : o.data.toList ++ pack (l.drop (i - p.size)) = pack l
  pl : p.data.toList = (l.drop (i - p.size)).take p.size
  run : ∀ j, i - p.size ≤ j → j < i → runLen (l.drop j) < 3

theorem append_list (a b : ByteArray) : (a ++ b).data.toList = a.data.toList ++ b.data.toList := by simp [ByteArray.data_append]
theorem append_size (a b : ByteArray) : (a ++ b).size = a.size + b.size := by simp [ByteArray.size_append]
theorem PackedI.flush {l : List UInt8} {i : Nat} {o p : ByteArray} (h : PackedI l i o p) (h0 : 0 < p.size) (hpi : p.size ≤ i) (hi : i ≤ l.length) (hp : p.size ≤ 128) (he : i = l.length ∨ 3 ≤ runLen (l.drop i)) :
    PackedI l i (o ++ strOfNums [(p.size : Int) - 1] ++ p) ⟨#[]⟩ := by
  have hz : (⟨#[]⟩ : ByteArray).size = 0 := rfl
  refine ⟨?_, by rw [hz]; simp, fun j h1 h2 => by rw [hz] at h1; omega⟩
  have := pack_at_plain (i := i - p.size) (k := i) h.inv (by omega) hi h.run he
  rw [show i - (i - p.size) - 1 = p.size - 1 from by omega, show i - (i - p.size) = p.size from by omega] at this
  rw [append_list, append_list, h.pl, strOfNums_data, hz, Nat.sub_zero, ← this]
  simp only [List.map_cons, List.map_nil]
  rw [show ((p.size : Int) - 1).toNat = p.size - 1 from by omega]
theorem PackedI.runs {l : List UInt8} {i r : Nat} {o p : ByteArray} {x : UInt8} (h : PackedI l i o p) (h0 : p.size = 0) (hr : runLen (l.drop i) = r) (h3 : 3 ≤ r) (hx : l[i]? = some x) :
    PackedI l (i + r) (o ++ strOfNums [125 + (r : Int), (x.toNat : Int)]) p := by
  have hi := h.inv
  rw [h0, Nat.sub_zero] at hi
  refine ⟨?_, ?_, fun j h1 h2 => by omega⟩
  · have := pack_at_run hi hr h3 hx
    rw [append_list, strOfNums_data, h0, Nat.sub_zero, ← this]
    simp only [List.map_cons, List.map_nil]
    rw [show (125 + (r : Int)).toNat = 125 + r from by omega, Int.toNat_natCast, UInt8.ofNat_toNat]
  · rw [h0]
    have : p.data.toList.length = 0 := by rw [← size_list]; exact h0
    rw [List.eq_nil_of_length_eq_zero this]; simp
theorem PackedI.plain {l : List UInt8} {s : ByteArray} {i : Nat} {o p : ByteArray} (hl : l = s.data.toList) (h : PackedI l i o p) (hpi : p.size ≤ i) (hi : i < l.length) (hr : runLen (l.drop i) < 3) :
    PackedI l (i + 1) o (p ++ s.extract i (i + 1)) := by
  have hx : (s.extract i (i + 1)).data.toList = (l.drop i).take 1 := by rw [extract_list, hl]; simp
  have hxs : (s.extract i (i + 1)).size = 1 := by rw [size_list, hx, List.length_take, List.length_drop]; omega
  have e : i + 1 - (p.size + 1) = i - p.size := by omega
  refine ⟨by rw [append_size, hxs, e]; exact h.inv, ?_, fun j h1 h2 => ?_⟩
  · rw [append_size, hxs, e, append_list, hx, h.pl, List.take_add, List.drop_drop, show i - p.size + p.size = i from by omega]
  · rw [append_size, hxs, e] at h1
    by_cases hji : j = i
    · rw [hji]; exact hr
    · exact h.run j h1 (by omega)

end Go.Proofs.YtphbebcbbfbgpacDoor

namespace Go.Proofs.YtphbebcbbfbgpacDoor
open Go Go.RowKit

def unpackN (s : ByteArray) : Int := (unpackOn s.data.toList s.data.toList []).1
def unpackB (s : ByteArray) : ByteArray := ⟨(unpackOn s.data.toList s.data.toList []).2.toArray⟩
def UnpackPost (s : ByteArray) (e : Ending) : Prop := e = .returned (.tuple #[.string (unpackB s), .int .i64 (unpackN s)])
theorem unpackPost_of {s : ByteArray} {k : Int} {t : List UInt8} {e : Ending} (h : unpackOn s.data.toList s.data.toList [] = (k, t)) (he : e = .returned (.tuple #[.string ⟨t.toArray⟩, .int .i64 k])) : UnpackPost s e := by
  rw [UnpackPost, unpackB, unpackN, h, he]

section
variable {s l acc : List UInt8} {i : Nat} {c x : UInt8}
theorem drop_of_get (h : l[i]? = some c) : l.drop i = c :: l.drop (i + 1) := by
  obtain ⟨hi, rfl⟩ := List.getElem?_eq_some_iff.1 h
  exact List.drop_eq_getElem_cons hi
theorem unpack_runEnd (hc : l[i]? = some c) (h : 128 ≤ c.toNat) (he : l.length ≤ i + 1) : unpackOn s (l.drop i) acc = (5, []) := by
  rw [drop_of_get hc, List.drop_of_length_le he, unpackOn_runEnd s acc c h]
theorem unpack_run (hc : l[i]? = some c) (h : 128 ≤ c.toNat) (hx : l[i + 1]? = some x) : unpackOn s (l.drop i) acc =
    if 48 < (acc ++ List.replicate (c.toNat - 125) x).length then (1, []) else unpackOn s (l.drop (i + 2)) (acc ++ List.replicate (c.toNat - 125) x) := by
  rw [drop_of_get hc, drop_of_get hx, unpackOn_run s _ acc c x h]
theorem unpack_plainEnd (hc : l[i]? = some c) (h : ¬ 128 ≤ c.toNat) (he : l.length < i + 2 + c.toNat) : unpackOn s (l.drop i) acc = (5, []) := by
  rw [drop_of_get hc, unpackOn_plainEnd s _ acc c h (by rw [List.length_drop]; omega)]
theorem unpack_plain (hc : l[i]? = some c) (h : ¬ 128 ≤ c.toNat) (he : i + 2 + c.toNat ≤ l.length) : unpackOn s (l.drop i) acc =
    if 48 < (acc ++ (l.drop (i + 1)).take (c.toNat + 1)).length then (1, []) else unpackOn s (l.drop (i + 2 + c.toNat)) (acc ++ (l.drop (i + 1)).take (c.toNat + 1)) := by
  rw [drop_of_get hc, unpackOn_plain s _ acc c h (by rw [List.length_drop]; omega), List.drop_drop, show i + 1 + (c.toNat + 1) = i + 2 + c.toNat from by omega]
end

end Go.Proofs.YtphbebcbbfbgpacDoor

namespace Go.Proofs.YtphbebcbbfbgpacDoor
open Go

theorem unpackOn_pack (S : List UInt8) : ∀ (n : Nat) (l acc : List UInt8), l.length ≤ n → (acc ++ l).length ≤ 48 → unpackOn S (pack l) acc = unpackOn S [] (acc ++ l)
  | 0, l, acc, h, _ => by
    have : l = [] := List.eq_nil_of_length_eq_zero (by omega)
    subst this
    rw [pack_nil, List.append_nil]
  | n + 1, [], acc, _, _ => by rw [pack_nil, List.append_nil]
  | n + 1, a :: l, acc, h, h48 => by
    have h0 : 0 < (a :: l).length := by simp
    have hal : acc.length + (a :: l).length ≤ 48 := by rw [List.length_append] at h48; exact h48
    by_cases hr : 3 ≤ runLen (a :: l)
    · have hle := runLen_le (a :: l)
      obtain ⟨r, hrr⟩ : ∃ r, runLen (a :: l) = r := ⟨_, rfl⟩
      have hc : (UInt8.ofNat (125 + r)).toNat = 125 + r := ofNat_toNat _ (by omega)
      have hrep : List.replicate r ((a :: l)[0]) = (a :: l).take r := by
        apply List.ext_getElem
        · rw [List.length_replicate, List.length_take]; omega
        · intro j h1 h2
          rw [List.getElem_replicate, List.getElem_take]
          exact (runLen_same (a :: l) j (by rw [List.length_replicate] at h1; omega) h0 (by rw [List.length_take] at h2; omega)).symm
      rw [pack_run hr h0, hrr, unpackOn_run S _ acc _ _ (by rw [hc]; omega), hc, show 125 + r - 125 = r from by omega, hrep]
      rw [if_neg (by rw [List.length_append, List.length_take]; omega)]
      rw [unpackOn_pack S n ((a :: l).drop r) (acc ++ (a :: l).take r) (by rw [List.length_drop]; omega) (by rw [List.append_assoc, List.take_append_drop]; exact h48), List.append_assoc, List.take_append_drop]
    · have hp1 : 1 ≤ plainLen (a :: l) := by rw [plainLen, if_neg (by omega)]; omega
      have hle := plainLen_le (a :: l)
      obtain ⟨p, hpp⟩ : ∃ p, plainLen (a :: l) = p := ⟨_, rfl⟩
      rw [hpp] at hp1 hle
      have hc : (UInt8.ofNat (p - 1)).toNat = p - 1 := ofNat_toNat _ (by omega)
      have htl : ((a :: l).take p).length = p := by rw [List.length_take]; omega
      rw [pack_plain (by omega) h0, hpp, unpackOn_plain S _ acc _ (by rw [hc]; omega) (by rw [hc, List.length_append, htl]; omega), hc, show p - 1 + 1 = p from by omega]
      rw [List.take_append_of_le_length (by omega), List.take_of_length_le (by omega), List.drop_append_of_le_length (by omega), List.drop_of_length_le (l := (a :: l).take p) (by omega), List.nil_append]
      rw [if_neg (by rw [List.length_append, htl]; omega)]
      rw [unpackOn_pack S n ((a :: l).drop p) (acc ++ (a :: l).take p) (by rw [List.length_drop]; omega) (by rw [List.append_assoc, List.take_append_drop]; exact h48), List.append_assoc, List.take_append_drop]

theorem unpack_pack (l : List UInt8) (h : l.length ≤ 48) : unpackOn (pack l) (pack l) [] = (0, l) := by
  rw [unpackOn_pack (pack l) l.length l [] (Nat.le_refl _) (by simpa using h), List.nil_append, unpackOn_nil, if_pos rfl]

theorem unpackF_ok (S : List UInt8) : ∀ (n : Nat) (l acc u : List UInt8), acc.length ≤ 48 → unpackF S n l acc = (0, u) → pack u = S ∧ u.length ≤ 48
  | 0, _, _, _, _, h => by simp [unpackF] at h
  | n + 1, [], acc, u, ha, h => by
    simp only [unpackF] at h
    by_cases hp : pack acc = S
    · rw [if_pos hp] at h
      obtain rfl : acc = u := by simpa using h
      exact ⟨hp, ha⟩
    · rw [if_neg hp] at h
      simp at h
  | n + 1, c :: rest, acc, u, ha, h => by
    simp only [unpackF] at h
    by_cases hc : 128 ≤ c.toNat
    · rw [if_pos hc] at h
      cases rest with
      | nil => simp at h
      | cons x rest =>
        simp only at h
        by_cases hb : 48 < (acc ++ List.replicate (c.toNat - 125) x).length
        · rw [if_pos hb] at h; simp at h
        · rw [if_neg hb] at h
          exact unpackF_ok S n rest _ u (by omega) h
    · rw [if_neg hc] at h
      by_cases hs : rest.length < c.toNat + 1
      · rw [if_pos hs] at h; simp at h
      · rw [if_neg hs] at h
        by_cases hb : 48 < (acc ++ rest.take (c.toNat + 1)).length
        · rw [if_pos hb] at h; simp at h
        · rw [if_neg hb] at h
          exact unpackF_ok S n _ _ u (by omega) h

theorem pack_length : ∀ (n : Nat) (l : List UInt8), l.length ≤ n → (pack l).length ≤ l.length + 1 ∧ (3 ≤ runLen l → (pack l).length ≤ l.length)
  | 0, l, h => by
    have : l = [] := List.eq_nil_of_length_eq_zero (by omega)
    subst this
    exact ⟨by simp [pack_nil], fun h => by simp [runLen] at h⟩
  | n + 1, [], _ => ⟨by simp [pack_nil], fun h => by simp [runLen] at h⟩
  | n + 1, a :: l, h => by
    have h0 : 0 < (a :: l).length := by simp
    by_cases hr : 3 ≤ runLen (a :: l)
    · have hle := runLen_le (a :: l)
      have ih := (pack_length n ((a :: l).drop (runLen (a :: l))) (by rw [List.length_drop]; omega)).1
      rw [List.length_drop] at ih
      have : (pack (a :: l)).length ≤ (a :: l).length := by
        rw [pack_run hr h0, List.length_cons, List.length_cons]
        omega
      exact ⟨by omega, fun _ => this⟩
    · have hp1 : 1 ≤ plainLen (a :: l) := by rw [plainLen, if_neg (by omega)]; omega
      have hle := plainLen_le (a :: l)
      refine ⟨?_, fun h => absurd h hr⟩
      rw [pack_plain (by omega) h0, List.length_cons, List.length_append, List.length_take, Nat.min_eq_left hle]
      have ih := pack_length n ((a :: l).drop (plainLen (a :: l))) (by rw [List.length_drop]; omega)
      rcases plainLen_end (a :: l) with he | he
      · rw [he, List.drop_length, pack_nil, List.length_nil]
        omega
      · have := ih.2 he
        rw [List.length_drop] at this
        omega
end Go.Proofs.YtphbebcbbfbgpacDoor

namespace Go.Proofs.YtphbebcbbfbgpacDoor
open Go

abbrev Bs := List UInt8
/-- the two sums -/
def adl (l : Bs) : Nat × Nat := l.foldl (fun s b => ((s.1 + b.toNat) % 65521, (s.2 + (s.1 + b.toNat) % 65521) % 65521)) (1, 0)
def sealL (l : Bs) : Bs := [UInt8.ofNat ((adl l).2 / 256), UInt8.ofNat ((adl l).2 % 256), UInt8.ofNat ((adl l).1 / 256), UInt8.ofNat ((adl l).1 % 256)]
theorem sealL_len (l : Bs) : (sealL l).length = 4 := rfl
theorem adl_snoc (l : Bs) (b : UInt8) : adl (l ++ [b]) = (((adl l).1 + b.toNat) % 65521, ((adl l).2 + ((adl l).1 + b.toNat) % 65521) % 65521) := by
  unfold adl; rw [List.foldl_append]; rfl
theorem adl_lt (l : Bs) : (adl l).1 < 65521 ∧ (adl l).2 < 65521 := by
  rcases List.eq_nil_or_concat l with rfl | ⟨m, b, rfl⟩
  · exact ⟨by decide, by decide⟩
  · rw [List.concat_eq_append, adl_snoc]
    exact ⟨Nat.mod_lt _ (by omega), Nat.mod_lt _ (by omega)⟩
theorem adl_fst (l : Bs) : (adl l).1 = (1 + (l.map (·.toNat)).sum) % 65521 := by
  refine snocInd (C := fun l => (adl l).1 = (1 + (l.map (·.toNat)).sum) % 65521) l rfl (fun l b ih => ?_)
  rw [adl_snoc, List.map_append, List.sum_append]
  simp only [ih, List.map_cons, List.map_nil, List.sum_cons, List.sum_nil]
  omega
/-- one byte that differs: the seal differs -/
theorem sealL_ne {p q : Bs} {a b : UInt8} (h : a ≠ b) : sealL (p ++ a :: q) ≠ sealL (p ++ b :: q) := by
  intro e
  simp only [sealL, List.cons.injEq, and_true] at e
  obtain ⟨_, _, e2, e3⟩ := e
  have l1 := (adl_lt (p ++ a :: q)).1
  have l2 := (adl_lt (p ++ b :: q)).1
  have e2 := congrArg UInt8.toNat e2
  have e3 := congrArg UInt8.toNat e3
  rw [ofNat_toNat _ (by omega), ofNat_toNat _ (by omega)] at e2 e3
  have e4 : (adl (p ++ a :: q)).1 = (adl (p ++ b :: q)).1 := by omega
  rw [adl_fst, adl_fst, List.map_append, List.map_append, List.sum_append, List.sum_append, List.map_cons, List.map_cons, List.sum_cons, List.sum_cons] at e4
  have ha := a.toNat_lt
  have hb := b.toNat_lt
  apply h
  apply UInt8.toNat_inj.1
  omega

def wbytes (x : Wrt) : Bs := UInt8.ofNat x.block.toNat :: UInt8.ofNat (pack x.data.data.toList).length :: pack x.data.data.toList
def bodyL (ws : List Wrt) : Bs := UInt8.ofNat ws.length :: ws.flatMap wbytes
def headL (body : Bs) : Bs := 114 :: UInt8.ofNat (body.length / 256) :: UInt8.ofNat (body.length % 256) :: body
def recL (ws : List Wrt) : Bs := headL (bodyL ws) ++ sealL (headL (bodyL ws))

def unpk (s : Bs) : Int × Bs := unpackOn s s []
def writesF : Nat → Bs → Option (List Wrt)
  | 0, s => if s = [] then some [] else none
  | n + 1, s => match s with
    | b :: k :: r => if r.length < k.toNat then none else
        if (unpk (r.take k.toNat)).1 = 0 then (writesF n (r.drop k.toNat)).map (fun ws => ⟨b.toNat, ⟨(unpk (r.take k.toNat)).2.toArray⟩⟩ :: ws) else none
    | _ => none
def firstL (s : Bs) (blocks : Int) : Option (List Wrt × Nat) := match s with
  | c :: h :: l :: r =>
    if c = 114 ∧ 256 * h.toNat + l.toNat + 4 ≤ r.length ∧ sealL (s.take (3 + (256 * h.toNat + l.toNat))) = (s.drop (3 + (256 * h.toNat + l.toNat))).take 4 then
      match r.take (256 * h.toNat + l.toNat) with
      | [] => none
      | m :: b => match writesF m.toNat b with
        | none => none
        | some ws => if writesK ws blocks = 0 then some (ws, 3 + (256 * h.toNat + l.toNat) + 4) else none
    else none
  | _ => none
theorem firstL_pos {s : Bs} {b : Int} {ws : List Wrt} {n : Nat} (h : firstL s b = some (ws, n)) : 7 ≤ n ∧ n ≤ s.length ∧ GoodW ws b := by
  unfold firstL at h
  split at h
  · split at h
    · rename_i hc
      split at h
      · simp at h
      · split at h
        · simp at h
        · split at h
          · rename_i hw
            simp only [Option.some.injEq, Prod.mk.injEq] at h
            obtain ⟨rfl, rfl⟩ := h
            refine ⟨by omega, by simp only [List.length_cons]; omega, writesK_zero.1 hw⟩
          · simp at h
    · simp at h
  · simp at h
def scanF : Nat → Bs → Int → List (List Wrt) × Nat
  | 0, _, _ => ([], 0)
  | f + 1, s, b => match firstL s b with
    | none => ([], 0)
    | some (ws, n) => (ws :: (scanF f (s.drop n) b).1, n + (scanF f (s.drop n) b).2)
def scanL (s : Bs) (b : Int) : List (List Wrt) × Nat := scanF s.length s b
theorem scanF_enough (b : Int) : ∀ (f g : Nat) (s : Bs), s.length ≤ f → s.length ≤ g → scanF f s b = scanF g s b
  | 0, 0, _, _, _ => rfl
  | 0, g + 1, s, h, _ => by
    have : s = [] := List.eq_nil_of_length_eq_zero (by omega)
    subst this
    rfl
  | f + 1, 0, s, _, h => by
    have : s = [] := List.eq_nil_of_length_eq_zero (by omega)
    subst this
    rfl
  | f + 1, g + 1, s, h1, h2 => by
    rw [scanF, scanF]
    cases h : firstL s b with
    | none => rfl
    | some x =>
      obtain ⟨ws, n⟩ := x
      have hp := firstL_pos h
      simp only
      rw [scanF_enough b f g (s.drop n) (by rw [List.length_drop]; omega) (by rw [List.length_drop]; omega)]
theorem scanL_none {s : Bs} {b : Int} (h : firstL s b = none) : scanL s b = ([], 0) := by
  unfold scanL
  cases s with
  | nil => rfl
  | cons c r => rw [List.length_cons, scanF, h]
theorem scanL_some {s : Bs} {b : Int} {ws : List Wrt} {n : Nat} (h : firstL s b = some (ws, n)) : scanL s b = (ws :: (scanL (s.drop n) b).1, n + (scanL (s.drop n) b).2) := by
  have hp := firstL_pos h
  unfold scanL
  cases hs : s.length with
  | zero => omega
  | succ f =>
    rw [scanF, h]
    simp only
    rw [scanF_enough b f (s.drop n).length (s.drop n) (by rw [List.length_drop]; omega) (Nat.le_refl _)]

theorem wbytes_len {x : Wrt} (h : x.data.size ≤ 48) : (wbytes x).length ≤ 51 := by
  have := (pack_length _ x.data.data.toList (Nat.le_refl _)).1
  rw [← size_list] at this
  simp only [wbytes, List.length_cons]
  omega
theorem flatMap_len {ws : List Wrt} (h : ∀ x ∈ ws, x.data.size ≤ 48) : (ws.flatMap wbytes).length ≤ ws.length * 51 := by
  induction ws with
  | nil => simp
  | cons x r ih =>
    rw [List.flatMap_cons, List.length_append, List.length_cons]
    have := wbytes_len (h x (by simp))
    have := ih (fun y hy => h y (by simp [hy]))
    omega
theorem bodyL_len {ws : List Wrt} {b : Int} (g : GoodW ws b) : 1 ≤ (bodyL ws).length ∧ (bodyL ws).length ≤ 613 := by
  have := flatMap_len g.size
  have := g.len
  simp only [bodyL, List.length_cons]
  omega
theorem recL_len (ws : List Wrt) : (recL ws).length = (bodyL ws).length + 7 := by
  simp [recL, headL, sealL_len]
theorem recL_pos {ws : List Wrt} : 8 ≤ (recL ws).length := by
  rw [recL_len]; simp [bodyL]
theorem recL_le {ws : List Wrt} {b : Int} (g : GoodW ws b) : (recL ws).length ≤ 620 := by
  rw [recL_len]; have := bodyL_len g; omega

theorem writesF_back {b : Int} (hb : b ≤ 256) : ∀ (ws : List Wrt), (∀ x ∈ ws, 0 ≤ x.block ∧ x.block < b ∧ x.data.size ≤ 48) → writesF ws.length (ws.flatMap wbytes) = some ws
  | [], _ => by simp [writesF]
  | x :: r, h => by
    have hx := h x (by simp)
    have hl := (pack_length _ x.data.data.toList (Nat.le_refl _)).1
    rw [← size_list] at hl
    have e1 : (UInt8.ofNat x.block.toNat).toNat = x.block.toNat := ofNat_toNat _ (by omega)
    have e2 : (UInt8.ofNat (pack x.data.data.toList).length).toNat = (pack x.data.data.toList).length := ofNat_toNat _ (by omega)
    have e3 : unpk (pack x.data.data.toList) = (0, x.data.data.toList) := unpack_pack _ (by rw [← size_list]; exact hx.2.2)
    rw [List.length_cons, List.flatMap_cons, wbytes, List.cons_append, List.cons_append, writesF]
    simp only [e1, e2]
    rw [if_neg (by rw [List.length_append]; omega), List.take_left, List.drop_left, e3, if_pos rfl, writesF_back hb r (fun y hy => h y (by simp [hy]))]
    simp only [Option.map_some, Option.some.injEq, List.cons.injEq, and_true]
    obtain ⟨xb, ⟨⟨xl⟩⟩⟩ := x
    simp only [Wrt.mk.injEq, and_true]
    simp only at hx
    omega

/-- the front of bytes, seen by its length -/
theorem firstL_of {body t u : Bs} {b : Int} (h1 : body.length < 65536) (hu : u.length = 4) :
    firstL (headL body ++ u ++ t) b = if sealL (headL body) = u then (match body with
      | [] => none
      | m :: r => match writesF m.toNat r with
        | none => none
        | some ws => if writesK ws b = 0 then some (ws, body.length + 7) else none) else none := by
  have e1 : (UInt8.ofNat (body.length / 256)).toNat = body.length / 256 := ofNat_toNat _ (by omega)
  have e2 : (UInt8.ofNat (body.length % 256)).toNat = body.length % 256 := ofNat_toNat _ (by omega)
  have e3 : 256 * (body.length / 256) + body.length % 256 = body.length := by omega
  have e4 : (headL body ++ u ++ t).take (3 + body.length) = headL body := by
    rw [List.append_assoc, List.take_left' (by simp [headL]; omega)]
  have e5 : ((headL body ++ u ++ t).drop (3 + body.length)).take 4 = u := by
    rw [List.append_assoc, List.drop_left' (by simp [headL]; omega), List.take_left' hu]
  have hs : headL body ++ u ++ t = 114 :: UInt8.ofNat (body.length / 256) :: UInt8.ofNat (body.length % 256) :: (body ++ (u ++ t)) := by simp [headL]
  rw [hs] at e4 e5 ⊢
  unfold firstL
  simp only [e1, e2, e3]
  rw [e4, e5, List.take_left]
  by_cases he : sealL (headL body) = u
  · rw [if_pos ⟨by simp, by simp; omega, he⟩, if_pos he]
    cases body with
    | nil => rfl
    | cons m r =>
      simp only
      cases writesF m.toNat r with
      | none => rfl
      | some ws =>
        simp only
        split
        · congr 2; simp only [List.length_cons]; omega
        · rfl
  · rw [if_neg (fun h => he h.2.2), if_neg he]

theorem firstL_rec {ws : List Wrt} {b : Int} (g : GoodW ws b) (hb : b ≤ 256) (t : Bs) : firstL (recL ws ++ t) b = some (ws, (recL ws).length) := by
  have hl := bodyL_len g
  rw [recL, firstL_of (by omega) (sealL_len _), if_pos rfl]
  have e : (UInt8.ofNat ws.length).toNat = ws.length := ofNat_toNat _ (by have := g.len; omega)
  have hr := recL_len ws
  rw [recL] at hr
  rw [hr]
  simp only [bodyL, e, writesF_back hb ws (fun x hx => ⟨g.lo x hx, g.hi x hx, g.size x hx⟩)]
  rw [if_pos (writesK_zero.2 g)]
theorem firstL_cut {ws : List Wrt} {b : Int} (g : GoodW ws b) {k : Nat} (hk : k < (recL ws).length) : firstL ((recL ws).take k) b = none := by
  have hl := bodyL_len g
  rw [recL_len] at hk
  have hs : recL ws = 114 :: UInt8.ofNat ((bodyL ws).length / 256) :: UInt8.ofNat ((bodyL ws).length % 256) :: (bodyL ws ++ sealL (headL (bodyL ws))) := by simp [recL, headL]
  rw [hs]
  have e1 : (UInt8.ofNat ((bodyL ws).length / 256)).toNat = (bodyL ws).length / 256 := ofNat_toNat _ (by omega)
  have e2 : (UInt8.ofNat ((bodyL ws).length % 256)).toNat = (bodyL ws).length % 256 := ofNat_toNat _ (by omega)
  match k, hk with
  | 0, _ => rfl
  | 1, _ => rfl
  | 2, _ => rfl
  | k + 3, hk =>
    simp only [List.take_succ_cons]
    unfold firstL
    simp only [e1, e2]
    rw [if_neg]
    rintro ⟨_, h, _⟩
    rw [List.length_take, List.length_append, sealL_len] at h
    omega

/-- records one behind the other -/
def recs (ds : List (List Wrt)) : Bs := ds.flatMap recL
theorem recs_nil : recs [] = [] := rfl
theorem recs_cons (d : List Wrt) (ds : List (List Wrt)) : recs (d :: ds) = recL d ++ recs ds := rfl
theorem recs_append (ds es : List (List Wrt)) : recs (ds ++ es) = recs ds ++ recs es := by simp [recs]
theorem scanL_recs {b : Int} (hb : b ≤ 256) : ∀ (ds : List (List Wrt)), (∀ d ∈ ds, GoodW d b) → ∀ t, scanL (recs ds ++ t) b = (ds ++ (scanL t b).1, (recs ds).length + (scanL t b).2)
  | [], _, t => by simp [recs_nil]
  | d :: ds, h, t => by
    rw [recs_cons, List.append_assoc, scanL_some (firstL_rec (h d (by simp)) hb _), List.drop_left, scanL_recs hb ds (fun x hx => h x (by simp [hx])) t]
    simp only [List.cons_append, List.length_append, Prod.mk.injEq, true_and]
    omega
theorem scanL_nil (b : Int) : scanL [] b = ([], 0) := rfl
/-- how many records lie within so many bytes -/
def fitN : List (List Wrt) → Nat → Nat
  | [], _ => 0
  | d :: ds, k => if (recL d).length ≤ k then fitN ds (k - (recL d).length) + 1 else 0
theorem fitN_le : ∀ (ds : List (List Wrt)) (k : Nat), fitN ds k ≤ ds.length
  | [], _ => Nat.le_refl _
  | d :: ds, k => by
    rw [fitN]
    split
    · have := fitN_le ds (k - (recL d).length); simp only [List.length_cons]; omega
    · omega
theorem recs_take_fit : ∀ (ds : List (List Wrt)) (k : Nat), (recs (ds.take (fitN ds k))).length ≤ k
  | [], _ => by simp [fitN, recs_nil]
  | d :: ds, k => by
    rw [fitN]
    split
    · rename_i h
      have := recs_take_fit ds (k - (recL d).length)
      rw [List.take_succ_cons, recs_cons, List.length_append]; omega
    · simp [recs_nil]
theorem fit_next : ∀ (ds : List (List Wrt)) (k : Nat), fitN ds k < ds.length → k < (recs (ds.take (fitN ds k + 1))).length
  | [], _, h => by simp at h
  | d :: ds, k, h => by
    rw [fitN] at h ⊢
    split
    · rename_i hk
      rw [if_pos hk] at h
      have := fit_next ds (k - (recL d).length) (by simpa using h)
      rw [List.take_succ_cons, recs_cons, List.length_append]; omega
    · simp [recs_cons, recs_nil]; omega
/-- a log that was cut is scanned up to the last record that is whole -/
theorem scanL_cut {b : Int} (hb : b ≤ 256) : ∀ (ds : List (List Wrt)), (∀ d ∈ ds, GoodW d b) → ∀ k, scanL ((recs ds).take k) b = (ds.take (fitN ds k), (recs (ds.take (fitN ds k))).length)
  | [], _, k => by simp [recs_nil, scanL_nil, fitN]
  | d :: ds, h, k => by
    rw [fitN]
    split
    · rename_i hk
      rw [recs_cons, List.take_append, List.take_of_length_le hk, scanL_some (firstL_rec (h d (by simp)) hb _), List.drop_left, scanL_cut hb ds (fun x hx => h x (by simp [hx]))]
      rw [List.take_succ_cons, recs_cons, List.length_append]
    · rename_i hk
      rw [recs_cons, List.take_append_of_le_length (by omega), scanL_none (firstL_cut (h d (by simp)) (by omega))]
      simp [recs_nil]
end Go.Proofs.YtphbebcbbfbgpacDoor

namespace Go.Proofs.YtphbebcbbfbgpacDoor
open Go Go.RowKit

theorem own_slice {w : World} {base : Nat} {e : TypeId} {size : Nat} {v : Value} {n : Nat} {xs : List Value} (h : w.ownsRow base e size v n xs) : ∃ A cap, v = .slice A n cap := by
  rcases h.2 with ⟨rfl, rfl⟩ | ⟨g, cap, cur, rfl, _⟩
  · exact ⟨_, _, rfl⟩
  · exact ⟨_, _, rfl⟩

set_option maxRecDepth 20000 in
set_option maxHeartbeats 4000000 in
theorem unpack_any (s : ByteArray) (w : World) (hs : s.size ≤ maxLen) :
    Calls Tryd.prog 133 #[.string s] w fun e w' => UnpackPost s e ∧ Below w.heap.size w w' := by
  have hls := size_list s
  have hs0 : s.size ≤ 9223372036854775807 := hs
  have hpk : ∀ (t : ByteArray) W, t.size ≤ 48 → Calls Tryd.prog 110 #[.string t] W fun e w' => PackPost t e ∧ Below W.heap.size W w' :=
    fun t W ht => pack_any t W ht
  have HP := Lib.hid hpk
  have HLS := Lib.hid hls
  obtain ⟨i0, hi, hz0, hz1, hz2⟩ := info_parts infoByte
  have HI := Lib.hid hi
  have HZ0 := Lib.hid hz0
  have HZ1 := Lib.hid hz1
  have HZ2 := Lib.hid hz2
  clear hpk hls hs hi hz0 hz1 hz2
  go_enter Tryd.func133, Tryd.ntmps133
  go_wp2
  go_loopw [4, 5] (fun v t wr => ∃ (i : Nat) (out : List UInt8), i ≤ s.size ∧ out.length ≤ 48 ∧ i ≤ 2 * out.length ∧ t = .int .i64 i ∧ wr.ownsRow w.heap.size 5 1 v out.length (bcells out) ∧ Below w.heap.size w wr ∧ Hid (unpackOn s.data.toList (s.data.toList.drop i) out = unpackOn s.data.toList s.data.toList [])) (fun _ t _ => s.size - (intOf t).toNat)
  case atStart => exact ⟨0, [], by omega, Nat.zero_le _, by omega, rfl, World.ownsRow_nil _ _ _ _, Below.refl _ _, Lib.hid (by rfl)⟩
  case round =>
    obtain ⟨i, out, hile, ho48, hio, rfl, hown, hbel, hinv⟩ := hrel
    have HO := Lib.hid hown
    have HB := Lib.hid hbel
    clear hown hbel
    by_cases hlt : i < s.size
    · obtain ⟨c, hc⟩ : ∃ c, s[i]'hlt = c := ⟨_, rfl⟩
      have hget := get_list s i hlt
      rw [hc] at hget
      have HGET := Lib.hid hget
      have hc256 : c.toNat < 256 := c.toNat_lt
      have hcn : ((s[i]'hlt).toNat : Int) = (c.toNat : Int) := by rw [hc]
      obtain ⟨n, hn⟩ : ∃ n, c.toNat = n := ⟨_, rfl⟩
      have HN0 := Lib.hid hn
      rw [hn] at hcn hc256
      clear hget hc
      by_cases hbig : 128 ≤ n
      · have d1 : decide ((n : Int) ≥ 128) = true := by simp; omega
        have d1' : decide ((n : Int) < 128) = false := by simp; omega
        by_cases hend : s.size ≤ i + 1
        · have d2 : decide ((i : Int) + 1 ≥ (s.size : Int)) = true := by simp; omega
          have hfin := unpack_runEnd (s := s.data.toList) (acc := out) HGET.out (by rw [hn]; exact hbig) (by have := HLS.out; omega)
          rw [hinv.out] at hfin
          have HF := Lib.hid hfin
          clear hfin hn
          go_wp2
          go_ret2
          exact ⟨unpackPost_of HF.out rfl, HB.out⟩
        · have h1 : i + 1 < s.size := by omega
          have d2 : decide ((i : Int) + 1 ≥ (s.size : Int)) = false := by simp; omega
          obtain ⟨x, hx⟩ : ∃ x, s[i + 1]'h1 = x := ⟨_, rfl⟩
          have hget1 := get_list s (i + 1) h1
          rw [hx] at hget1
          have hstep := unpack_run (s := s.data.toList) (acc := out) HGET.out (by rw [hn]; exact hbig) hget1
          obtain ⟨d, hd⟩ : ∃ d, n = d + 125 := ⟨n - 125, by omega⟩
          rw [hinv.out, hn, show n - 125 = d from by omega] at hstep
          have HS := Lib.hid hstep
          have HX := Lib.hid hx
          have HD := Lib.hid hd
          have hd130 : d ≤ 130 := by omega
          have hd3 : 3 ≤ d := by omega
          clear hget1 hx hstep hn hd
          go_wp2
          go_loopw [4, 58] (fun v t wr => ∃ (k : Nat), k ≤ d ∧ t = .int .i64 k ∧ wr.ownsRow w.heap.size 5 1 v (out ++ List.replicate k x).length (bcells (out ++ List.replicate k x)) ∧ Below w.heap.size w wr) (fun _ t _ => d - (intOf t).toNat)
          case atStart => exact ⟨0, by omega, rfl, by rw [List.replicate_zero, List.append_nil]; exact HO.out, HB.out⟩
          case round =>
            obtain ⟨k, hk, rfl, hown, hbel⟩ := hrel
            have HB1 := Lib.hid hbel
            have HO1 := Lib.hid hown
            clear hbel hown
            have hlen : (out ++ List.replicate k x).length = out.length + k := by rw [List.length_append, List.length_replicate]
            have HLEN := Lib.hid hlen
            by_cases hkc : k < d
            · have dk : decide ((k : Int) < (n : Int) - 128 + 3) = true := by have := HD.out; simp; omega
              clear hlen
              go_wp2_with (at_builtin; refine wpList_append_own _ rfl (.tmp 60) (.tmp 65) 105 rfl w.heap.size 5 i0 _ 1 1 Tryd.underlying105 HI.out HZ0.out HZ1.out HZ2.out rfl (by decide) _ _ _ rfl (HO1.out.alloc _) ⟨wr.heap.size, 0, none⟩ 1 1 [.int .u8 (s[i + 1]'h1).toNat] rfl rfl (by exact cell_one_new _ _ _) (by simp [Value.oneCell']) (by have := HLEN.out; unfold maxLen; omega) (by have := HLEN.out; omega) (by simp; exact Nat.le_succ_of_le HB1.out.size) ?_; intro v' w2 hown2 hgr2 _)
              have hcs : [Value.int .u8 (s[i + 1]'h1).toNat] = bcells [x] := by rw [HX.out]; rfl
              rw [hcs, ← bcells_append, List.append_assoc, ← List.replicate_succ', show (out ++ List.replicate k x).length + 1 = (out ++ List.replicate (k + 1) x).length from by simp only [List.length_append, List.length_replicate]; omega] at hown2
              have hb2 : Below w.heap.size w w2 := (HB1.out.alloc HB1.out.size _).grown hgr2 (by simp; exact Nat.le_succ_of_le HB1.out.size) (fun k hk => (HO1.out.lt k hk).1)
              clear hcs hgr2
              go_wp2
              go_roundw
              case rel => exact ⟨k + 1, by omega, by go_num, hown2, hb2⟩
              case measure => simp [intOf]; omega
            · have dk : decide ((k : Int) < (n : Int) - 128 + 3) = false := by have := HD.out; simp; omega
              obtain rfl : k = d := by omega
              obtain ⟨m, hm⟩ : ∃ m, (out ++ List.replicate k x).length = m := ⟨_, rfl⟩
              have hown := HO1.out
              rw [hm] at hown
              obtain ⟨A, cap, rfl⟩ := own_slice hown
              by_cases hbg : 48 < m
              · have db : decide ((m : Int) > 48) = true := by simp; omega
                have hfin := HS.out
                rw [if_pos (by rw [hm]; exact hbg)] at hfin
                have HF := Lib.hid hfin
                clear hfin hm hown hlen
                go_wp2
                go_ret2
                exact ⟨unpackPost_of HF.out rfl, HB1.out⟩
              · have db : decide ((m : Int) > 48) = false := by simp; omega
                have hfin := HS.out
                rw [if_neg (by rw [hm]; exact hbg)] at hfin
                have HF := Lib.hid hfin.symm
                have HO2 := Lib.hid hown
                have HM := Lib.hid hm
                clear hfin hown hm hlen
                go_wp2
                go_roundw
                case rel => exact ⟨i + 2, _, by omega, by rw [HM.out]; omega, by have := HLEN.out; have := HM.out; have := HD.out; omega, by go_num, by rw [HM.out]; exact HO2.out, HB1.out, HF⟩
                case measure => simp [intOf]; omega
      · have d1 : decide ((n : Int) ≥ 128) = false := by simp; omega
        have d1' : decide ((n : Int) < 128) = true := by simp; omega
        by_cases hend : s.size < i + 2 + n
        · have d2 : decide ((i : Int) + 1 + (n : Int) ≥ (s.size : Int)) = true := by simp; omega
          have hfin := unpack_plainEnd (s := s.data.toList) (acc := out) HGET.out (by rw [hn]; exact hbig) (by have := HLS.out; rw [hn]; omega)
          rw [hinv.out] at hfin
          have HF := Lib.hid hfin
          clear hfin hn
          go_wp2
          go_ret2
          exact ⟨unpackPost_of HF.out rfl, HB.out⟩
        · have d2 : decide ((i : Int) + 1 + (n : Int) ≥ (s.size : Int)) = false := by simp; omega
          have hstep := unpack_plain (s := s.data.toList) (acc := out) HGET.out (by rw [hn]; exact hbig) (by have := HLS.out; rw [hn]; omega)
          rw [hinv.out, hn] at hstep
          have hx1 : (s.extract (i + 1) (i + 2 + n)).data.toList = (s.data.toList.drop (i + 1)).take (n + 1) := by
            rw [extract_list, show i + 2 + n - (i + 1) = n + 1 from by omega]
          have hxs : (s.extract (i + 1) (i + 2 + n)).size = n + 1 := by rw [size_list, hx1, List.length_take, List.length_drop]; have := HLS.out; omega
          obtain ⟨l2, hl2⟩ : ∃ l2, out ++ (s.data.toList.drop (i + 1)).take (n + 1) = l2 := ⟨_, rfl⟩
          have hlen2 : l2.length = out.length + (n + 1) := by rw [← hl2, ← hx1, List.length_append, ← size_list, hxs]
          rw [hl2] at hstep
          have HX1 := Lib.hid hx1
          have HXS := Lib.hid hxs
          have HL2 := Lib.hid hl2
          have HLEN := Lib.hid hlen2
          have HS := Lib.hid hstep
          clear hstep hx1 hxs hl2 hlen2 hn
          obtain ⟨m, hm⟩ : ∃ m, l2.length = m := ⟨_, rfl⟩
          have hlm := HLEN.out
          have hstep := HS.out
          rw [hm] at hlm hstep
          have HM := Lib.hid hm
          have HLM := Lib.hid hlm
          have hm200 : m ≤ 200 := by omega
          clear hm hlm
          by_cases hbg : 48 < m
          · have db : decide ((m : Int) > 48) = true := by simp; omega
            rw [if_pos hbg] at hstep
            have HF := Lib.hid hstep
            clear hstep
            go_wp2_with (at_builtin; refine Lib.wpList_append_own_string _ rfl (.tmp 17) (.tmp 25) 105 9 rfl w.heap.size 5 i0 Tryd.underlying105 Tryd.underlying9 HI.out HZ0.out HZ1.out HZ2.out _ _ _ rfl HO.out (s.extract (i + 1) (i + 2 + n)) rfl (by unfold maxLen; rw [HXS.out]; omega) (by rw [HXS.out]; omega) HB.out.size ?_; intro v' w2 hown2 hgr2 _; have HB2 : Hid (Below w.heap.size w w2) := Lib.hid (HB.out.grown hgr2 HB.out.size (fun k hk => (HO.out.lt k hk).1)); rw [bcells_str, HX1.out, ← bcells_append, HL2.out, show out.length + (s.extract (i + 1) (i + 2 + n)).size = m from by rw [HXS.out]; exact HLM.out.symm] at hown2; obtain ⟨A, cap, rfl⟩ := own_slice hown2; have HO2 := Lib.hid hown2; clear hgr2 hown2)
            go_ret2
            exact ⟨unpackPost_of HF.out rfl, HB2.out⟩
          · have db : decide ((m : Int) > 48) = false := by simp; omega
            rw [if_neg hbg] at hstep
            have HF := Lib.hid hstep.symm
            clear hstep
            go_wp2_with (at_builtin; refine Lib.wpList_append_own_string _ rfl (.tmp 17) (.tmp 25) 105 9 rfl w.heap.size 5 i0 Tryd.underlying105 Tryd.underlying9 HI.out HZ0.out HZ1.out HZ2.out _ _ _ rfl HO.out (s.extract (i + 1) (i + 2 + n)) rfl (by unfold maxLen; rw [HXS.out]; omega) (by rw [HXS.out]; omega) HB.out.size ?_; intro v' w2 hown2 hgr2 _; have HB2 : Hid (Below w.heap.size w w2) := Lib.hid (HB.out.grown hgr2 HB.out.size (fun k hk => (HO.out.lt k hk).1)); rw [bcells_str, HX1.out, ← bcells_append, HL2.out, show out.length + (s.extract (i + 1) (i + 2 + n)).size = m from by rw [HXS.out]; exact HLM.out.symm] at hown2; obtain ⟨A, cap, rfl⟩ := own_slice hown2; have HO2 := Lib.hid hown2; clear hgr2 hown2)
            go_roundw
            case rel => exact ⟨i + 2 + n, l2, by omega, by rw [HM.out]; omega, by have := HM.out; have := HLM.out; omega, by go_num, by rw [HM.out]; exact HO2.out, HB2.out, HF⟩
            case measure => simp [intOf]; omega
    · obtain rfl : i = s.size := by omega
      have hfin := hinv.out
      have hconv := run_string_own (src := 105) (dst := 9) Tryd.underlying105 Tryd.underlying5 Tryd.underlying9 HO.out
      obtain ⟨o, hob⟩ : ∃ o : ByteArray, o = ⟨out.toArray⟩ := ⟨_, rfl⟩
      obtain rfl : out = o.data.toList := by rw [hob]
      have hoe : (⟨o.data.toList.toArray⟩ : ByteArray) = o := rfl
      rw [hoe] at hconv
      rw [List.drop_of_length_le (by have := HLS.out; omega), unpackOn_nil] at hfin
      have ho48' : o.size ≤ 48 := by rw [size_list]; exact ho48
      clear hob hoe
      by_cases hpp : pack o.data.toList = s.data.toList
      · rw [if_pos hpp] at hfin
        have HF := Lib.hid hfin.symm
        have he : packB o = s := ByteArray.ext (Array.toList_inj.1 (by rw [← hpp]; simp [packB]))
        have HE := Lib.hid he
        clear hfin hpp he
        go_wp2_with (refine (HP.out o _ ho48').mono ?_; rintro e w1 ⟨he, hb1⟩; rw [PackPost, HE.out] at he; subst he; have hconv1 := run_string_own (src := 105) (dst := 9) Tryd.underlying105 Tryd.underlying5 Tryd.underlying9 (own_below HO.out hb1); rw [show (⟨o.data.toList.toArray⟩ : ByteArray) = o from rfl] at hconv1)
        go_ret2
        exact ⟨unpackPost_of HF.out rfl, HB.out.trans (hb1.mono HB.out.size)⟩
      · rw [if_neg hpp] at hfin
        have HF := Lib.hid hfin.symm
        have he : packB o ≠ s := fun h => hpp (by rw [← h]; simp [packB])
        have hno := toList_beq_no he
        clear hfin hpp he
        go_wp2_with (refine (HP.out o _ ho48').mono ?_; rintro e w1 ⟨he, hb1⟩; rw [PackPost] at he; subst he)
        go_ret2
        exact ⟨unpackPost_of HF.out rfl, HB.out.trans (hb1.mono HB.out.size)⟩
end Go.Proofs.YtphbebcbbfbgpacDoor
