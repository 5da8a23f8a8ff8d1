/- Packing and unpacking in plain Lean (P1.1, P1.2): no program in sight. -/
import Derived.Test.YtphbebcbbfbgpabMem
namespace Go.Proofs.Ytphbebcbbfbgpab

/-- how many bytes at the front are the first one -/
def runLen : List UInt8 → Nat
  | [] => 0
  | [_] => 1
  | a :: b :: l => if b = a then runLen (b :: l) + 1 else 1

theorem runLen_le : ∀ l, runLen l ≤ l.length
  | [] => by simp [runLen]
  | [_] => by simp [runLen]
  | a :: b :: l => by
    have := runLen_le (b :: l)
    simp only [runLen, List.length_cons] at this ⊢
    split <;> omega
theorem runLen_pos : ∀ l, l ≠ [] → 1 ≤ runLen l
  | [], h => absurd rfl h
  | [_], _ => by simp [runLen]
  | a :: b :: l, _ => by
    simp only [runLen]
    split <;> omega
/-- within the run all bytes are the first -/
theorem runLen_same : ∀ (l : List UInt8) (j : Nat), j < runLen l → ∀ (h0 : 0 < l.length) (hj : j < l.length), l[j] = l[0]
  | [], j, h, h0, _ => absurd h0 (by simp)
  | [_], j, h, _, hj => by
    have : j = 0 := by simp at hj; omega
    subst this; rfl
  | a :: b :: l, j, h, h0, hj => by
    simp only [runLen] at h
    split at h
    · rename_i hba
      cases j with
      | zero => rfl
      | succ j =>
        have := runLen_same (b :: l) j (by omega) (by simp) (by simpa using hj)
        simpa [hba] using this
    · have : j = 0 := by omega
      subst this; rfl
/-- behind it stands another -/
theorem runLen_stop : ∀ (l : List UInt8) (h : runLen l < l.length) (h0 : 0 < l.length), l[runLen l] ≠ l[0]
  | [], _, h0 => absurd h0 (by simp)
  | [_], h, _ => by simp [runLen] at h
  | a :: b :: l, h, h0 => by
    by_cases hba : b = a
    · have e : runLen (a :: b :: l) = runLen (b :: l) + 1 := by simp only [runLen, if_pos hba]
      have hl : runLen (b :: l) < (b :: l).length := by simp only [List.length_cons] at h ⊢; omega
      have := runLen_stop (b :: l) hl (by simp)
      simp only [e, List.getElem_cons_succ, List.getElem_cons_zero]
      simpa [hba] using this
    · have e : runLen (a :: b :: l) = 1 := by simp only [runLen, if_neg hba]
      simp only [e]
      simpa using hba
/-- so a count that has come so far, and cannot go on, is the run's length -/
theorem runLen_eq {l : List UInt8} {n : Nat} (hn : 1 ≤ n) (hl : n ≤ l.length) (hs : ∀ j (hj : j < n), l[j]'(by omega) = l[0]'(by omega)) (he : ∀ h : n < l.length, l[n] ≠ l[0]'(by omega)) : runLen l = n := by
  rcases Nat.lt_trichotomy (runLen l) n with h | h | h
  · exact absurd (hs (runLen l) h) (runLen_stop l (by omega) (by omega))
  · exact h
  · have hle := runLen_le l
    exact absurd (runLen_same l n h (by omega) (by omega)) (he (by omega))

/-- how many bytes stand as they are: up to the next run of three -/
def plainLen : List UInt8 → Nat
  | [] => 0
  | a :: l => if 3 ≤ runLen (a :: l) then 0 else plainLen l + 1

theorem plainLen_le : ∀ l, plainLen l ≤ l.length
  | [] => by simp [plainLen]
  | a :: l => by
    have := plainLen_le l
    simp only [plainLen, List.length_cons]
    split <;> omega
theorem plainLen_drop : ∀ (l : List UInt8) (k : Nat), k ≤ l.length → (∀ j, j < k → runLen (l.drop j) < 3) → plainLen l = k + plainLen (l.drop k)
  | l, 0, _, _ => by simp
  | [], k + 1, h, _ => by simp at h
  | a :: l, k + 1, h, hr => by
    have h0 := hr 0 (by omega)
    simp only [List.drop_zero] at h0
    rw [plainLen, if_neg (by omega), plainLen_drop l k (by simpa using h) (fun j hj => by simpa using hr (j + 1) (by omega)), List.drop_succ_cons]
    omega
theorem plainLen_stop {l : List UInt8} (h : 3 ≤ runLen l) : plainLen l = 0 := by
  cases l with
  | nil => rfl
  | cons a l => rw [plainLen, if_pos h]
theorem plainLen_run : ∀ (l : List UInt8) (j : Nat), j < plainLen l → runLen (l.drop j) < 3
  | [], j, h => by simp [plainLen] at h
  | a :: l, j, h => by
    simp only [plainLen] at h
    split at h
    · omega
    · cases j with
      | zero => simp only [List.drop_zero]; omega
      | succ j => simpa using plainLen_run l j (by omega)
theorem plainLen_end (l : List UInt8) : plainLen l = l.length ∨ 3 ≤ runLen (l.drop (plainLen l)) := by
  induction l with
  | nil => exact .inl rfl
  | cons a l ih =>
    simp only [plainLen]
    split
    · right; simpa
    · rcases ih with h | h
      · left; simp [h]
      · right; simpa using h

/-- P1.1, with as many rounds as there are bytes. -/
def packF : Nat → List UInt8 → List UInt8
  | 0, _ => []
  | _ + 1, [] => []
  | n + 1, a :: l =>
    if 3 ≤ runLen (a :: l) then UInt8.ofNat (125 + runLen (a :: l)) :: a :: packF n ((a :: l).drop (runLen (a :: l)))
    else UInt8.ofNat (plainLen (a :: l) - 1) :: ((a :: l).take (plainLen (a :: l)) ++ packF n ((a :: l).drop (plainLen (a :: l))))
def pack (l : List UInt8) : List UInt8 := packF l.length l

theorem packF_enough : ∀ (n m : Nat) (l : List UInt8), l.length ≤ n → l.length ≤ m → packF n l = packF m l
  | 0, 0, _, _, _ => rfl
  | 0, _ + 1, l, h, _ => by
    have : l = [] := List.eq_nil_of_length_eq_zero (by omega)
    subst this; rfl
  | _ + 1, 0, l, _, h => by
    have : l = [] := List.eq_nil_of_length_eq_zero (by omega)
    subst this; rfl
  | n + 1, m + 1, [], _, _ => rfl
  | n + 1, m + 1, a :: l, h1, h2 => by
    simp only [packF]
    simp only [List.length_cons] at h1 h2
    by_cases hr : 3 ≤ runLen (a :: l)
    · rw [if_pos hr, if_pos hr, packF_enough n m _ (by rw [List.length_drop, List.length_cons]; omega) (by rw [List.length_drop, List.length_cons]; omega)]
    · have hp : 1 ≤ plainLen (a :: l) := by rw [plainLen, if_neg hr]; omega
      rw [if_neg hr, if_neg hr, packF_enough n m _ (by rw [List.length_drop, List.length_cons]; omega) (by rw [List.length_drop, List.length_cons]; omega)]

theorem pack_nil : pack [] = [] := rfl
theorem pack_run {l : List UInt8} (h : 3 ≤ runLen l) (h0 : 0 < l.length) : pack l = UInt8.ofNat (125 + runLen l) :: l[0] :: pack (l.drop (runLen l)) := by
  cases l with
  | nil => simp at h0
  | cons a l =>
    unfold pack
    rw [List.length_cons, packF, if_pos h, packF_enough l.length ((a :: l).drop (runLen (a :: l))).length _ (by rw [List.length_drop, List.length_cons]; omega) (Nat.le_refl _)]
    rfl
theorem pack_plain {l : List UInt8} (h : runLen l < 3) (h0 : 0 < l.length) : pack l = UInt8.ofNat (plainLen l - 1) :: (l.take (plainLen l) ++ pack (l.drop (plainLen l))) := by
  cases l with
  | nil => simp at h0
  | cons a l =>
    have hp : 1 ≤ plainLen (a :: l) := by rw [plainLen, if_neg (by omega)]; omega
    unfold pack
    rw [List.length_cons, packF, if_neg (by omega), packF_enough l.length ((a :: l).drop (plainLen (a :: l))).length _ (by rw [List.length_drop, List.length_cons]; omega) (Nat.le_refl _)]

/-- P1.2: 0: unpacked; 5, 1, 4: the errors. -/
def unpackF (s : List UInt8) : Nat → List UInt8 → List UInt8 → Int × List UInt8
  | 0, _, _ => (5, [])
  | _ + 1, [], acc => if pack acc = s then (0, acc) else (4, [])
  | n + 1, c :: rest, acc =>
    if 128 ≤ c.toNat then
      match rest with
      | [] => (5, [])
      | x :: rest' => if 48 < (acc ++ List.replicate (c.toNat - 125) x).length then (1, []) else unpackF s n rest' (acc ++ List.replicate (c.toNat - 125) x)
    else if rest.length < c.toNat + 1 then (5, [])
    else if 48 < (acc ++ rest.take (c.toNat + 1)).length then (1, []) else unpackF s n (rest.drop (c.toNat + 1)) (acc ++ rest.take (c.toNat + 1))
def unpack (s : List UInt8) : Int × List UInt8 := unpackF s (s.length + 1) s []
theorem unpackF_enough (s : List UInt8) : ∀ (n m : Nat) (l acc : List UInt8), l.length < n → l.length < m → unpackF s n l acc = unpackF s m l acc
  | 0, _, _, _, h, _ => absurd h (by omega)
  | _, 0, _, _, _, h => absurd h (by omega)
  | n + 1, m + 1, [], acc, _, _ => rfl
  | n + 1, m + 1, c :: rest, acc, h1, h2 => by
    simp only [List.length_cons] at h1 h2
    simp only [unpackF]
    by_cases hc : 128 ≤ c.toNat
    · rw [if_pos hc, if_pos hc]
      cases rest with
      | nil => rfl
      | cons x rest =>
        simp only [List.length_cons] at h1 h2
        simp only
        rw [unpackF_enough s n m rest _ (by omega) (by omega)]
    · rw [if_neg hc, if_neg hc, unpackF_enough s n m _ _ (by rw [List.length_drop]; omega) (by rw [List.length_drop]; omega)]
/-- one step on -/
def unpackOn (s l acc : List UInt8) : Int × List UInt8 := unpackF s (l.length + 1) l acc
theorem unpackOn_nil (s acc : List UInt8) : unpackOn s [] acc = if pack acc = s then (0, acc) else (4, []) := rfl
theorem unpackOn_run (s rest acc : List UInt8) (c x : UInt8) (h : 128 ≤ c.toNat) : unpackOn s (c :: x :: rest) acc =
    if 48 < (acc ++ List.replicate (c.toNat - 125) x).length then (1, []) else unpackOn s rest (acc ++ List.replicate (c.toNat - 125) x) := by
  unfold unpackOn
  rw [List.length_cons, List.length_cons]
  simp only [unpackF]
  rw [if_pos h, unpackF_enough s (rest.length + 1 + 1) (rest.length + 1) rest _ (by omega) (by omega)]
theorem unpackOn_runEnd (s acc : List UInt8) (c : UInt8) (h : 128 ≤ c.toNat) : unpackOn s [c] acc = (5, []) := by
  unfold unpackOn
  simp only [unpackF, List.length_cons]
  rw [if_pos h]
theorem unpackOn_plain (s rest acc : List UInt8) (c : UInt8) (h : ¬ 128 ≤ c.toNat) (hl : c.toNat + 1 ≤ rest.length) : unpackOn s (c :: rest) acc =
    if 48 < (acc ++ rest.take (c.toNat + 1)).length then (1, []) else unpackOn s (rest.drop (c.toNat + 1)) (acc ++ rest.take (c.toNat + 1)) := by
  unfold unpackOn
  rw [List.length_cons]
  simp only [unpackF]
  rw [if_neg h, if_neg (by omega), unpackF_enough s (rest.length + 1) ((rest.drop (c.toNat + 1)).length + 1) _ _ (by rw [List.length_drop]; omega) (by omega)]
theorem unpackOn_plainEnd (s rest acc : List UInt8) (c : UInt8) (h : ¬ 128 ≤ c.toNat) (hl : rest.length < c.toNat + 1) : unpackOn s (c :: rest) acc = (5, []) := by
  unfold unpackOn
  rw [List.length_cons]
  simp only [unpackF]
  rw [if_neg h, if_pos hl]
end Go.Proofs.Ytphbebcbbfbgpab
