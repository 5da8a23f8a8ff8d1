/- What is packed unpacks to what it was; what unpacks is packed so; how long it is. No program in sight. -/
import Derived.Test.YtphbebcbbfbgpabUnpacked
namespace Go.Proofs.Ytphbebcbbfbgpab
open Go

theorem unpackOn_pack (S : List UInt8) : ∀ (n : Nat) (l acc : List UInt8), l.length ≤ n → (acc ++ l).length ≤ 48 → unpackOn S (pack l) acc = unpackOn S [] (acc ++ l)
  | 0, l, acc, h, _ => by
    have : l = [] := List.eq_nil_of_length_eq_zero (by omega)
    subst this
    rw [pack_nil, List.append_nil]
  | n + 1, [], acc, _, _ => by rw [pack_nil, List.append_nil]
  | n + 1, a :: l, acc, h, h48 => by
    have h0 : 0 < (a :: l).length := by simp
    have hal : acc.length + (a :: l).length ≤ 48 := by rw [List.length_append] at h48; exact h48
    by_cases hr : 3 ≤ runLen (a :: l)
    · have hle := runLen_le (a :: l)
      obtain ⟨r, hrr⟩ : ∃ r, runLen (a :: l) = r := ⟨_, rfl⟩
      have hc : (UInt8.ofNat (125 + r)).toNat = 125 + r := ofNat_toNat _ (by omega)
      have hrep : List.replicate r ((a :: l)[0]) = (a :: l).take r := by
        apply List.ext_getElem
        · rw [List.length_replicate, List.length_take]; omega
        · intro j h1 h2
          rw [List.getElem_replicate, List.getElem_take]
          exact (runLen_same (a :: l) j (by rw [List.length_replicate] at h1; omega) h0 (by rw [List.length_take] at h2; omega)).symm
      rw [pack_run hr h0, hrr, unpackOn_run S _ acc _ _ (by rw [hc]; omega), hc, show 125 + r - 125 = r from by omega, hrep]
      rw [if_neg (by rw [List.length_append, List.length_take]; omega)]
      rw [unpackOn_pack S n ((a :: l).drop r) (acc ++ (a :: l).take r) (by rw [List.length_drop]; omega) (by rw [List.append_assoc, List.take_append_drop]; exact h48), List.append_assoc, List.take_append_drop]
    · have hp1 : 1 ≤ plainLen (a :: l) := by rw [plainLen, if_neg (by omega)]; omega
      have hle := plainLen_le (a :: l)
      obtain ⟨p, hpp⟩ : ∃ p, plainLen (a :: l) = p := ⟨_, rfl⟩
      rw [hpp] at hp1 hle
      have hc : (UInt8.ofNat (p - 1)).toNat = p - 1 := ofNat_toNat _ (by omega)
      have htl : ((a :: l).take p).length = p := by rw [List.length_take]; omega
      rw [pack_plain (by omega) h0, hpp, unpackOn_plain S _ acc _ (by rw [hc]; omega) (by rw [hc, List.length_append, htl]; omega), hc, show p - 1 + 1 = p from by omega]
      rw [List.take_append_of_le_length (by omega), List.take_of_length_le (by omega), List.drop_append_of_le_length (by omega), List.drop_of_length_le (l := (a :: l).take p) (by omega), List.nil_append]
      rw [if_neg (by rw [List.length_append, htl]; omega)]
      rw [unpackOn_pack S n ((a :: l).drop p) (acc ++ (a :: l).take p) (by rw [List.length_drop]; omega) (by rw [List.append_assoc, List.take_append_drop]; exact h48), List.append_assoc, List.take_append_drop]

theorem unpack_pack (l : List UInt8) (h : l.length ≤ 48) : unpackOn (pack l) (pack l) [] = (0, l) := by
  rw [unpackOn_pack (pack l) l.length l [] (Nat.le_refl _) (by simpa using h), List.nil_append, unpackOn_nil, if_pos rfl]

theorem unpackF_ok (S : List UInt8) : ∀ (n : Nat) (l acc u : List UInt8), acc.length ≤ 48 → unpackF S n l acc = (0, u) → pack u = S ∧ u.length ≤ 48
  | 0, _, _, _, _, h => by simp [unpackF] at h
  | n + 1, [], acc, u, ha, h => by
    simp only [unpackF] at h
    by_cases hp : pack acc = S
    · rw [if_pos hp] at h
      obtain rfl : acc = u := by simpa using h
      exact ⟨hp, ha⟩
    · rw [if_neg hp] at h
      simp at h
  | n + 1, c :: rest, acc, u, ha, h => by
    simp only [unpackF] at h
    by_cases hc : 128 ≤ c.toNat
    · rw [if_pos hc] at h
      cases rest with
      | nil => simp at h
      | cons x rest =>
        simp only at h
        by_cases hb : 48 < (acc ++ List.replicate (c.toNat - 125) x).length
        · rw [if_pos hb] at h; simp at h
        · rw [if_neg hb] at h
          exact unpackF_ok S n rest _ u (by omega) h
    · rw [if_neg hc] at h
      by_cases hs : rest.length < c.toNat + 1
      · rw [if_pos hs] at h; simp at h
      · rw [if_neg hs] at h
        by_cases hb : 48 < (acc ++ rest.take (c.toNat + 1)).length
        · rw [if_pos hb] at h; simp at h
        · rw [if_neg hb] at h
          exact unpackF_ok S n _ _ u (by omega) h

theorem pack_length : ∀ (n : Nat) (l : List UInt8), l.length ≤ n → (pack l).length ≤ l.length + 1 ∧ (3 ≤ runLen l → (pack l).length ≤ l.length)
  | 0, l, h => by
    have : l = [] := List.eq_nil_of_length_eq_zero (by omega)
    subst this
    exact ⟨by simp [pack_nil], fun h => by simp [runLen] at h⟩
  | n + 1, [], _ => ⟨by simp [pack_nil], fun h => by simp [runLen] at h⟩
  | n + 1, a :: l, h => by
    have h0 : 0 < (a :: l).length := by simp
    by_cases hr : 3 ≤ runLen (a :: l)
    · have hle := runLen_le (a :: l)
      have ih := (pack_length n ((a :: l).drop (runLen (a :: l))) (by rw [List.length_drop]; omega)).1
      rw [List.length_drop] at ih
      have : (pack (a :: l)).length ≤ (a :: l).length := by
        rw [pack_run hr h0, List.length_cons, List.length_cons]
        omega
      exact ⟨by omega, fun _ => this⟩
    · have hp1 : 1 ≤ plainLen (a :: l) := by rw [plainLen, if_neg (by omega)]; omega
      have hle := plainLen_le (a :: l)
      refine ⟨?_, fun h => absurd h hr⟩
      rw [pack_plain (by omega) h0, List.length_cons, List.length_append, List.length_take, Nat.min_eq_left hle]
      have ih := pack_length n ((a :: l).drop (plainLen (a :: l))) (by rw [List.length_drop]; omega)
      rcases plainLen_end (a :: l) with he | he
      · rw [he, List.drop_length, pack_nil, List.length_nil]
        omega
      · have := ih.2 he
        rw [List.length_drop] at this
        omega
end Go.Proofs.Ytphbebcbbfbgpab
