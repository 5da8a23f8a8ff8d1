/- How many records a log of raw numbers' data can hold, whatever byte of it is changed, in plain Lean. -/
import Derived.Test.YtphbebcbbfbgpabDoorPlainSpoilt
import Derived.Test.YtphbebcbbfbgpabDoorOpenRaw
namespace Go.Proofs.YtphbebcbbfbgpabDoor
open Go
set_option linter.unusedSimpArgs false
set_option linter.unusedVariables false

theorem count_le_of_firstL {s : Bs} {b : Int} {ws : List Wrt} {n : Nat} (h : firstL s b = some (ws, n)) : 1 + (s.drop n).count 114 ≤ s.count 114 := by
  have hp := firstL_pos h
  have h0 : ∃ r, s = 114 :: r := by
    unfold firstL at h
    split at h
    · split at h
      · rename_i hc; exact ⟨_, by rw [hc.1]⟩
      · simp at h
    · simp at h
  obtain ⟨r, rfl⟩ := h0
  conv => rhs; rw [← List.take_append_drop n (114 :: r), List.count_append]
  have : 0 < (((114 : UInt8) :: r).take n).count 114 := by
    obtain ⟨m, rfl⟩ : ∃ m, n = m + 1 := ⟨n - 1, by omega⟩
    rw [List.take_succ_cons, List.count_cons_self]; omega
  omega
/-- each record begins with its mark -/
theorem scanF_count (b : Int) : ∀ (f : Nat) (s : Bs), (scanF f s b).1.length ≤ s.count 114
  | 0, _ => Nat.zero_le _
  | f + 1, s => by
    rw [scanF]
    cases h : firstL s b with
    | none => exact Nat.zero_le _
    | some x =>
      obtain ⟨ws, n⟩ := x
      have h1 := count_le_of_firstL h
      have h2 := scanF_count b f (s.drop n)
      simp only [List.length_cons]; omega
theorem scanL_count (s : Bs) (b : Int) : (scanL s b).1.length ≤ s.count 114 := scanF_count b s.length s
theorem scanL_few (s : Bs) (b : Int) : (scanL s b).1.length ≤ s.length := Nat.le_trans (scanL_count s b) List.count_le_length

theorem mem_drop' {α : Type} {l : List α} {n : Nat} {x : α} (h : x ∈ l.drop n) : x ∈ l := List.mem_of_mem_drop h
/-- the bytes of packed data: data's own, small ones, great ones -/
theorem pack_bytes : ∀ (n : Nat) (l : Bs), l.length ≤ n → l.length ≤ 48 → ∀ b ∈ pack l, b ∈ l ∨ b.toNat < 48 ∨ 128 ≤ b.toNat
  | 0, l, h, _, b, hb => by
    have : l = [] := List.eq_nil_of_length_eq_zero (by omega)
    subst this
    rw [pack_nil] at hb
    simp at hb
  | n + 1, l, h, h48, b, hb => by
    by_cases h0 : 0 < l.length
    · by_cases hr : 3 ≤ runLen l
      · have hle := runLen_le l
        rw [pack_run hr h0] at hb
        rcases List.mem_cons.1 hb with rfl | hb
        · right; right
          rw [ofNat_toNat _ (by omega)]; omega
        · rcases List.mem_cons.1 hb with rfl | hb
          · exact .inl (List.getElem_mem h0)
          · rcases pack_bytes n _ (by rw [List.length_drop]; omega) (by rw [List.length_drop]; omega) b hb with h1 | h1
            · exact .inl (List.mem_of_mem_drop h1)
            · exact .inr h1
      · have hle := plainLen_le l
        rw [pack_plain (by omega) h0] at hb
        have hpos : 0 < plainLen l := by
          have := plainLen_drop l 1 h0 (fun j hj => by
            obtain rfl : j = 0 := by omega
            rw [List.drop_zero]; omega)
          omega
        rcases List.mem_cons.1 hb with rfl | hb
        · right; left
          rw [ofNat_toNat _ (by omega)]; omega
        · rcases List.mem_append.1 hb with hb | hb
          · exact .inl (List.mem_of_mem_take hb)
          · rcases pack_bytes n _ (by rw [List.length_drop]; omega) (by rw [List.length_drop]; omega) b hb with h1 | h1
            · exact .inl (List.mem_of_mem_drop h1)
            · exact .inr h1
    · have : l = [] := List.eq_nil_of_length_eq_zero (by omega)
      subst this
      rw [pack_nil] at hb
      simp at hb
/-- data with no mark in it, that packs short -/
structure Markless (d : ByteArray) : Prop where
  size : d.size ≤ 48
  none : ∀ b ∈ d.data.toList, b ≠ 114
  short : (pack d.data.toList).length ≤ 15
theorem markless_of {d : ByteArray} (h : d.size ≤ 14) (hn : ∀ b ∈ d.data.toList, b ≠ 114) : Markless d := by
  refine ⟨by omega, hn, ?_⟩
  have := (pack_length _ d.data.toList (Nat.le_refl _)).1
  rw [← size_list] at this
  omega
theorem dec_bytes (i : Nat) (h : i < 100) : ∀ b ∈ Lib.decDigits i, 48 ≤ b.toNat ∧ b.toNat ≤ 57 := by
  intro b hb
  rw [Lib.decDigits] at hb
  split at hb
  · rw [List.mem_singleton.1 hb]
    rw [ofNat_toNat _ (by omega)]; omega
  · rw [Lib.decDigits, dif_pos (by omega)] at hb
    rcases List.mem_append.1 hb with hb | hb
    · rw [List.mem_singleton.1 hb, ofNat_toNat _ (by omega)]; omega
    · rw [List.mem_singleton.1 hb, ofNat_toNat _ (by omega)]; omega
theorem dec_len2 (i : Nat) (h : i < 100) : (Lib.decDigits i).length ≤ 2 := by
  rw [Lib.decDigits]
  split
  · simp
  · rw [Lib.decDigits, dif_pos (by omega)]; simp
theorem run_all (x : UInt8) : ∀ n, runLen (List.replicate (n + 1) x) = n + 1 := fun n => by
  refine runLen_eq (by omega) (by simp) (fun j hj => by simp) (fun h => by simp at h)
theorem dataR_markless (r : Raw) : Markless (dataR r) := by
  have h2 := pickN_lt r.b (m := 9) (by omega)
  have h1 := pickN_lt r.b (m := 40) (by omega)
  have h3 := pickN_lt r.b (m := 4) (by omega)
  have hd : ∀ i, i < 100 → ∀ b ∈ (decB i).data.toList, b ≠ 114 := fun i hi b hb => by
    have := dec_bytes i hi b (by simpa [decB] using hb)
    intro e; subst e; simp at this
  have hdl : ∀ i, i < 100 → (decB i).size ≤ 2 := fun i hi => by
    have := dec_len2 i hi
    simpa [decB, ByteArray.size] using this
  unfold dataR
  split
  · exact markless_of (by decide) (by simp)
  · split
    · refine ⟨by rw [show (repB 122 (pickN r.b 40)).size = pickN r.b 40 by simp [repB, ByteArray.size, Lib.repeatL_length]]; omega, fun b hb => ?_, ?_⟩
      · have : b = 122 := by
          unfold repB at hb
          simp only [List.toList_toArray] at hb
          have : ∀ n, b ∈ Lib.repeatL [122] n → b = 122 := fun n => by
            induction n with
            | zero => intro h; simp [Lib.repeatL] at h
            | succ n ih => intro h; simp [Lib.repeatL] at h; first | exact h | (rcases h with h | h; exact h; exact ih h)
          exact this _ hb
        subst this; decide
      · have e : (repB 122 (pickN r.b 40)).data.toList = List.replicate (pickN r.b 40) 122 := by
          unfold repB
          simp only [List.toList_toArray]
          have : ∀ n, Lib.repeatL [(122 : UInt8)] n = List.replicate n 122 := fun n => by
            induction n with
            | zero => simp [Lib.repeatL]
            | succ n ih => simp [Lib.repeatL, List.replicate_succ] at *; try exact ih
          exact this _
        rw [e]
        cases hn : pickN r.b 40 with
        | zero => simp [pack_nil]
        | succ n =>
          by_cases h3 : 3 ≤ n + 1
          · rw [pack_run (by rw [run_all]; exact h3) (by simp), run_all, List.drop_of_length_le (by simp), pack_nil]; simp
          · have := (pack_length _ (List.replicate (n + 1) (122 : UInt8)) (Nat.le_refl _)).1
            simp only [List.length_replicate] at this
            omega
    · split
      · refine markless_of ?_ ?_
        · rw [ByteArray.size_append, ByteArray.size_append, show (repB 45 (pickN r.b 9)).size = pickN r.b 9 by simp [repB, ByteArray.size, Lib.repeatL_length]]
          have e1 : (⟨#[97, 97, 98]⟩ : ByteArray).size = 3 := rfl
          have e2 : (⟨#[101, 110, 100]⟩ : ByteArray).size = 3 := rfl
          rw [e1, e2]; omega
        · intro b hb
          rw [ByteArray.data_append, ByteArray.data_append, Array.toList_append, Array.toList_append] at hb
          rcases List.mem_append.1 hb with hb | hb
          · rcases List.mem_append.1 hb with hb | hb
            · intro e; subst e; simp at hb
            · have : b = 45 := by
                unfold repB at hb
                simp only [List.toList_toArray] at hb
                have : ∀ n, b ∈ Lib.repeatL [45] n → b = 45 := fun n => by
                  induction n with
                  | zero => intro h; simp [Lib.repeatL] at h
                  | succ n ih => intro h; simp [Lib.repeatL] at h; first | exact h | (rcases h with h | h; exact h; exact ih h)
                exact this _ hb
              subst this; decide
          · intro e; subst e; simp at hb
      · split
        · refine markless_of ?_ ?_
          · rw [ByteArray.size_append]
            have e1 : (⟨#[98, 108, 111, 99, 107, 32]⟩ : ByteArray).size = 6 := rfl
            have := hdl (pickN r.b 40) (by omega)
            omega
          · intro b hb
            rw [ByteArray.data_append, Array.toList_append] at hb
            rcases List.mem_append.1 hb with hb | hb
            · intro e; subst e; simp at hb
            · exact hd _ (by omega) b hb
        · refine markless_of ?_ ?_
          · rw [ByteArray.size_append]
            have e1 : (⟨#[115, 97, 109, 101, 32]⟩ : ByteArray).size = 5 := rfl
            have := hdl (pickN r.b 4) (by omega)
            omega
          · intro b hb
            rw [ByteArray.data_append, Array.toList_append] at hb
            rcases List.mem_append.1 hb with hb | hb
            · intro e; subst e; simp at hb
            · exact hd _ (by omega) b hb
/-- a short transaction's record has few marks, and is short -/
structure ShortW (ws : List Wrt) : Prop where
  few : ws.length ≤ 4
  small : ∀ x ∈ ws, 0 ≤ x.block ∧ x.block < 100
  data : ∀ x ∈ ws, Markless x.data
theorem wbytes_short {x : Wrt} (hb : 0 ≤ x.block ∧ x.block < 100) (hd : Markless x.data) : (wbytes x).length ≤ 17 ∧ (wbytes x).count 114 = 0 := by
  refine ⟨by have := hd.short; simp only [wbytes, List.length_cons]; omega, ?_⟩
  rw [List.count_eq_zero]
  intro hm
  unfold wbytes at hm
  have hs := hd.short
  rcases List.mem_cons.1 hm with h | hm
  · have := congrArg UInt8.toNat h
    rw [ofNat_toNat _ (by omega)] at this
    have h114 : (114 : UInt8).toNat = 114 := rfl
    omega
  · rcases List.mem_cons.1 hm with h | hm
    · have := congrArg UInt8.toNat h
      rw [ofNat_toNat _ (by omega)] at this
      have h114 : (114 : UInt8).toNat = 114 := rfl
      omega
    · have h48 := hd.size
      rw [size_list] at h48
      rcases pack_bytes _ _ (Nat.le_refl _) h48 _ hm with h | h | h
      · exact hd.none _ h rfl
      · have h114 : (114 : UInt8).toNat = 114 := rfl
        omega
      · have h114 : (114 : UInt8).toNat = 114 := rfl
        omega
theorem flat_short : ∀ {ws : List Wrt}, (∀ x ∈ ws, 0 ≤ x.block ∧ x.block < 100) → (∀ x ∈ ws, Markless x.data) → (ws.flatMap wbytes).length ≤ ws.length * 17 ∧ (ws.flatMap wbytes).count 114 = 0
  | [], _, _ => by simp
  | x :: r, hb, hd => by
    have h1 := flat_short (ws := r) (fun y hy => hb y (by simp [hy])) (fun y hy => hd y (by simp [hy]))
    have h2 := wbytes_short (hb x (by simp)) (hd x (by simp))
    rw [List.flatMap_cons, List.length_append, List.length_cons, List.count_append]
    omega
theorem recL_short {ws : List Wrt} (h : ShortW ws) : (recL ws).length ≤ 76 ∧ (recL ws).count 114 ≤ 5 := by
  obtain ⟨h1, h2⟩ := flat_short h.small h.data
  have hf := h.few
  have hl : (bodyL ws).length ≤ 69 := by simp only [bodyL, List.length_cons]; omega
  have hc : (bodyL ws).count 114 = 0 := by
    rw [bodyL, List.count_cons, h2, if_neg]
    intro e
    have e := congrArg UInt8.toNat (beq_iff_eq.1 e)
    rw [ofNat_toNat _ (by omega)] at e
    have h114 : (114 : UInt8).toNat = 114 := rfl
    omega
  refine ⟨by rw [recL_len]; omega, ?_⟩
  have hn : ∀ n : Nat, n < 114 → ((UInt8.ofNat n == (114 : UInt8)) = true) → False := fun n hn e => by
    have e := congrArg UInt8.toNat (beq_iff_eq.1 e)
    rw [ofNat_toNat _ (by omega)] at e
    have h114 : (114 : UInt8).toNat = 114 := rfl
    omega
  have hs : (sealL (headL (bodyL ws))).count 114 ≤ 4 := Nat.le_trans List.count_le_length (by rw [sealL_len]; exact Nat.le_refl _)
  rw [recL, List.count_append, headL, List.count_cons_self, List.count_cons, List.count_cons, hc, if_neg (fun e => hn _ (by omega) e), if_neg (fun e => hn _ (by omega) e)]
  rw [headL] at hs
  omega
theorem recs_short : ∀ {ds : List (List Wrt)}, (∀ d ∈ ds, ShortW d) → (recs ds).length ≤ ds.length * 76 ∧ (recs ds).count 114 ≤ ds.length * 5
  | [], _ => by simp [recs_nil]
  | d :: ds, h => by
    have h1 := recs_short (ds := ds) (fun x hx => h x (by simp [hx]))
    have h2 := recL_short (h d (by simp))
    rw [recs_cons, List.length_append, List.count_append, List.length_cons]
    omega
theorem count_set_le (l : Bs) (k : Nat) (x : UInt8) : (l.set k x).count 114 ≤ l.count 114 + 1 := by
  by_cases hk : k < l.length
  · obtain ⟨e1, e2⟩ := set_form hk x
    rw [e2]
    conv => rhs; rw [e1]
    rw [List.count_append, List.count_append, List.count_cons, List.count_cons]
    split <;> split <;> omega
  · rw [List.set_eq_of_length_le (by omega)]; omega
end Go.Proofs.YtphbebcbbfbgpabDoor
