/- saltcellarref.PackedOf: the bytes that P1.1 asks for. -/
import Derived.Test.YtphbebcbbfbgpabPressPack
import Derived.Laws.DeepStrings4
namespace Go.Proofs.Ytphbebcbbfbgpab
open Go Go.RowKit

theorem conv_new1 (W : World) (x : Int) : (convert 46 9 (.slice (some ⟨W.heap.size, 0, none⟩) 1 1)).run Try.prog (W.alloc (.cells #[.int .u8 x] 5)) = .ok (.string (strOfNums [x])) (W.alloc (.cells #[.int .u8 x] 5)) := by
  refine run_convert_bytes_arg _ _ _ Try.underlying46 Try.underlying5 W.heap.size 0 1 1 [x] rfl (fun i hi => ?_) _ Try.underlying9
  have : i = 0 := by omega
  subst this
  simp
theorem conv_new2 (W : World) (x y : Int) : (convert 46 9 (.slice (some ⟨W.heap.size, 0, none⟩) 2 2)).run Try.prog (W.alloc (.cells #[.int .u8 x, .int .u8 y] 5)) = .ok (.string (strOfNums [x, y])) (W.alloc (.cells #[.int .u8 x, .int .u8 y] 5)) := by
  refine run_convert_bytes_arg _ _ _ Try.underlying46 Try.underlying5 W.heap.size 0 2 2 [x, y] rfl (fun i hi => ?_) _ Try.underlying9
  have : i = 0 ∨ i = 1 := by omega
  rcases this with rfl | rfl <;> simp

/-- what stands in the loop: what has been put out, what stands as it is, the place -/
structure PackedI (l : List UInt8) (i : Nat) (o p : ByteArray) : Prop where
  inv : o.data.toList ++ pack (l.drop (i - p.size)) = pack l
  pl : p.data.toList = (l.drop (i - p.size)).take p.size
  run : ∀ j, i - p.size ≤ j → j < i → runLen (l.drop j) < 3

theorem append_list (a b : ByteArray) : (a ++ b).data.toList = a.data.toList ++ b.data.toList := by simp [ByteArray.data_append]
theorem append_size (a b : ByteArray) : (a ++ b).size = a.size + b.size := by simp [ByteArray.size_append]
theorem PackedI.flush {l : List UInt8} {i : Nat} {o p : ByteArray} (h : PackedI l i o p) (h0 : 0 < p.size) (hpi : p.size ≤ i) (hi : i ≤ l.length) (hp : p.size ≤ 128) (he : i = l.length ∨ 3 ≤ runLen (l.drop i)) :
    PackedI l i (o ++ strOfNums [(p.size : Int) - 1] ++ p) ⟨#[]⟩ := by
  have hz : (⟨#[]⟩ : ByteArray).size = 0 := rfl
  refine ⟨?_, by rw [hz]; simp, fun j h1 h2 => by rw [hz] at h1; omega⟩
  have := pack_at_plain (i := i - p.size) (k := i) h.inv (by omega) hi h.run he
  rw [show i - (i - p.size) - 1 = p.size - 1 from by omega, show i - (i - p.size) = p.size from by omega] at this
  rw [append_list, append_list, h.pl, strOfNums_data, hz, Nat.sub_zero, ← this]
  simp only [List.map_cons, List.map_nil]
  rw [show ((p.size : Int) - 1).toNat = p.size - 1 from by omega]
theorem PackedI.runs {l : List UInt8} {i r : Nat} {o p : ByteArray} {x : UInt8} (h : PackedI l i o p) (h0 : p.size = 0) (hr : runLen (l.drop i) = r) (h3 : 3 ≤ r) (hx : l[i]? = some x) :
    PackedI l (i + r) (o ++ strOfNums [125 + (r : Int), (x.toNat : Int)]) p := by
  have hi := h.inv
  rw [h0, Nat.sub_zero] at hi
  refine ⟨?_, ?_, fun j h1 h2 => by omega⟩
  · have := pack_at_run hi hr h3 hx
    rw [append_list, strOfNums_data, h0, Nat.sub_zero, ← this]
    simp only [List.map_cons, List.map_nil]
    rw [show (125 + (r : Int)).toNat = 125 + r from by omega, Int.toNat_natCast, UInt8.ofNat_toNat]
  · rw [h0]
    have : p.data.toList.length = 0 := by rw [← size_list]; exact h0
    rw [List.eq_nil_of_length_eq_zero this]; simp
theorem PackedI.plain {l : List UInt8} {s : ByteArray} {i : Nat} {o p : ByteArray} (hl : l = s.data.toList) (h : PackedI l i o p) (hpi : p.size ≤ i) (hi : i < l.length) (hr : runLen (l.drop i) < 3) :
    PackedI l (i + 1) o (p ++ s.extract i (i + 1)) := by
  have hx : (s.extract i (i + 1)).data.toList = (l.drop i).take 1 := by rw [extract_list, hl]; simp
  have hxs : (s.extract i (i + 1)).size = 1 := by rw [size_list, hx, List.length_take, List.length_drop]; omega
  have e : i + 1 - (p.size + 1) = i - p.size := by omega
  refine ⟨by rw [append_size, hxs, e]; exact h.inv, ?_, fun j h1 h2 => ?_⟩
  · rw [append_size, hxs, e, append_list, hx, h.pl, List.take_add, List.drop_drop, show i - p.size + p.size = i from by omega]
  · rw [append_size, hxs, e] at h1
    by_cases hji : j = i
    · rw [hji]; exact hr
    · exact h.run j h1 (by omega)

set_option maxRecDepth 20000 in
set_option maxHeartbeats 4000000 in
theorem packed_any (s : ByteArray) (w : World) (hs : s.size ≤ 48) :
    Calls Try.prog 88 #[.string s] w fun e w' => PackPost s e ∧ Below w.heap.size w w' := by
  have hls := size_list s
  have hrun : ∀ (i : Nat) W, i < s.size → Calls Try.prog 95 #[.string s, .int .i64 i] W fun e w' => RunPost s i e ∧ Below W.heap.size W w' :=
    fun i W hi => sames_any s i W hs hi
  have HR := Lib.hid hrun
  have HLS := Lib.hid hls
  have hcv1 := conv_new1
  have hcv2 := conv_new2
  have hcv3 : ∀ (W : World) (b : Obj) (x y : Int), (convert 46 9 (.slice (some ⟨W.heap.size + 1, 0, none⟩) 2 2)).run Try.prog ((W.alloc b).alloc (.cells #[.int .u8 x, .int .u8 y] 5)) = .ok (.string (strOfNums [x, y])) ((W.alloc b).alloc (.cells #[.int .u8 x, .int .u8 y] 5)) := fun W b x y => by have := conv_new2 (W.alloc b) x y; rwa [World.size_alloc] at this
  have hsn1 : ∀ x, (strOfNums [x]).size = 1 := fun x => by simp [strOfNums_size]
  have hsn2 : ∀ x y, (strOfNums [x, y]).size = 2 := fun x y => by simp [strOfNums_size]
  clear hrun hls
  go_enter Try.func88, Try.ntmps88
  go_wp2
  go_loopw [4, 5, 6] (fun vo vp t wr => ∃ (i : Nat) (o p : ByteArray), i ≤ s.size ∧ p.size ≤ i ∧ o.size + 2 * p.size ≤ 2 * i ∧ vo = .string o ∧ vp = .string p ∧ t = .int .i64 i ∧ Below w.heap.size w wr ∧ Hid (PackedI s.data.toList i o p)) (fun _ _ t _ => s.size + 1 - (intOf t).toNat)
  case atStart => exact ⟨0, ByteArray.empty, ByteArray.empty, by omega, by simp, by simp, rfl, rfl, rfl, Below.refl _ _, Lib.hid ⟨by simp, by simp, fun j h1 h2 => by omega⟩⟩
  case round =>
    obtain ⟨i, o, p, hile, hpi, hos, rfl, rfl, rfl, hbel, hinv⟩ := hrel
    have HB := Lib.hid hbel
    clear hbel
    have hbs : (⟨#[]⟩ : ByteArray).size = 0 := rfl
    by_cases hlt : i < s.size
    · obtain ⟨r, hr⟩ : ∃ r, runLen (s.data.toList.drop i) = r := ⟨_, rfl⟩
      have hr1 : 1 ≤ r := by rw [← hr]; exact runLen_pos _ (by intro e; have := congrArg List.length e; rw [List.length_drop, List.length_nil] at this; have := HLS.out; omega)
      have hr2 : i + r ≤ s.size := by
        have := runLen_le (s.data.toList.drop i)
        rw [hr, List.length_drop] at this
        have := HLS.out
        omega
      have HRR := Lib.hid hr
      have di : ((i : Int) == (s.size : Int)) = false := by simp; omega
      have dp : ((p.size : Int) == 128) = false := by simp; omega
      clear hr
      by_cases h3 : 3 ≤ r
      · have d3 : decide ((3 : Int) ≤ (r : Int)) = true := by simp; omega
        by_cases h0 : 0 < p.size
        · have d0 : decide ((0 : Int) < (p.size : Int)) = true := decide_eq_true (by omega)
          have hnew := (hinv.out.flush h0 hpi (by have := HLS.out; omega) (by omega) (.inr (by rw [HRR.out]; exact h3))).runs rfl HRR.out h3 (get_list s i hlt)
          have HN := Lib.hid hnew
          clear hnew
          go_wp2_with (go_at_call 95; (with_reducible refine (HR.out i _ hlt).mono ?_); rintro e w1 ⟨he, hb1⟩; rw [RunPost, HRR.out] at he; subst he)
          have HB1 : Hid (Below w.heap.size w w1) := Lib.hid (HB.out.trans (hb1.mono HB.out.size))
          go_roundw
          case rel => exact ⟨i + r, _, _, by omega, by rw [hbs]; omega, by simp only [append_size, hsn1, hsn2, hbs]; omega, rfl, rfl, by go_num, (HB1.out.alloc HB1.out.size _).alloc (by simp; exact Nat.le_succ_of_le HB1.out.size) _, HN⟩
          case measure => simp [intOf]; omega
        · have d0 : decide ((0 : Int) < (p.size : Int)) = false := decide_eq_false (by omega)
          have hnew := hinv.out.runs (by omega) HRR.out h3 (get_list s i hlt)
          have HN := Lib.hid hnew
          clear hnew
          go_wp2_with (go_at_call 95; (with_reducible refine (HR.out i _ hlt).mono ?_); rintro e w1 ⟨he, hb1⟩; rw [RunPost, HRR.out] at he; subst he)
          have HB1 : Hid (Below w.heap.size w w1) := Lib.hid (HB.out.trans (hb1.mono HB.out.size))
          go_roundw
          case rel => exact ⟨i + r, _, _, by omega, by omega, by simp only [append_size, hsn2]; omega, rfl, rfl, by go_num, HB1.out.alloc HB1.out.size _, HN⟩
          case measure => simp [intOf]; omega
      · have d3 : decide ((3 : Int) ≤ (r : Int)) = false := by simp; omega
        have hnew := hinv.out.plain rfl hpi (by have := HLS.out; omega) (by rw [HRR.out]; omega)
        have HN := Lib.hid hnew
        have hxs : (s.extract i (i + 1)).size = 1 := by rw [size_list, extract_list, List.length_take, List.length_drop]; have := HLS.out; omega
        have HXS := Lib.hid hxs
        clear hnew hxs
        by_cases h0 : 0 < p.size
        · have d0 : decide ((0 : Int) < (p.size : Int)) = true := decide_eq_true (by omega)
          go_wp2_with (go_at_call 95; (with_reducible refine (HR.out i _ hlt).mono ?_); rintro e w1 ⟨he, hb1⟩; rw [RunPost, HRR.out] at he; subst he)
          have HB1 : Hid (Below w.heap.size w w1) := Lib.hid (HB.out.trans (hb1.mono HB.out.size))
          go_roundw
          case rel => exact ⟨i + 1, _, _, by omega, by rw [append_size, HXS.out]; omega, by rw [append_size, HXS.out]; omega, rfl, rfl, by go_num, HB1.out, HN⟩
          case measure => simp [intOf]; omega
        · have d0 : decide ((0 : Int) < (p.size : Int)) = false := decide_eq_false (by omega)
          go_wp2_with (go_at_call 95; (with_reducible refine (HR.out i _ hlt).mono ?_); rintro e w1 ⟨he, hb1⟩; rw [RunPost, HRR.out] at he; subst he)
          have HB1 : Hid (Below w.heap.size w w1) := Lib.hid (HB.out.trans (hb1.mono HB.out.size))
          go_roundw
          case rel => exact ⟨i + 1, _, _, by omega, by rw [append_size, HXS.out]; omega, by rw [append_size, HXS.out]; omega, rfl, rfl, by go_num, HB1.out, HN⟩
          case measure => simp [intOf]; omega
    · obtain rfl : i = s.size := by omega
      have di : ((s.size : Int) == (s.size : Int)) = true := by simp
      have dp : ((p.size : Int) == 128) = false := by simp; omega
      have dl : decide ((s.size : Int) < (s.size : Int)) = false := decide_eq_false (by omega)
      by_cases h0 : 0 < p.size
      · have d0 : decide ((0 : Int) < (p.size : Int)) = true := decide_eq_true (by omega)
        have hnew := hinv.out.flush h0 hpi (by have := HLS.out; omega) (by omega) (.inl HLS.out)
        have hfin : (o ++ strOfNums [(p.size : Int) - 1] ++ p) = packB s := by
          have := hnew.inv
          rw [hbs, Nat.sub_zero, List.drop_of_length_le (by have := HLS.out; omega), pack_nil, List.append_nil] at this
          exact ByteArray.ext (Array.toList_inj.1 (by rw [this]; simp [packB]))
        have HF := Lib.hid hfin
        clear hnew hfin
        go_wp2
        go_ret2
        exact ⟨by rw [PackPost, ← HF.out]; rfl, HB.out.alloc HB.out.size _⟩
      · have d0 : decide ((0 : Int) < (p.size : Int)) = false := decide_eq_false (by omega)
        have hfin : o = packB s := by
          have := hinv.out.inv
          rw [show p.size = 0 from by omega, Nat.sub_zero, List.drop_of_length_le (by have := HLS.out; omega), pack_nil, List.append_nil] at this
          exact ByteArray.ext (Array.toList_inj.1 (by rw [this]; simp [packB]))
        have HF := Lib.hid hfin
        clear hfin
        go_wp2
        go_ret2
        exact ⟨by rw [PackPost, ← HF.out]; rfl, HB.out⟩

theorem packed_long (s : ByteArray) (w : World) (hs : 48 < s.size) :
    Calls Try.prog 88 #[.string s] w fun e w' => e = .returned (.tuple #[.string ByteArray.empty, .int .i64 1]) ∧ Below w.heap.size w w' := by
  have h : (48 : Int) < (s.size : Int) := by omega
  go_enter Try.func88, Try.ntmps88
  go_wp2
  go_ret2
  exact ⟨rfl, Below.refl _ _⟩
#print axioms packed_any
end Go.Proofs.Ytphbebcbbfbgpab
