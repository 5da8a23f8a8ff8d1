/- saltcellarref.UnpackedOf: P1.2. -/
import Derived.Test.YtphbebcbbfbgpabPacked
namespace Go.Proofs.Ytphbebcbbfbgpab
open Go Go.RowKit

def unpackN (s : ByteArray) : Int := (unpackOn s.data.toList s.data.toList []).1
def unpackB (s : ByteArray) : ByteArray := ⟨(unpackOn s.data.toList s.data.toList []).2.toArray⟩
def UnpackPost (s : ByteArray) (e : Ending) : Prop := e = .returned (.tuple #[.string (unpackB s), .int .i64 (unpackN s)])
theorem unpackPost_of {s : ByteArray} {k : Int} {t : List UInt8} {e : Ending} (h : unpackOn s.data.toList s.data.toList [] = (k, t)) (he : e = .returned (.tuple #[.string ⟨t.toArray⟩, .int .i64 k])) : UnpackPost s e := by
  rw [UnpackPost, unpackB, unpackN, h, he]

section
variable {s l acc : List UInt8} {i : Nat} {c x : UInt8}
theorem drop_of_get (h : l[i]? = some c) : l.drop i = c :: l.drop (i + 1) := by
  obtain ⟨hi, rfl⟩ := List.getElem?_eq_some_iff.1 h
  exact List.drop_eq_getElem_cons hi
theorem unpack_runEnd (hc : l[i]? = some c) (h : 128 ≤ c.toNat) (he : l.length ≤ i + 1) : unpackOn s (l.drop i) acc = (5, []) := by
  rw [drop_of_get hc, List.drop_of_length_le he, unpackOn_runEnd s acc c h]
theorem unpack_run (hc : l[i]? = some c) (h : 128 ≤ c.toNat) (hx : l[i + 1]? = some x) : unpackOn s (l.drop i) acc =
    if 48 < (acc ++ List.replicate (c.toNat - 125) x).length then (1, []) else unpackOn s (l.drop (i + 2)) (acc ++ List.replicate (c.toNat - 125) x) := by
  rw [drop_of_get hc, drop_of_get hx, unpackOn_run s _ acc c x h]
theorem unpack_plainEnd (hc : l[i]? = some c) (h : ¬ 128 ≤ c.toNat) (he : l.length < i + 2 + c.toNat) : unpackOn s (l.drop i) acc = (5, []) := by
  rw [drop_of_get hc, unpackOn_plainEnd s _ acc c h (by rw [List.length_drop]; omega)]
theorem unpack_plain (hc : l[i]? = some c) (h : ¬ 128 ≤ c.toNat) (he : i + 2 + c.toNat ≤ l.length) : unpackOn s (l.drop i) acc =
    if 48 < (acc ++ (l.drop (i + 1)).take (c.toNat + 1)).length then (1, []) else unpackOn s (l.drop (i + 2 + c.toNat)) (acc ++ (l.drop (i + 1)).take (c.toNat + 1)) := by
  rw [drop_of_get hc, unpackOn_plain s _ acc c h (by rw [List.length_drop]; omega), List.drop_drop, show i + 1 + (c.toNat + 1) = i + 2 + c.toNat from by omega]
end

set_option maxRecDepth 20000 in
set_option maxHeartbeats 4000000 in
theorem unpacked_any (s : ByteArray) (w : World) (hs : s.size ≤ maxLen) :
    Calls Try.prog 71 #[.string s] w fun e w' => UnpackPost s e ∧ Below w.heap.size w w' := by
  have hls := size_list s
  have hs0 : s.size ≤ 9223372036854775807 := hs
  have hpk : ∀ (t : ByteArray) W, t.size ≤ 48 → Calls Try.prog 88 #[.string t] W fun e w' => PackPost t e ∧ Below W.heap.size W w' :=
    fun t W ht => packed_any t W ht
  have HP := Lib.hid hpk
  have HLS := Lib.hid hls
  clear hpk hls hs
  go_enter Try.func71, Try.ntmps71
  go_wp2
  go_loopw [4, 5] (fun v t wr => ∃ (i : Nat) (o : ByteArray), i ≤ s.size ∧ o.size ≤ 48 ∧ i ≤ 2 * o.size ∧ t = .int .i64 i ∧ v = .string o ∧ Below w.heap.size w wr ∧ Hid (unpackOn s.data.toList (s.data.toList.drop i) o.data.toList = unpackOn s.data.toList s.data.toList [])) (fun _ t _ => s.size - (intOf t).toNat)
  case atStart => exact ⟨0, ⟨#[]⟩, by omega, Nat.zero_le _, by omega, rfl, rfl, Below.refl _ _, Lib.hid (by rfl)⟩
  case round =>
    obtain ⟨i, o, hile, ho48, hio, rfl, rfl, hbel, hinv⟩ := hrel
    have HB := Lib.hid hbel
    clear hbel
    by_cases hlt : i < s.size
    · obtain ⟨c, hc⟩ : ∃ c, s[i]'hlt = c := ⟨_, rfl⟩
      have hget := get_list s i hlt
      rw [hc] at hget
      have HGET := Lib.hid hget
      have hc256 : c.toNat < 256 := c.toNat_lt
      have hcn : ((s[i]'hlt).toNat : Int) = (c.toNat : Int) := by rw [hc]
      obtain ⟨n, hn⟩ : ∃ n, c.toNat = n := ⟨_, rfl⟩
      have HN0 := Lib.hid hn
      rw [hn] at hcn hc256
      clear hget hc
      by_cases hbig : 128 ≤ n
      · have d1 : decide ((n : Int) < 128) = false := by simp; omega
        by_cases hend : s.size ≤ i + 1
        · have d2 : decide ((i : Int) + 1 + 1 > (s.size : Int)) = true := by simp; omega
          have hfin := unpack_runEnd (s := s.data.toList) (acc := o.data.toList) HGET.out (by rw [hn]; exact hbig) (by have := HLS.out; omega)
          rw [hinv.out] at hfin
          have HF := Lib.hid hfin
          clear hfin hn
          go_wp2
          go_ret2
          exact ⟨unpackPost_of HF.out rfl, HB.out⟩
        · have h1 : i + 1 < s.size := by omega
          have d2 : decide ((i : Int) + 1 + 1 > (s.size : Int)) = false := by simp; omega
          obtain ⟨x, hx⟩ : ∃ x, s[i + 1]'h1 = x := ⟨_, rfl⟩
          have hget1 := get_list s (i + 1) h1
          rw [hx] at hget1
          have hstep := unpack_run (s := s.data.toList) (acc := o.data.toList) HGET.out (by rw [hn]; exact hbig) hget1
          obtain ⟨d, rfl⟩ : ∃ d, n = d + 125 := ⟨n - 125, by omega⟩
          rw [hinv.out, hn, show d + 125 - 125 = d from by omega] at hstep
          have HS := Lib.hid hstep
          have hx1 : (s.extract (i + 1) (i + 2)).data.toList = [x] := by
            rw [extract_list, drop_of_get hget1, show i + 2 - (i + 1) = 1 from by omega]; rfl
          have HX := Lib.hid hx1
          have HX1 := Lib.hid (show (s.extract (i + 1) (i + 2)).size = 1 by rw [size_list, hx1]; rfl)
          clear hget1 hx hstep hx1 hn
          go_wp2
          go_loopw [4, 8] (fun v t wr => ∃ (k : Nat) (p : ByteArray), k ≤ d ∧ p.size = o.size + k ∧ t = .int .i64 k ∧ v = .string p ∧ Below w.heap.size w wr ∧ Hid (p.data.toList = o.data.toList ++ List.replicate k x)) (fun _ t _ => d - (intOf t).toNat)
          case atStart => exact ⟨0, o, by omega, by omega, rfl, rfl, HB.out, Lib.hid (by simp)⟩
          case round =>
            obtain ⟨k, p, hk, hps, rfl, rfl, hbel, hp⟩ := hrel
            have HB1 := Lib.hid hbel
            clear hbel
            by_cases hkc : k < d
            · have dk : decide ((k : Int) < ((d + 125 : Nat) : Int) - 125) = true := by simp; omega
              have hnew : (p ++ s.extract (i + 1) (i + 2)).data.toList = o.data.toList ++ List.replicate (k + 1) x := by
                rw [append_list, hp.out, HX.out, List.replicate_succ', List.append_assoc]
              have HN := Lib.hid hnew
              have hns : (p ++ s.extract (i + 1) (i + 2)).size = o.size + (k + 1) := by rw [append_size, HX1.out]; omega
              have HNS := Lib.hid hns
              clear hnew hns
              go_wp2
              go_roundw
              case rel => exact ⟨k + 1, _, by omega, HNS.out, by go_num, rfl, HB1.out, HN⟩
              case measure => simp [intOf]; omega
            · have dk : decide ((k : Int) < ((d + 125 : Nat) : Int) - 125) = false := by simp; omega
              obtain rfl : k = d := by omega
              have hlp := size_list p
              rw [hp.out] at hlp
              by_cases hbg : 48 < p.size
              · have db : decide ((p.size : Int) > 48) = true := by simp; omega
                have hfin := HS.out
                rw [if_pos (by rw [← hlp]; exact hbg)] at hfin
                have HF := Lib.hid hfin
                clear hfin hlp
                go_wp2
                go_ret2
                exact ⟨unpackPost_of HF.out rfl, HB1.out⟩
              · have db : decide ((p.size : Int) > 48) = false := by simp; omega
                have hfin := HS.out
                rw [if_neg (by rw [← hlp]; exact hbg), ← hp.out] at hfin
                have HF := Lib.hid hfin.symm
                clear hfin hlp
                go_wp2
                go_roundw
                case rel => exact ⟨i + 2, p, by omega, by omega, by omega, by go_num, rfl, HB1.out, HF⟩
                case measure => simp [intOf]; omega
      · have d1 : decide ((n : Int) < 128) = true := by simp; omega
        by_cases hend : s.size < i + 2 + n
        · have d2 : decide ((i : Int) + 1 + ((n : Int) + 1) > (s.size : Int)) = true := by simp; omega
          have hfin := unpack_plainEnd (s := s.data.toList) (acc := o.data.toList) HGET.out (by rw [hn]; exact hbig) (by have := HLS.out; rw [hn]; omega)
          rw [hinv.out] at hfin
          have HF := Lib.hid hfin
          clear hfin hn
          go_wp2
          go_ret2
          exact ⟨unpackPost_of HF.out rfl, HB.out⟩
        · have d2 : decide ((i : Int) + 1 + ((n : Int) + 1) > (s.size : Int)) = false := by simp; omega
          have hstep := unpack_plain (s := s.data.toList) (acc := o.data.toList) HGET.out (by rw [hn]; exact hbig) (by have := HLS.out; rw [hn]; omega)
          rw [hinv.out, hn] at hstep
          have hx1 : (s.extract (i + 1) (i + 1 + (n + 1))).data.toList = (s.data.toList.drop (i + 1)).take (n + 1) := by
            rw [extract_list, show i + 1 + (n + 1) - (i + 1) = n + 1 from by omega]
          have hxs : (s.extract (i + 1) (i + 1 + (n + 1))).size = n + 1 := by rw [size_list, hx1, List.length_take, List.length_drop]; have := HLS.out; omega
          have hnew : (o ++ s.extract (i + 1) (i + 1 + (n + 1))).data.toList = o.data.toList ++ (s.data.toList.drop (i + 1)).take (n + 1) := by rw [append_list, hx1]
          have hns : (o ++ s.extract (i + 1) (i + 1 + (n + 1))).size = o.size + n + 1 := by rw [append_size, hxs]; omega
          rw [← hnew, ← size_list, hns] at hstep
          have HNS := Lib.hid hns
          by_cases hbg : 48 < o.size + n + 1
          · have db : decide ((o.size : Int) + (n : Int) + 1 > 48) = true := by simp; omega
            rw [if_pos hbg] at hstep
            have HF := Lib.hid hstep
            clear hstep hx1 hxs hnew hns hn
            go_wp2
            go_ret2
            exact ⟨unpackPost_of HF.out rfl, HB.out⟩
          · have db : decide ((o.size : Int) + (n : Int) + 1 > 48) = false := by simp; omega
            rw [if_neg hbg] at hstep
            have HF := Lib.hid hstep.symm
            clear hstep hx1 hxs hnew hns hn
            go_wp2
            go_roundw
            case rel => exact ⟨i + 2 + n, _, by omega, by rw [HNS.out]; omega, by rw [HNS.out]; omega, by go_num, rfl, HB.out, HF⟩
            case measure => simp [intOf]; omega
    · obtain rfl : i = s.size := by omega
      have hfin := hinv.out
      rw [List.drop_of_length_le (by have := HLS.out; omega), unpackOn_nil] at hfin
      by_cases hpp : pack o.data.toList = s.data.toList
      · rw [if_pos hpp] at hfin
        have HF := Lib.hid hfin.symm
        have he : packB o = s := ByteArray.ext (Array.toList_inj.1 (by rw [← hpp]; simp [packB]))
        have HE := Lib.hid he
        clear hfin hpp he
        go_wp2_with (refine (HP.out o _ ho48).mono ?_; rintro e w1 ⟨he, hb1⟩; rw [PackPost, HE.out] at he; subst he)
        go_ret2
        exact ⟨unpackPost_of HF.out rfl, HB.out.trans (hb1.mono HB.out.size)⟩
      · rw [if_neg hpp] at hfin
        have HF := Lib.hid hfin.symm
        have he : packB o ≠ s := fun h => hpp (by rw [← h]; simp [packB])
        have hno := toList_beq_no he
        clear hfin hpp he
        go_wp2_with (refine (HP.out o _ ho48).mono ?_; rintro e w1 ⟨he, hb1⟩; rw [PackPost] at he; subst he)
        go_ret2
        exact ⟨unpackPost_of HF.out rfl, HB.out.trans (hb1.mono HB.out.size)⟩
end Go.Proofs.Ytphbebcbbfbgpab
