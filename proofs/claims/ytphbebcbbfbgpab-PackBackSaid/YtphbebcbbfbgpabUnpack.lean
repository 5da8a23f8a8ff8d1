/- press.Unpack: P1.2. -/
import Derived.Test.YtphbebcbbfbgpabUnpacked
namespace Go.Proofs.Ytphbebcbbfbgpab
open Go Go.RowKit

theorem own_slice {w : World} {base : Nat} {e : TypeId} {size : Nat} {v : Value} {n : Nat} {xs : List Value} (h : w.ownsRow base e size v n xs) : ∃ A cap, v = .slice A n cap := by
  rcases h.2 with ⟨rfl, rfl⟩ | ⟨g, cap, cur, rfl, _⟩
  · exact ⟨_, _, rfl⟩
  · exact ⟨_, _, rfl⟩

set_option maxRecDepth 20000 in
set_option maxHeartbeats 4000000 in
theorem unpack_any (s : ByteArray) (w : World) (hs : s.size ≤ maxLen) :
    Calls Try.prog 24 #[.string s] w fun e w' => UnpackPost s e ∧ Below w.heap.size w w' := by
  have hls := size_list s
  have hs0 : s.size ≤ 9223372036854775807 := hs
  have hpk : ∀ (t : ByteArray) W, t.size ≤ 48 → Calls Try.prog 22 #[.string t] W fun e w' => PackPost t e ∧ Below W.heap.size W w' :=
    fun t W ht => pack_any t W ht
  have HP := Lib.hid hpk
  have HLS := Lib.hid hls
  obtain ⟨i0, hi, hz0, hz1, hz2⟩ := info_parts infoByte
  have HI := Lib.hid hi
  have HZ0 := Lib.hid hz0
  have HZ1 := Lib.hid hz1
  have HZ2 := Lib.hid hz2
  clear hpk hls hs hi hz0 hz1 hz2
  go_enter Try.func24, Try.ntmps24
  go_wp2
  go_loopw [4, 5] (fun v t wr => ∃ (i : Nat) (out : List UInt8), i ≤ s.size ∧ out.length ≤ 48 ∧ i ≤ 2 * out.length ∧ t = .int .i64 i ∧ wr.ownsRow w.heap.size 5 1 v out.length (bcells out) ∧ Below w.heap.size w wr ∧ Hid (unpackOn s.data.toList (s.data.toList.drop i) out = unpackOn s.data.toList s.data.toList [])) (fun _ t _ => s.size - (intOf t).toNat)
  case atStart => exact ⟨0, [], by omega, Nat.zero_le _, by omega, rfl, World.ownsRow_nil _ _ _ _, Below.refl _ _, Lib.hid (by rfl)⟩
  case round =>
    obtain ⟨i, out, hile, ho48, hio, rfl, hown, hbel, hinv⟩ := hrel
    have HO := Lib.hid hown
    have HB := Lib.hid hbel
    clear hown hbel
    by_cases hlt : i < s.size
    · obtain ⟨c, hc⟩ : ∃ c, s[i]'hlt = c := ⟨_, rfl⟩
      have hget := get_list s i hlt
      rw [hc] at hget
      have HGET := Lib.hid hget
      have hc256 : c.toNat < 256 := c.toNat_lt
      have hcn : ((s[i]'hlt).toNat : Int) = (c.toNat : Int) := by rw [hc]
      obtain ⟨n, hn⟩ : ∃ n, c.toNat = n := ⟨_, rfl⟩
      have HN0 := Lib.hid hn
      rw [hn] at hcn hc256
      clear hget hc
      by_cases hbig : 128 ≤ n
      · have d1 : decide ((n : Int) ≥ 128) = true := by simp; omega
        have d1' : decide ((n : Int) < 128) = false := by simp; omega
        by_cases hend : s.size ≤ i + 1
        · have d2 : decide ((i : Int) + 1 ≥ (s.size : Int)) = true := by simp; omega
          have hfin := unpack_runEnd (s := s.data.toList) (acc := out) HGET.out (by rw [hn]; exact hbig) (by have := HLS.out; omega)
          rw [hinv.out] at hfin
          have HF := Lib.hid hfin
          clear hfin hn
          go_wp2
          go_ret2
          exact ⟨unpackPost_of HF.out rfl, HB.out⟩
        · have h1 : i + 1 < s.size := by omega
          have d2 : decide ((i : Int) + 1 ≥ (s.size : Int)) = false := by simp; omega
          obtain ⟨x, hx⟩ : ∃ x, s[i + 1]'h1 = x := ⟨_, rfl⟩
          have hget1 := get_list s (i + 1) h1
          rw [hx] at hget1
          have hstep := unpack_run (s := s.data.toList) (acc := out) HGET.out (by rw [hn]; exact hbig) hget1
          obtain ⟨d, hd⟩ : ∃ d, n = d + 125 := ⟨n - 125, by omega⟩
          rw [hinv.out, hn, show n - 125 = d from by omega] at hstep
          have HS := Lib.hid hstep
          have HX := Lib.hid hx
          have HD := Lib.hid hd
          have hd130 : d ≤ 130 := by omega
          have hd3 : 3 ≤ d := by omega
          clear hget1 hx hstep hn hd
          go_wp2
          go_loopw [4, 58] (fun v t wr => ∃ (k : Nat), k ≤ d ∧ t = .int .i64 k ∧ wr.ownsRow w.heap.size 5 1 v (out ++ List.replicate k x).length (bcells (out ++ List.replicate k x)) ∧ Below w.heap.size w wr) (fun _ t _ => d - (intOf t).toNat)
          case atStart => exact ⟨0, by omega, rfl, by rw [List.replicate_zero, List.append_nil]; exact HO.out, HB.out⟩
          case round =>
            obtain ⟨k, hk, rfl, hown, hbel⟩ := hrel
            have HB1 := Lib.hid hbel
            have HO1 := Lib.hid hown
            clear hbel hown
            have hlen : (out ++ List.replicate k x).length = out.length + k := by rw [List.length_append, List.length_replicate]
            have HLEN := Lib.hid hlen
            by_cases hkc : k < d
            · have dk : decide ((k : Int) < (n : Int) - 128 + 3) = true := by have := HD.out; simp; omega
              clear hlen
              go_wp2_with (at_builtin; refine wpList_append_own _ rfl (.tmp 60) (.tmp 65) 46 rfl w.heap.size 5 i0 _ 1 1 Try.underlying46 HI.out HZ0.out HZ1.out HZ2.out rfl (by decide) _ _ _ rfl (HO1.out.alloc _) ⟨wr.heap.size, 0, none⟩ 1 1 [.int .u8 (s[i + 1]'h1).toNat] rfl rfl (by exact cell_one_new _ _ _) (by simp [Value.oneCell']) (by have := HLEN.out; unfold maxLen; omega) (by have := HLEN.out; omega) (by simp; exact Nat.le_succ_of_le HB1.out.size) ?_; intro v' w2 hown2 hgr2 _)
              have hcs : [Value.int .u8 (s[i + 1]'h1).toNat] = bcells [x] := by rw [HX.out]; rfl
              rw [hcs, ← bcells_append, List.append_assoc, ← List.replicate_succ', show (out ++ List.replicate k x).length + 1 = (out ++ List.replicate (k + 1) x).length from by simp only [List.length_append, List.length_replicate]; omega] at hown2
              have hb2 : Below w.heap.size w w2 := (HB1.out.alloc HB1.out.size _).grown hgr2 (by simp; exact Nat.le_succ_of_le HB1.out.size) (fun k hk => (HO1.out.lt k hk).1)
              clear hcs hgr2
              go_wp2
              go_roundw
              case rel => exact ⟨k + 1, by omega, by go_num, hown2, hb2⟩
              case measure => simp [intOf]; omega
            · have dk : decide ((k : Int) < (n : Int) - 128 + 3) = false := by have := HD.out; simp; omega
              obtain rfl : k = d := by omega
              obtain ⟨m, hm⟩ : ∃ m, (out ++ List.replicate k x).length = m := ⟨_, rfl⟩
              have hown := HO1.out
              rw [hm] at hown
              obtain ⟨A, cap, rfl⟩ := own_slice hown
              by_cases hbg : 48 < m
              · have db : decide ((m : Int) > 48) = true := by simp; omega
                have hfin := HS.out
                rw [if_pos (by rw [hm]; exact hbg)] at hfin
                have HF := Lib.hid hfin
                clear hfin hm hown hlen
                go_wp2
                go_ret2
                exact ⟨unpackPost_of HF.out rfl, HB1.out⟩
              · have db : decide ((m : Int) > 48) = false := by simp; omega
                have hfin := HS.out
                rw [if_neg (by rw [hm]; exact hbg)] at hfin
                have HF := Lib.hid hfin.symm
                have HO2 := Lib.hid hown
                have HM := Lib.hid hm
                clear hfin hown hm hlen
                go_wp2
                go_roundw
                case rel => exact ⟨i + 2, _, by omega, by rw [HM.out]; omega, by have := HLEN.out; have := HM.out; have := HD.out; omega, by go_num, by rw [HM.out]; exact HO2.out, HB1.out, HF⟩
                case measure => simp [intOf]; omega
      · have d1 : decide ((n : Int) ≥ 128) = false := by simp; omega
        have d1' : decide ((n : Int) < 128) = true := by simp; omega
        by_cases hend : s.size < i + 2 + n
        · have d2 : decide ((i : Int) + 1 + (n : Int) ≥ (s.size : Int)) = true := by simp; omega
          have hfin := unpack_plainEnd (s := s.data.toList) (acc := out) HGET.out (by rw [hn]; exact hbig) (by have := HLS.out; rw [hn]; omega)
          rw [hinv.out] at hfin
          have HF := Lib.hid hfin
          clear hfin hn
          go_wp2
          go_ret2
          exact ⟨unpackPost_of HF.out rfl, HB.out⟩
        · have d2 : decide ((i : Int) + 1 + (n : Int) ≥ (s.size : Int)) = false := by simp; omega
          have hstep := unpack_plain (s := s.data.toList) (acc := out) HGET.out (by rw [hn]; exact hbig) (by have := HLS.out; rw [hn]; omega)
          rw [hinv.out, hn] at hstep
          have hx1 : (s.extract (i + 1) (i + 2 + n)).data.toList = (s.data.toList.drop (i + 1)).take (n + 1) := by
            rw [extract_list, show i + 2 + n - (i + 1) = n + 1 from by omega]
          have hxs : (s.extract (i + 1) (i + 2 + n)).size = n + 1 := by rw [size_list, hx1, List.length_take, List.length_drop]; have := HLS.out; omega
          obtain ⟨l2, hl2⟩ : ∃ l2, out ++ (s.data.toList.drop (i + 1)).take (n + 1) = l2 := ⟨_, rfl⟩
          have hlen2 : l2.length = out.length + (n + 1) := by rw [← hl2, ← hx1, List.length_append, ← size_list, hxs]
          rw [hl2] at hstep
          have HX1 := Lib.hid hx1
          have HXS := Lib.hid hxs
          have HL2 := Lib.hid hl2
          have HLEN := Lib.hid hlen2
          have HS := Lib.hid hstep
          clear hstep hx1 hxs hl2 hlen2 hn
          obtain ⟨m, hm⟩ : ∃ m, l2.length = m := ⟨_, rfl⟩
          have hlm := HLEN.out
          have hstep := HS.out
          rw [hm] at hlm hstep
          have HM := Lib.hid hm
          have HLM := Lib.hid hlm
          have hm200 : m ≤ 200 := by omega
          clear hm hlm
          by_cases hbg : 48 < m
          · have db : decide ((m : Int) > 48) = true := by simp; omega
            rw [if_pos hbg] at hstep
            have HF := Lib.hid hstep
            clear hstep
            go_wp2_with (at_builtin; refine Lib.wpList_append_own_string _ rfl (.tmp 17) (.tmp 25) 46 9 rfl w.heap.size 5 i0 Try.underlying46 Try.underlying9 HI.out HZ0.out HZ1.out HZ2.out _ _ _ rfl HO.out (s.extract (i + 1) (i + 2 + n)) rfl (by unfold maxLen; rw [HXS.out]; omega) (by rw [HXS.out]; omega) HB.out.size ?_; intro v' w2 hown2 hgr2 _; have HB2 : Hid (Below w.heap.size w w2) := Lib.hid (HB.out.grown hgr2 HB.out.size (fun k hk => (HO.out.lt k hk).1)); rw [bcells_str, HX1.out, ← bcells_append, HL2.out, show out.length + (s.extract (i + 1) (i + 2 + n)).size = m from by rw [HXS.out]; exact HLM.out.symm] at hown2; obtain ⟨A, cap, rfl⟩ := own_slice hown2; have HO2 := Lib.hid hown2; clear hgr2 hown2)
            go_ret2
            exact ⟨unpackPost_of HF.out rfl, HB2.out⟩
          · have db : decide ((m : Int) > 48) = false := by simp; omega
            rw [if_neg hbg] at hstep
            have HF := Lib.hid hstep.symm
            clear hstep
            go_wp2_with (at_builtin; refine Lib.wpList_append_own_string _ rfl (.tmp 17) (.tmp 25) 46 9 rfl w.heap.size 5 i0 Try.underlying46 Try.underlying9 HI.out HZ0.out HZ1.out HZ2.out _ _ _ rfl HO.out (s.extract (i + 1) (i + 2 + n)) rfl (by unfold maxLen; rw [HXS.out]; omega) (by rw [HXS.out]; omega) HB.out.size ?_; intro v' w2 hown2 hgr2 _; have HB2 : Hid (Below w.heap.size w w2) := Lib.hid (HB.out.grown hgr2 HB.out.size (fun k hk => (HO.out.lt k hk).1)); rw [bcells_str, HX1.out, ← bcells_append, HL2.out, show out.length + (s.extract (i + 1) (i + 2 + n)).size = m from by rw [HXS.out]; exact HLM.out.symm] at hown2; obtain ⟨A, cap, rfl⟩ := own_slice hown2; have HO2 := Lib.hid hown2; clear hgr2 hown2)
            go_roundw
            case rel => exact ⟨i + 2 + n, l2, by omega, by rw [HM.out]; omega, by have := HM.out; have := HLM.out; omega, by go_num, by rw [HM.out]; exact HO2.out, HB2.out, HF⟩
            case measure => simp [intOf]; omega
    · obtain rfl : i = s.size := by omega
      have hfin := hinv.out
      have hconv := run_string_own (src := 46) (dst := 9) Try.underlying46 Try.underlying5 Try.underlying9 HO.out
      obtain ⟨o, hob⟩ : ∃ o : ByteArray, o = ⟨out.toArray⟩ := ⟨_, rfl⟩
      obtain rfl : out = o.data.toList := by rw [hob]
      have hoe : (⟨o.data.toList.toArray⟩ : ByteArray) = o := rfl
      rw [hoe] at hconv
      rw [List.drop_of_length_le (by have := HLS.out; omega), unpackOn_nil] at hfin
      have ho48' : o.size ≤ 48 := by rw [size_list]; exact ho48
      clear hob hoe
      by_cases hpp : pack o.data.toList = s.data.toList
      · rw [if_pos hpp] at hfin
        have HF := Lib.hid hfin.symm
        have he : packB o = s := ByteArray.ext (Array.toList_inj.1 (by rw [← hpp]; simp [packB]))
        have HE := Lib.hid he
        clear hfin hpp he
        go_wp2_with (refine (HP.out o _ ho48').mono ?_; rintro e w1 ⟨he, hb1⟩; rw [PackPost, HE.out] at he; subst he; have hconv1 := run_string_own (src := 46) (dst := 9) Try.underlying46 Try.underlying5 Try.underlying9 (own_below HO.out hb1); rw [show (⟨o.data.toList.toArray⟩ : ByteArray) = o from rfl] at hconv1)
        go_ret2
        exact ⟨unpackPost_of HF.out rfl, HB.out.trans (hb1.mono HB.out.size)⟩
      · rw [if_neg hpp] at hfin
        have HF := Lib.hid hfin.symm
        have he : packB o ≠ s := fun h => hpp (by rw [← h]; simp [packB])
        have hno := toList_beq_no he
        clear hfin hpp he
        go_wp2_with (refine (HP.out o _ ho48').mono ?_; rintro e w1 ⟨he, hb1⟩; rw [PackPost] at he; subst he)
        go_ret2
        exact ⟨unpackPost_of HF.out rfl, HB.out.trans (hb1.mono HB.out.size)⟩
end Go.Proofs.Ytphbebcbbfbgpab
