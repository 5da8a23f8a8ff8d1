/- press.Pack: the bytes that P1.1 asks for. -/
import Derived.Test.YtphbebcbbfbgpacDoorPressRun
import Derived.Test.YtphbebcbbfbgpacDoorBytes
namespace Go.Proofs.YtphbebcbbfbgpacDoor
open Go Go.RowKit

def packB (s : ByteArray) : ByteArray := ⟨(pack s.data.toList).toArray⟩
def PackPost (s : ByteArray) (e : Ending) : Prop := e = .returned (.tuple #[.string (packB s), .int .i64 0])

theorem infoByte : (Tryd.prog.info? 5).map (fun i => (i.zero, i.size, i.bytes)) = some (some (.int .u8 0), 1, 1) := by kernel_rfl

theorem ofNat_toNat (n : Nat) (h : n < 256) : (UInt8.ofNat n).toNat = n := by
  rw [UInt8.toNat_ofNat']
  exact Nat.mod_eq_of_lt (by omega)

theorem extract_list (s : ByteArray) (i k : Nat) : (s.extract i k).data.toList = (s.data.toList.drop i).take (k - i) := by
  rw [ByteArray.data_extract, Array.toList_extract, List.extract_eq_take_drop]
theorem pack_at_run {l out : List UInt8} {i r : Nat} {x : UInt8} (hinv : out ++ pack (l.drop i) = pack l) (hr : runLen (l.drop i) = r) (h3 : 3 ≤ r) (hx : l[i]? = some x) :
    (out ++ [UInt8.ofNat (125 + r), x]) ++ pack (l.drop (i + r)) = pack l := by
  have hi : i < l.length := (List.getElem?_eq_some_iff.1 hx).1
  have h0 : 0 < (l.drop i).length := by rw [List.length_drop]; omega
  have hx' : (l.drop i)[0] = x := by
    have := (List.getElem?_eq_some_iff.1 hx).2
    simpa using this
  rw [← hinv, pack_run (by omega) h0, hr, hx', List.drop_drop]
  simp
theorem pack_at_plain {l out : List UInt8} {i k : Nat} (hinv : out ++ pack (l.drop i) = pack l) (hik : i < k) (hk : k ≤ l.length) (hp : ∀ j, i ≤ j → j < k → runLen (l.drop j) < 3) (he : k = l.length ∨ 3 ≤ runLen (l.drop k)) :
    (out ++ [UInt8.ofNat (k - i - 1)] ++ (l.drop i).take (k - i)) ++ pack (l.drop k) = pack l := by
  have h0 : 0 < (l.drop i).length := by rw [List.length_drop]; omega
  have hpl : plainLen (l.drop i) = k - i := by
    rw [plainLen_drop (l.drop i) (k - i) (by rw [List.length_drop]; omega) (fun j hj => by rw [List.drop_drop]; exact hp (i + j) (by omega) (by omega)), List.drop_drop, show i + (k - i) = k from by omega]
    rcases he with he | he
    · rw [he, List.drop_length]; rfl
    · rw [plainLen_stop he]; rfl
  rw [← hinv, pack_plain (hp i (by omega) hik) h0, hpl, List.drop_drop, show i + (k - i) = k from by omega]
  simp
theorem bcells_pair (n : Nat) (h : n < 256) (x : UInt8) : [Value.int .u8 (n : Int), .int .u8 x.toNat] = bcells [UInt8.ofNat n, x] := by
  simp only [bcells, bcell, List.map_cons, List.map_nil, ofNat_toNat n h]

set_option maxRecDepth 20000 in
set_option maxHeartbeats 4000000 in
theorem pack_any (s : ByteArray) (w : World) (hs : s.size ≤ 48) :
    Calls Tryd.prog 110 #[.string s] w fun e w' => PackPost s e ∧ Below w.heap.size w w' := by
  have hls := size_list s
  have hrun : ∀ (i : Nat) W, i < s.size → Calls Tryd.prog 125 #[.string s, .int .i64 i] W fun e w' => RunPost s i e ∧ Below W.heap.size W w' :=
    fun i W hi => run_any s i W hs hi
  have HR := Lib.hid hrun
  have HLS := Lib.hid hls
  obtain ⟨i0, hi, hz0, hz1, hz2⟩ := info_parts infoByte
  have HI := Lib.hid hi
  have HZ0 := Lib.hid hz0
  have HZ1 := Lib.hid hz1
  have HZ2 := Lib.hid hz2
  clear hrun hls hi hz0 hz1 hz2
  go_enter Tryd.func110, Tryd.ntmps110
  go_wp2
  go_loopw [4, 5] (fun v t wr => ∃ (i : Nat) (out : List UInt8), i ≤ s.size ∧ t = .int .i64 i ∧ out.length ≤ 2 * i ∧ wr.ownsRow w.heap.size 5 1 v out.length (bcells out) ∧ Below w.heap.size w wr ∧ Hid (out ++ pack (s.data.toList.drop i) = pack s.data.toList)) (fun _ t _ => s.size - (intOf t).toNat)
  case atStart => exact ⟨0, [], by omega, rfl, by simp, World.ownsRow_nil _ _ _ _, Below.refl _ _, Lib.hid (by simp)⟩
  case round =>
    obtain ⟨i, out, hile, rfl, hol, hown, hbel, hinv⟩ := hrel
    have HO := Lib.hid hown
    have HB := Lib.hid hbel
    clear hown hbel
    by_cases hlt : i < s.size
    · obtain ⟨r, hr⟩ : ∃ r, runLen (s.data.toList.drop i) = r := ⟨_, rfl⟩
      have hr1 : 1 ≤ r := by rw [← hr]; exact runLen_pos _ (by intro e; have := congrArg List.length e; rw [List.length_drop, List.length_nil] at this; have := HLS.out; omega)
      have hr2 : i + r ≤ s.size := by
        have := runLen_le (s.data.toList.drop i)
        rw [hr, List.length_drop] at this
        have := HLS.out
        omega
      have HRR := Lib.hid hr
      clear hr
      go_wp2_with fail
      refine (HR.out i _ hlt).mono ?_
      rintro e w1 ⟨he, hb1⟩
      rw [RunPost, HRR.out] at he
      subst he
      have HO1 := Lib.hid (own_below HO.out hb1)
      have HB1 : Hid (Below w.heap.size w w1) := Lib.hid (HB.out.trans (hb1.mono HB.out.size))
      clear hb1
      by_cases h3 : 3 ≤ r
      · obtain ⟨x, hx⟩ : ∃ x, s[i]'hlt = x := ⟨_, rfl⟩
        have HX := Lib.hid hx
        clear hx
        go_wp2_with (at_builtin; refine wpList_append_own _ rfl (.tmp 20) (.tmp 28) 105 rfl w.heap.size 5 i0 _ 1 1 Tryd.underlying105 HI.out HZ0.out HZ1.out HZ2.out rfl (by decide) _ _ _ rfl (HO1.out.alloc _) ⟨w1.heap.size, 0, none⟩ 2 2 [.int .u8 (128 + (r : Int) - 3), .int .u8 (s[i]'hlt).toNat] rfl rfl (World.news_of_block (cs := #[.int .u8 (128 + (r : Int) - 3), .int .u8 (s[i]'hlt).toNat]) (t := 5) (fr := (0, 0)) (heap_alloc_new w1 _)) (by simp [Value.oneCell']) (by unfold maxLen; omega) (by omega) (by simp; exact Nat.le_succ_of_le HB1.out.size) ?_; intro v' w2 hown2 hgr2 _)
        have hcs : [Value.int .u8 (128 + (r : Int) - 3), .int .u8 (s[i]'hlt).toNat] = bcells [UInt8.ofNat (125 + r), x] := by
          rw [← bcells_pair (125 + r) (by omega) x, HX.out, show (128 + (r : Int) - 3) = ((125 + r : Nat) : Int) from by omega]
        rw [hcs, ← bcells_append] at hown2
        have hb2 : Below w.heap.size w w2 := (HB1.out.alloc HB1.out.size _).grown hgr2 (by simp; exact Nat.le_succ_of_le HB1.out.size) (fun k hk => (HO1.out.lt k hk).1)
        have hin2 := pack_at_run (x := x) hinv.out HRR.out h3 (by rw [get_list s i hlt, HX.out])
        have HIN := Lib.hid hin2
        clear hcs hgr2 hin2
        go_wp2
        go_roundw
        case rel => exact ⟨i + r, out ++ [UInt8.ofNat (125 + r), x], by omega, by go_num, by rw [List.length_append]; simp; omega, by rw [List.length_append]; exact hown2, hb2, HIN⟩
        case measure => simp [intOf]; omega
      · obtain ⟨wo, rfl⟩ : ∃ wo : World, wo = w1 := ⟨_, rfl⟩
        go_wp2
        go_loopw [7] (fun t wr => ∃ k : Nat, i ≤ k ∧ k ≤ s.size ∧ t = .int .i64 k ∧ Below wo.heap.size wo wr ∧ Hid (∀ j, i ≤ j → j < k → runLen (s.data.toList.drop j) < 3)) (fun t _ => s.size - (intOf t).toNat)
        case atStart => exact ⟨i, by omega, by omega, rfl, Below.refl _ _, Lib.hid (fun j h1 h2 => by omega)⟩
        case round =>
          obtain ⟨k, hik, hks, rfl, hbel, hpl⟩ := hrel
          have HW : Hid (Below w.heap.size w wr) := Lib.hid (HB1.out.trans (hbel.mono HB1.out.size))
          have HOW := Lib.hid (own_below HO1.out hbel)
          have HBW := Lib.hid hbel
          clear hbel
          by_cases hk : k < s.size
          · obtain ⟨q, hq⟩ : ∃ q, runLen (s.data.toList.drop k) = q := ⟨_, rfl⟩
            have HQ := Lib.hid hq
            have dk : decide ((k : Int) < (s.size : Int)) = true := by simp; omega
            have dk2 : decide ((k : Int) - (i : Int) < 128) = true := by simp; omega
            clear hq
            by_cases h3k : q < 3
            · have dq : decide ((q : Int) < 3) = true := by simp; omega
              have hstep : ∀ j, i ≤ j → j < k + 1 → runLen (s.data.toList.drop j) < 3 := by
                intro j h1 h2
                by_cases hjk : j = k
                · rw [hjk, HQ.out]; exact h3k
                · exact hpl.out j h1 (by omega)
              have HS := Lib.hid hstep
              clear hstep
              go_wp2_with (go_at_call 125; (with_reducible refine (HR.out k _ hk).mono ?_); rintro e w2 ⟨he, hb2⟩; rw [RunPost, HQ.out] at he; subst he)
              have HB2 := Lib.hid (HBW.out.trans (hb2.mono HBW.out.size))
              go_roundw
              case rel => exact ⟨k + 1, by omega, by omega, by go_num, HB2.out, HS⟩
              case measure => simp [intOf]; omega
            · have dq : decide ((q : Int) < 3) = false := by simp; omega
              have hki : i < k := by
                rcases Nat.lt_or_ge i k with h | h
                · exact h
                · exact absurd HRR.out (by rw [show i = k from by omega, HQ.out]; omega)
              go_wp2_with (go_at_call 125; (with_reducible refine (HR.out k _ hk).mono ?_); rintro e w2 ⟨he, hb2⟩; rw [RunPost, HQ.out] at he; subst he)
              have HOX := Lib.hid (own_below HOW.out hb2)
              have HBX : Hid (Below w.heap.size w w2) := Lib.hid (HW.out.trans (hb2.mono HW.out.size))
              have hex := pack_at_plain hinv.out hki (by have := HLS.out; omega) hpl.out (.inr (by rw [HQ.out]; omega))
              have HIN := Lib.hid hex
              clear hb2 hex
              have s1 : IntKind.i64.wrap ((k : Int) - (i : Int)) = (k : Int) - (i : Int) := IntWalk.i64_in _ (by omega)
              have s2 : IntKind.i64.wrap ((k : Int) - (i : Int) - 1) = (k : Int) - (i : Int) - 1 := IntWalk.i64_in _ (by omega)
              have s3 : IntKind.u8.wrap ((k : Int) - (i : Int) - 1) = (k : Int) - (i : Int) - 1 := IntWalk.u8_in _ (by omega)
              have b1 : (0 : Int) ≤ (i : Int) := by omega
              have b2 : (i : Int) ≤ (k : Int) := by omega
              have b3 : (k : Int) ≤ (s.size : Int) := by omega
              have hex : (s.extract i k).data.toList = (s.data.toList.drop i).take (k - i) := extract_list s i k
              have hexs : (s.extract i k).size = k - i := by rw [size_list, hex, List.length_take, List.length_drop]; have := HLS.out; omega
              have HEX := Lib.hid hex
              have HES := Lib.hid hexs
              clear hex hexs
              go_region_law (first
                | (refine step_append_own rfl (.tmp 52) (.tmp 58) 105 rfl w.heap.size 5 i0 _ 1 1 Tryd.underlying105 HI.out HZ0.out HZ1.out HZ2.out rfl (by decide) _ _ _ (by simp [Act.eval]) (HOX.out.alloc _) ⟨w2.heap.size, 0, none⟩ 1 1 [.int .u8 ((k : Int) - (i : Int) - 1)] (by simp [Act.eval]) rfl (by exact cell_one_new _ _ _) (by simp [Value.oneCell']) (by unfold maxLen; omega) (by omega) (by simp; exact Nat.le_succ_of_le HBX.out.size) ?_; intro v3 w3 hown3 hgr3)
                | (refine step_append_str rfl (.tmp 59) (.tmp 63) 105 9 rfl w.heap.size 5 i0 Tryd.underlying105 Tryd.underlying9 HI.out HZ0.out HZ1.out HZ2.out v3 _ _ (by simp [Act.eval]) hown3 (s.extract i k) (by simp [Act.eval]) (by unfold maxLen; rw [HES.out]; omega) (by rw [HES.out]; omega) (by have := hgr3.size; simp at this; have := HBX.out.size; omega) ?_; intro v4 w4 hown4 hgr4))
              clear s1 s2 s3
              have hcs : [Value.int .u8 ((k : Int) - (i : Int) - 1)] = bcells [UInt8.ofNat (k - i - 1)] := by
                simp only [bcells, bcell, List.map_cons, List.map_nil, ofNat_toNat (k - i - 1) (by omega)]
                rw [show (k : Int) - (i : Int) - 1 = ((k - i - 1 : Nat) : Int) from by omega]
              have hb3 : Below w.heap.size w w3 := (HBX.out.alloc HBX.out.size _).drew.grown hgr3 (by simp; exact Nat.le_succ_of_le HBX.out.size) (fun j hj => (HOX.out.lt j hj).1)
              have hb4 : Below w.heap.size w w4 := hb3.grown hgr4 hb3.size (fun j hj => (hown3.lt j hj).1)
              have hlen : out.length + 1 + (s.extract i k).size = (out ++ [UInt8.ofNat (k - i - 1)] ++ (s.data.toList.drop i).take (k - i)).length := by
                rw [HES.out, List.length_append, List.length_append, ← HEX.out, ← size_list, HES.out]; simp
              rw [hcs, HEX.out, ← bcells_append, ← bcells_append, hlen] at hown4
              have hol2 : (out ++ [UInt8.ofNat (k - i - 1)] ++ (s.data.toList.drop i).take (k - i)).length ≤ 2 * k := by rw [← hlen, HES.out]; omega
              clear hcs hlen hgr3 hgr4 hown3 hb3
              go_wp2
              go_roundw
              case rel => exact ⟨k, _, by omega, by go_num, hol2, hown4, hb4, HIN⟩
              case measure => simp [intOf]; omega
          · have dk : decide ((k : Int) < (s.size : Int)) = false := by simp; omega
            go_wp2
            have HOX := HOW
            have HBX := HW
            have hex := pack_at_plain hinv.out (k := k) (by omega) (by have := HLS.out; omega) hpl.out (.inl (by have := HLS.out; omega))
            have HIN := Lib.hid hex
            clear hex
            have s1 : IntKind.i64.wrap ((k : Int) - (i : Int)) = (k : Int) - (i : Int) := IntWalk.i64_in _ (by omega)
            have s2 : IntKind.i64.wrap ((k : Int) - (i : Int) - 1) = (k : Int) - (i : Int) - 1 := IntWalk.i64_in _ (by omega)
            have s3 : IntKind.u8.wrap ((k : Int) - (i : Int) - 1) = (k : Int) - (i : Int) - 1 := IntWalk.u8_in _ (by omega)
            have b1 : (0 : Int) ≤ (i : Int) := by omega
            have b2 : (i : Int) ≤ (k : Int) := by omega
            have b3 : (k : Int) ≤ (s.size : Int) := by omega
            have hex : (s.extract i k).data.toList = (s.data.toList.drop i).take (k - i) := extract_list s i k
            have hexs : (s.extract i k).size = k - i := by rw [size_list, hex, List.length_take, List.length_drop]; have := HLS.out; omega
            have HEX := Lib.hid hex
            have HES := Lib.hid hexs
            clear hex hexs
            go_region_law (first
              | (refine step_append_own rfl (.tmp 52) (.tmp 58) 105 rfl w.heap.size 5 i0 _ 1 1 Tryd.underlying105 HI.out HZ0.out HZ1.out HZ2.out rfl (by decide) _ _ _ (by simp [Act.eval]) (HOX.out.alloc _) ⟨wr.heap.size, 0, none⟩ 1 1 [.int .u8 ((k : Int) - (i : Int) - 1)] (by simp [Act.eval]) rfl (by exact cell_one_new _ _ _) (by simp [Value.oneCell']) (by unfold maxLen; omega) (by omega) (by simp; exact Nat.le_succ_of_le HBX.out.size) ?_; intro v3 w3 hown3 hgr3)
              | (refine step_append_str rfl (.tmp 59) (.tmp 63) 105 9 rfl w.heap.size 5 i0 Tryd.underlying105 Tryd.underlying9 HI.out HZ0.out HZ1.out HZ2.out v3 _ _ (by simp [Act.eval]) hown3 (s.extract i k) (by simp [Act.eval]) (by unfold maxLen; rw [HES.out]; omega) (by rw [HES.out]; omega) (by have := hgr3.size; simp at this; have := HBX.out.size; omega) ?_; intro v4 w4 hown4 hgr4))
            clear s1 s2 s3
            have hcs : [Value.int .u8 ((k : Int) - (i : Int) - 1)] = bcells [UInt8.ofNat (k - i - 1)] := by
              simp only [bcells, bcell, List.map_cons, List.map_nil, ofNat_toNat (k - i - 1) (by omega)]
              rw [show (k : Int) - (i : Int) - 1 = ((k - i - 1 : Nat) : Int) from by omega]
            have hb3 : Below w.heap.size w w3 := (HBX.out.alloc HBX.out.size _).drew.grown hgr3 (by simp; exact Nat.le_succ_of_le HBX.out.size) (fun j hj => (HOX.out.lt j hj).1)
            have hb4 : Below w.heap.size w w4 := hb3.grown hgr4 hb3.size (fun j hj => (hown3.lt j hj).1)
            have hlen : out.length + 1 + (s.extract i k).size = (out ++ [UInt8.ofNat (k - i - 1)] ++ (s.data.toList.drop i).take (k - i)).length := by
              rw [HES.out, List.length_append, List.length_append, ← HEX.out, ← size_list, HES.out]; simp
            rw [hcs, HEX.out, ← bcells_append, ← bcells_append, hlen] at hown4
            have hol2 : (out ++ [UInt8.ofNat (k - i - 1)] ++ (s.data.toList.drop i).take (k - i)).length ≤ 2 * k := by rw [← hlen, HES.out]; omega
            clear hcs hlen hgr3 hgr4 hown3 hb3
            go_wp2
            go_roundw
            case rel => exact ⟨k, _, by omega, by go_num, hol2, hown4, hb4, HIN⟩
            case measure => simp [intOf]; omega
    · have hfin : pack s.data.toList = out := by
        rw [← hinv.out, List.drop_of_length_le (by have := HLS.out; omega), pack_nil, List.append_nil]
      have HF := Lib.hid hfin
      have hconv := run_string_own (src := 105) (dst := 9) Tryd.underlying105 Tryd.underlying5 Tryd.underlying9 HO.out
      clear hfin
      go_wp2
      go_ret2
      exact ⟨by rw [PackPost, packB, HF.out]; rfl, HB.out⟩

theorem pack_long (s : ByteArray) (w : World) (hs : 48 < s.size) :
    Calls Tryd.prog 110 #[.string s] w fun e w' => e = .returned (.tuple #[.string ByteArray.empty, .int .i64 1]) ∧ Below w.heap.size w w' := by
  have h : (48 : Int) < (s.size : Int) := by omega
  go_enter Tryd.func110, Tryd.ntmps110
  go_wp2
  go_ret2
  exact ⟨rfl, Below.refl _ _⟩
#print axioms pack_any
end Go.Proofs.YtphbebcbbfbgpacDoor
