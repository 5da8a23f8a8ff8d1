/- log.sum, log.four: the seal of bytes. log.Record. log.writes: the writes of a record's body. log.first: what it asks of the bytes. -/
import Derived.Test.YtphbebcbbfbgpacDoorUnpack
import Derived.Laws.Bits64b
import Derived.Test.YtphbebcbbfbgpacDoorPressRun
namespace Go.Proofs.YtphbebcbbfbgpacDoor
open Go Go.RowKit

def bstr (l : Bs) : ByteArray := ⟨l.toArray⟩
theorem bstr_list (l : Bs) : (bstr l).data.toList = l := by simp [bstr]
theorem bstr_size (l : Bs) : (bstr l).size = l.length := by rw [size_list, bstr_list]
theorem bstr_of (s : ByteArray) : bstr s.data.toList = s := by
  apply ByteArray.ext; apply Array.toList_inj.1; rw [bstr_list]
theorem str_ext {s t : ByteArray} (h : s.data.toList = t.data.toList) : s = t := by
  apply ByteArray.ext; exact Array.toList_inj.1 h
theorem bstr_append (a b : Bs) : bstr a ++ bstr b = bstr (a ++ b) := str_ext (by rw [append_list, bstr_list, bstr_list, bstr_list])
theorem bits_or_i64 (y x : Nat) (hy : y < 65536) (hx : x < 65536) : bits .or .i64 ((y : Int) * 65536) (x : Int) = (y : Int) * 65536 + x := by
  have h1 : (BitVec.ofInt 64 ((y : Int) * 65536)).toNat = y * 65536 := by
    rw [show (y : Int) * 65536 = ((y * 65536 : Nat) : Int) from by omega, BitVec.ofInt_natCast, BitVec.toNat_ofNat]; exact Nat.mod_eq_of_lt (by omega)
  have h2 : (BitVec.ofInt 64 (x : Int)).toNat = x := by
    rw [BitVec.ofInt_natCast, BitVec.toNat_ofNat]; exact Nat.mod_eq_of_lt (by omega)
  have h3 : y * 65536 ||| x = y * 65536 + x := by
    have := Nat.shiftLeft_add_eq_or_of_lt (i := 16) (b := x) (by omega) y
    rw [Nat.shiftLeft_eq] at this
    exact this.symm
  show IntKind.i64.wrap ((BitVec.ofInt 64 ((y : Int) * 65536) ||| BitVec.ofInt 64 (x : Int)).toNat : Int) = _
  rw [BitVec.toNat_or, h1, h2, h3, IntKind.wrap_i64]
  omega

def sumN (l : Bs) : Nat := (adl l).2 * 65536 + (adl l).1
theorem adl_take {s : ByteArray} {i : Nat} (h : i < s.size) : adl (s.data.toList.take (i + 1)) = (((adl (s.data.toList.take i)).1 + (s[i]'h).toNat) % 65521, ((adl (s.data.toList.take i)).2 + ((adl (s.data.toList.take i)).1 + (s[i]'h).toNat) % 65521) % 65521) := by
  have hg := get_list s i h
  obtain ⟨hl, he⟩ := List.getElem?_eq_some_iff.1 hg
  rw [List.take_succ_eq_append_getElem hl, adl_snoc, he]

set_option maxHeartbeats 1000000 in
theorem sum_any (s : ByteArray) (w : World) (hs : s.size ≤ maxLen) :
    Calls Tryd.prog 112 #[.string s] w fun e w' => e = .returned (.int .i64 (sumN s.data.toList)) ∧ w = w' := by
  unfold maxLen at hs
  go_enter Tryd.func112, Tryd.ntmps112
  go_wp2
  go_loop [3, 4, 8] (fun x y t => ∃ i : Nat, i ≤ s.size ∧ t = .int .i64 i ∧ x = .int .i64 (adl (s.data.toList.take i)).1 ∧ y = .int .i64 (adl (s.data.toList.take i)).2) (fun _ _ t => s.size - (intOf t).toNat)
  case atStart => exact ⟨0, Nat.zero_le _, rfl, rfl, rfl⟩
  case round =>
    obtain ⟨i, hi, rfl, rfl, rfl⟩ := hrel
    by_cases hlt : i < s.size
    · have hnext := adl_take hlt
      have hl := adl_lt (s.data.toList.take i)
      have hb := (s[i]'hlt).toNat_lt
      obtain ⟨x, y, hxy⟩ : ∃ x y, adl (s.data.toList.take i) = (x, y) := ⟨_, _, rfl⟩
      rw [hxy] at hnext hl ⊢
      dsimp only at hnext hl ⊢
      obtain ⟨hl1, hl2⟩ := hl
      have HN := Lib.hid hnext
      clear hnext hxy
      go_wp2
      go_round
      case rel => exact ⟨i + 1, by omega, by go_num, by rw [HN.out]; go_num, by rw [HN.out]; go_num⟩
      case measure => simp [intOf]; omega
    · have hfin : s.data.toList.take i = s.data.toList := List.take_of_length_le (by rw [← size_list]; omega)
      rw [hfin]
      have hl := adl_lt s.data.toList
      obtain ⟨x, y, hxy⟩ : ∃ x y, adl s.data.toList = (x, y) := ⟨_, _, rfl⟩
      have hs2 : sumN s.data.toList = y * 65536 + x := by rw [sumN, hxy]
      rw [hxy] at hl ⊢
      dsimp only at hl ⊢
      obtain ⟨hl1, hl2⟩ := hl
      have hor := bits_or_i64 y x (by omega) (by omega)
      have HS := Lib.hid hs2
      clear hfin hxy hs2
      go_wp2
      go_ret
      exact ⟨by rw [HS.out]; go_num, rfl⟩

theorem conv_new4 (W : World) (x y z u : Int) : (convert 105 9 (.slice (some ⟨W.heap.size, 0, none⟩) 4 4)).run Tryd.prog (W.alloc (.cells #[.int .u8 x, .int .u8 y, .int .u8 z, .int .u8 u] 5)) = .ok (.string (strOfNums [x, y, z, u])) (W.alloc (.cells #[.int .u8 x, .int .u8 y, .int .u8 z, .int .u8 u] 5)) := by
  refine run_convert_bytes_arg _ _ _ Tryd.underlying105 Tryd.underlying5 W.heap.size 0 4 4 [x, y, z, u] rfl (fun i hi => ?_) _ Tryd.underlying9
  have : i = 0 ∨ i = 1 ∨ i = 2 ∨ i = 3 := by omega
  rcases this with rfl | rfl | rfl | rfl <;> simp

set_option maxHeartbeats 1000000 in
theorem four_any (l : Bs) (w : World) : Calls Tryd.prog 111 #[.int .i64 (sumN l)] w fun e w' => e = .returned (.string (bstr (sealL l))) ∧ Below w.heap.size w w' := by
  obtain ⟨hl1, hl2⟩ := adl_lt l
  obtain ⟨n, hn⟩ : ∃ n, sumN l = n := ⟨_, rfl⟩
  have hn2 : n < 4294967296 := by rw [← hn, sumN]; omega
  have hfin : bstr (sealL l) = strOfNums [((n / 16777216 : Nat) : Int), ((n / 65536 % 256 : Nat) : Int), ((n / 256 % 256 : Nat) : Int), ((n % 256 : Nat) : Int)] := by
    apply str_ext
    rw [bstr_list, strOfNums_data, sealL, ← hn, sumN]
    simp only [List.map_cons, List.map_nil, Int.toNat_natCast]
    have e1 : ((adl l).2 * 65536 + (adl l).1) / 16777216 = (adl l).2 / 256 := by omega
    have e2 : ((adl l).2 * 65536 + (adl l).1) / 65536 % 256 = (adl l).2 % 256 := by omega
    have e3 : ((adl l).2 * 65536 + (adl l).1) / 256 % 256 = (adl l).1 / 256 := by omega
    have e4 : ((adl l).2 * 65536 + (adl l).1) % 256 = (adl l).1 % 256 := by omega
    rw [e1, e2, e3, e4]
  rw [show ((n / 16777216 : Nat) : Int) = (n : Int) / 16777216 from by omega, show ((n / 65536 % 256 : Nat) : Int) = (n : Int) / 65536 % 256 from by omega, show ((n / 256 % 256 : Nat) : Int) = (n : Int) / 256 % 256 from by omega, show ((n % 256 : Nat) : Int) = (n : Int) % 256 from by omega] at hfin
  have HF := Lib.hid hfin
  have hcv := conv_new4
  rw [hn]
  clear hfin hn hl1 hl2
  go_enter Tryd.func111, Tryd.ntmps111
  go_wp2
  go_ret
  exact ⟨by rw [HF.out]; rfl, (Below.refl _ _).alloc (Nat.le_refl _) _⟩
end Go.Proofs.YtphbebcbbfbgpacDoor

namespace Go.Proofs.YtphbebcbbfbgpacDoor
open Go Go.RowKit
set_option linter.unusedSimpArgs false
set_option linter.unusedVariables false

theorem conv_new3 (W : World) (x y z : Int) : (convert 105 9 (.slice (some ⟨W.heap.size, 0, none⟩) 3 3)).run Tryd.prog (W.alloc (.cells #[.int .u8 x, .int .u8 y, .int .u8 z] 5)) = .ok (.string (strOfNums [x, y, z])) (W.alloc (.cells #[.int .u8 x, .int .u8 y, .int .u8 z] 5)) := by
  refine run_convert_bytes_arg _ _ _ Tryd.underlying105 Tryd.underlying5 W.heap.size 0 3 3 [x, y, z] rfl (fun i hi => ?_) _ Tryd.underlying9
  have : i = 0 ∨ i = 1 ∨ i = 2 := by omega
  rcases this with rfl | rfl | rfl <;> simp

def recR (ws : List Wrt) (b : Int) : ByteArray := if writesK ws b = 0 then bstr (recL ws) else ⟨#[]⟩
def RecPost (ws : List Wrt) (b : Int) (e : Ending) : Prop := e = .returned (.tuple #[.string (recR ws b), .int .i64 (writesK ws b)])
theorem bodyL_take {ws : List Wrt} {i : Nat} (h : i < ws.length) : (ws.take (i + 1)).flatMap wbytes = (ws.take i).flatMap wbytes ++ wbytes ws[i] := by
  rw [List.take_succ_eq_append_getElem h, List.flatMap_append]; simp

set_option maxRecDepth 20000 in
set_option maxHeartbeats 4000000 in
theorem record_any (A : Option Addr) (k c : Nat) (b : Int) (ws : List Wrt) (w : World) (h : Rep w w.heap.size 2 Wrt.cell A k ws) (hk : k ≤ maxLen) (hb : b ≤ 256) :
    Calls Tryd.prog 90 #[.slice A k c, .int .i64 b] w fun e w' => RecPost ws b e ∧ Below w.heap.size w w' := by
  have hc : ∀ W, Below w.heap.size w W → Calls Tryd.prog 60 #[.slice A k c, .int .i64 b] W fun e w' => FaultPost ws b e ∧ Below W.heap.size W w' :=
    fun W hbe => checkWrites_any A k c b ws W ((h.below hbe (Nat.le_refl _)).mono hbe.size) hk
  have HC := Lib.hid hc
  have H := Lib.hid h
  have HL := Lib.hid h.1
  clear hc h
  by_cases hf : writesK ws b = 0
  · have gw := writesK_zero.1 hf
    have GW := Lib.hid gw
    have E := Lib.hid hf
    have hk12 : k ≤ 12 := by have := gw.len; have := HL.out; omega
    have hcv1 := conv_new1
    have hcv2 := conv_new2
    have hcv3 := conv_new3
    have hsn1 : ∀ x, (strOfNums [x]).size = 1 := fun x => by simp [strOfNums_size]
    have hsn2 : ∀ x y, (strOfNums [x, y]).size = 2 := fun x y => by simp [strOfNums_size]
    have hsn4 : ∀ l, (bstr (sealL l)).size = 4 := fun l => by rw [bstr_size, sealL_len]
    have hsn3 : ∀ x y z, (strOfNums [x, y, z]).size = 3 := fun x y z => by simp [strOfNums_size]
    have hpk : ∀ (t : ByteArray) W, t.size ≤ 48 → Calls Tryd.prog 110 #[.string t] W fun e w' => PackPost t e ∧ Below W.heap.size W w' :=
      fun t W ht => pack_any t W ht
    have HP := Lib.hid hpk
    have hst : bstr [UInt8.ofNat k] = strOfNums [(k : Int)] := by
      apply str_ext; rw [bstr_list, strOfNums_data]; rfl
    have HST := Lib.hid hst
    clear gw hf hpk hst
    go_enter Tryd.func90, Tryd.ntmps90
    go_wp2_with fail
    refine (HC.out _ (Below.refl _ _)).mono ?_
    rintro e w1 ⟨he, hb1⟩
    rw [FaultPost, E.out] at he
    subst he
    have HB1 := Lib.hid (hb1.alloc hb1.size (.cells #[.int .u8 k] 5))
    clear hb1
    go_wp2
    go_loopw [7, 26] (fun v t wr => ∃ (i : Nat) (o : ByteArray), i ≤ k ∧ t = .int .i64 i ∧ v = .string o ∧ o.size ≤ 1 + i * 51 ∧ Below w.heap.size w wr ∧ Hid (o.data.toList = UInt8.ofNat k :: (ws.take i).flatMap wbytes)) (fun _ t _ => k - (intOf t).toNat)
    case atStart => exact ⟨0, _, Nat.zero_le _, rfl, rfl, by rw [← HST.out, bstr_size]; simp, HB1.out, Lib.hid (by rw [← HST.out, bstr_list]; rfl)⟩
    case round =>
      obtain ⟨i, o, hi, rfl, rfl, hos, hbel, hinv⟩ := hrel
      have HB := Lib.hid hbel
      by_cases hlt : i < k
      · obtain ⟨g, off, rfl, hgb, c0, c1⟩ := writes_at (k := i) (H.out.below hbel (Nat.le_refl _)) hlt
        have hil : i < ws.length := by have := HL.out; omega
        have hx0 := GW.out.lo _ (List.getElem_mem hil)
        have hx1 := GW.out.hi _ (List.getElem_mem hil)
        have hx48 := GW.out.size _ (List.getElem_mem hil)
        have hnext := bodyL_take hil
        obtain ⟨x, hx⟩ : ∃ x, ws[i]'hil = x := ⟨_, rfl⟩
        rw [hx] at c0 c1 hx0 hx1 hx48 hnext
        obtain ⟨xb, xd⟩ := x
        dsimp only at c0 c1 hx0 hx1 hx48
        obtain ⟨q, rfl⟩ : ∃ q : Nat, xb = q := ⟨xb.toNat, by omega⟩
        have hq : (q : Int) < 256 := by omega
        have hps : (packB xd).size ≤ 49 := by
          have := (pack_length _ xd.data.toList (Nat.le_refl _)).1
          rw [size_list, packB]
          rw [← size_list] at this
          simp only [List.toList_toArray]; omega
        have hpd : (packB xd).data.toList = pack xd.data.toList := by simp [packB]
        obtain ⟨p, hp⟩ : ∃ p, packB xd = p := ⟨_, rfl⟩
        rw [hp] at hps hpd
        have hwb : (strOfNums [(q : Int), (p.size : Int)] ++ p).data.toList = wbytes ⟨q, xd⟩ := by
          rw [append_list, strOfNums_data, wbytes, ← hpd, ← size_list]
          simp
        have hsz : (o ++ (strOfNums [(q : Int), (p.size : Int)] ++ p)).size ≤ 1 + (i + 1) * 51 := by
          rw [append_size, append_size, strOfNums_size]; simp; omega
        have hnew : (o ++ (strOfNums [(q : Int), (p.size : Int)] ++ p)).data.toList = UInt8.ofNat k :: (ws.take (i + 1)).flatMap wbytes := by
          rw [append_list, hwb, hnext, hinv.out]; rfl
        have HNEW := Lib.hid hnew
        have HSZ := Lib.hid hsz
        have HPK := Lib.hid hp
        have HBA := Lib.hid (HB.out.alloc HB.out.size (.cells #[.int .i64 q, .string xd] 55))
        clear hx hbel hnext hwb hnew hsz hpd hgb hp hinv
        go_wp2_with fail
        refine (HP.out xd _ hx48).mono ?_
        rintro e w2 ⟨he, hb2⟩
        rw [PackPost, HPK.out] at he
        subst he
        have d0 := (hb2.cell (p := ⟨wr.heap.size, 0, none⟩) (by simp)).trans (show (wr.alloc (.cells #[.int .i64 q, .string xd] 55)).cell? ⟨wr.heap.size, 0, none⟩ = some (.int .i64 q) by simp [go_sem])
        have HB2 := Lib.hid (HBA.out.trans (hb2.mono HBA.out.size))
        clear hb2
        go_wp2
        go_roundw
        case rel => exact ⟨i + 1, _, by omega, by go_num, rfl, HSZ.out, HB2.out.alloc HB2.out.size _, HNEW⟩
        case measure => simp [intOf]; omega
      · obtain rfl : i = k := by omega
        have hbd : o.data.toList = bodyL ws := by
          rw [hinv.out, List.take_of_length_le (by have := HL.out; omega), bodyL, ← HL.out]
        have hol : o.size = (bodyL ws).length := by rw [size_list, hbd]
        have hbl := bodyL_len GW.out
        rw [← hol] at hbl
        obtain ⟨S, hS⟩ : ∃ S, strOfNums [114, (o.size : Int) / 256, (o.size : Int) % 256] ++ o = S := ⟨_, rfl⟩
        have hSl : S.data.toList = headL (bodyL ws) := by
          rw [← hS, append_list, strOfNums_data, hbd, headL, ← hol]
          simp only [List.map_cons, List.map_nil]
          rw [show ((o.size : Int) / 256).toNat = o.size / 256 from by omega, show ((o.size : Int) % 256).toNat = o.size % 256 from by omega]
          rfl
        have hSs : S.size ≤ 616 := by rw [size_list, hSl]; simp [headL]; omega
        have hfin : S ++ bstr (sealL S.data.toList) = recR ws b := by
          rw [recR, if_pos E.out]
          apply str_ext
          rw [append_list, bstr_list, bstr_list, hSl]; rfl
        have HFIN := Lib.hid hfin
        have hsum : ∀ W, Calls Tryd.prog 112 #[.string S] W fun e w' => e = .returned (.int .i64 (sumN S.data.toList)) ∧ W = w' := fun W => sum_any S W (by unfold maxLen; omega)
        have HSUM := Lib.hid hsum
        have HS := Lib.hid hS
        obtain ⟨hbl1, hbl2⟩ := hbl
        clear hbel hbd hol hSl hfin hsum hinv hS
        go_wp2_with fail
        rw [HS.out]
        refine (HSUM.out _).mono ?_
        rintro e w2 ⟨rfl, rfl⟩
        go_wp2_with fail
        refine (four_any _ _).mono ?_
        rintro e w3 ⟨rfl, hb3⟩
        have HB3 := Lib.hid ((HB.out.alloc HB.out.size _).trans (hb3.mono (by simp; exact Nat.le_succ_of_le HB.out.size)))
        clear hb3
        go_wp2
        go_ret2
        exact ⟨by rw [RecPost, E.out, ← HFIN.out]; rfl, HB3.out⟩
  · obtain ⟨e, he⟩ : ∃ e, writesK ws b = e := ⟨_, rfl⟩
    have hr : recR ws b = ⟨#[]⟩ := by rw [recR, if_neg hf]
    rw [he] at hf
    have HE := Lib.hid he
    have HR := Lib.hid hr
    have de : (e != 0) = true := by simp [hf]
    clear hf he hr
    go_enter Tryd.func90, Tryd.ntmps90
    go_wp2_with fail
    refine (HC.out _ (Below.refl _ _)).mono ?_
    rintro e' w1 ⟨he, hb1⟩
    rw [FaultPost, HE.out] at he
    subst he
    have HB1 := Lib.hid hb1
    clear hb1
    go_wp2
    go_ret2
    exact ⟨by rw [RecPost, HE.out, HR.out]; rfl, HB1.out⟩
end Go.Proofs.YtphbebcbbfbgpacDoor

namespace Go.Proofs.YtphbebcbbfbgpacDoor
open Go Go.RowKit

theorem infoWrite : (Tryd.prog.info? 55).map (fun i => (i.zero, i.size, i.bytes)) = some (some (.agg #[.int .i64 0, .string ByteArray.empty]), 2, 24) := by kernel_rfl
theorem wrt_flat1 (x : Wrt) : flat Wrt.cell 2 [x] = [.int .i64 x.block, .string x.data] := by
  rw [flat_one]; rfl
def writesL : Bs → Option (List Wrt)
  | [] => none
  | m :: r => writesF m.toNat r
/-- Writes of the call's own and true; or whatever and false. -/
def WrsPost (w : World) (r : Option (List Wrt)) (e : Ending) (w' : World) : Prop := match r with
  | none => (∃ v, e = .returned (.tuple #[v, .bool false])) ∧ Below w.heap.size w w'
  | some ws => ∃ A c, e = .returned (.tuple #[.slice A ws.length c, .bool true]) ∧ w'.ownsRow w.heap.size 55 2 (.slice A ws.length c) ws.length (flat Wrt.cell 2 ws) ∧ Below w.heap.size w w'
theorem WrsPost.no {w w' : World} {r : Option (List Wrt)} {v : Value} (h : r = none) (hb : Below w.heap.size w w') : WrsPost w r (.returned (.tuple #[v, .bool false])) w' := by
  subst h; exact ⟨⟨v, rfl⟩, hb⟩
theorem WrsPost.yes {w w' : World} {r : Option (List Wrt)} {ws : List Wrt} {v : Value} {n : Nat} (h : r = some ws) (hn : n = ws.length) (ho : w'.ownsRow w.heap.size 55 2 v n (flat Wrt.cell 2 ws)) (hb : Below w.heap.size w w') :
    WrsPost w r (.returned (.tuple #[v, .bool true])) w' := by
  subst h hn
  obtain ⟨A, c, rfl, _⟩ := own_form ho
  exact ⟨A, c, rfl, ho, hb⟩

theorem two_of {s : ByteArray} (h : 2 ≤ s.size) : s.data.toList = (s[0]'(by omega)) :: (s[1]'(by omega)) :: s.data.toList.drop 2 := by
  have h0 := get_list s 0 (by omega)
  have h1 := get_list s 1 (by omega)
  rw [size_list] at h
  rcases hl : s.data.toList with _ | ⟨a, _ | ⟨b, r⟩⟩
  · rw [hl] at h; simp at h
  · rw [hl] at h; simp at h
  · rw [hl] at h0 h1
    simp only [List.getElem?_cons_zero, List.getElem?_cons_succ, Option.some.injEq] at h0 h1
    rw [← h0, ← h1]; rfl
theorem writesF_short {n : Nat} {s : ByteArray} (h : s.size < 2) : writesF (n + 1) s.data.toList = none := by
  rw [size_list] at h
  rcases hl : s.data.toList with _ | ⟨a, _ | ⟨b, r⟩⟩
  · rfl
  · rfl
  · rw [hl] at h; simp at h; omega
theorem writesF_step {n : Nat} {s : ByteArray} (h : 2 ≤ s.size) : writesF (n + 1) s.data.toList = if s.size < 2 + (s[1]'(by omega)).toNat then none else
    if unpackN (s.extract 2 (2 + (s[1]'(by omega)).toNat)) = 0 then (writesF n (s.extract (2 + (s[1]'(by omega)).toNat) s.size).data.toList).map (fun ws => ⟨(s[0]'(by omega)).toNat, unpackB (s.extract 2 (2 + (s[1]'(by omega)).toNat))⟩ :: ws) else none := by
  have hl := two_of h
  obtain ⟨a, ha⟩ : ∃ a, s[0]'(by omega) = a := ⟨_, rfl⟩
  obtain ⟨b, hb⟩ : ∃ b, s[1]'(by omega) = b := ⟨_, rfl⟩
  rw [ha, hb] at hl
  rw [ha, hb]
  have e1 : (s.extract 2 (2 + b.toNat)).data.toList = (s.data.toList.drop 2).take b.toNat := by rw [extract_list, Nat.add_sub_cancel_left]
  have e2 : (s.extract (2 + b.toNat) s.size).data.toList = (s.data.toList.drop 2).drop b.toNat := by
    rw [extract_list, List.drop_drop, List.take_of_length_le (by rw [List.length_drop, ← size_list]; exact Nat.le_refl _)]
  have hr : (s.data.toList.drop 2).length = s.size - 2 := by rw [List.length_drop, ← size_list]
  unfold unpackN unpackB
  rw [e1, e2]
  obtain ⟨r, hr2⟩ : ∃ r, s.data.toList.drop 2 = r := ⟨_, rfl⟩
  rw [hr2] at hl hr ⊢
  rw [hl, writesF]
  simp only [hr, unpk]
  by_cases hc : s.size < 2 + b.toNat
  · rw [if_pos hc, if_pos (by omega)]
  · rw [if_neg hc, if_neg (by omega)]
    rfl

set_option maxRecDepth 20000 in
set_option maxHeartbeats 4000000 in
theorem writes_any (s : ByteArray) (w : World) (hs : s.size ≤ 100000) :
    Calls Tryd.prog 126 #[.string s] w (WrsPost w (writesL s.data.toList)) := by
  have hun : ∀ (t : ByteArray) W, t.size ≤ 100000 → Calls Tryd.prog 133 #[.string t] W fun e w' => UnpackPost t e ∧ Below W.heap.size W w' :=
    fun t W ht => unpack_any t W (by unfold maxLen; omega)
  have HUN := Lib.hid hun
  clear hun
  by_cases h0 : s.size = 0
  · have hemp := isEmpty_yes h0
    have hn : writesL s.data.toList = none := by
      have : s.data.toList = [] := List.eq_nil_of_length_eq_zero (by rw [← size_list]; exact h0)
      rw [this]; rfl
    have HN := Lib.hid hn
    clear h0 hn
    go_enter Tryd.func126, Tryd.ntmps126
    go_wp2
    go_ret2
    exact WrsPost.no HN.out (Below.refl _ _)
  · have hemp := isEmpty_no h0
    have h1 : 0 < s.size := by omega
    obtain ⟨m, hm⟩ : ∃ m, (s[0]'h1).toNat = m := ⟨_, rfl⟩
    have hm256 : m < 256 := by rw [← hm]; exact (s[0]'h1).toNat_lt
    have hw : writesL s.data.toList = writesF m (s.extract 1 s.size).data.toList := by
      have hg := get_list s 0 h1
      rw [extract_list, List.take_of_length_le (by rw [List.length_drop, ← size_list]; exact Nat.le_refl _), ← hm]
      rcases hl : s.data.toList with _ | ⟨a, r⟩
      · rw [hl] at hg; simp at hg
      · rw [hl] at hg
        simp only [List.getElem?_cons_zero, Option.some.injEq] at hg
        rw [writesL, ← hg]; rfl
    have hsz : (s.extract 1 s.size).size ≤ s.size := by rw [size_list, extract_list, List.length_take, List.length_drop]; omega
    have hm0 : ((s[0]'h1).toNat : Int) = (m : Int) := by rw [hm]
    have HW := Lib.hid hw
    have HSZ := Lib.hid hsz
    obtain ⟨i0, hi, hz0, hz1, hz2⟩ := info_parts infoWrite
    have HI := Lib.hid hi
    have HZ0 := Lib.hid hz0
    have HZ1 := Lib.hid hz1
    have HZ2 := Lib.hid hz2
    clear h0 hw hm hsz hi hz0 hz1 hz2
    go_enter Tryd.func126, Tryd.ntmps126
    go_wp2
    go_loopw [0, 5, 17] (fun vs v t wr => ∃ (i : Nat) (r : ByteArray) (out : List Wrt), i ≤ m ∧ out.length = i ∧ r.size ≤ 100000 ∧ t = .int .i64 i ∧ vs = .string r ∧ wr.ownsRow w.heap.size 55 2 v i (flat Wrt.cell 2 out) ∧ Below w.heap.size w wr ∧ Hid (writesL s.data.toList = (writesF (m - i) r.data.toList).map (fun ws => out ++ ws))) (fun _ _ t _ => m - (intOf t).toNat)
    case atStart => exact ⟨0, _, [], Nat.zero_le _, rfl, by have := HSZ.out; omega, rfl, rfl, World.ownsRow_nil _ _ _ _, Below.refl _ _, Lib.hid (by rw [HW.out, Nat.sub_zero]; simp)⟩
    case round =>
      obtain ⟨i, r, out, hi, hol, hrs, rfl, rfl, hown, hbel, hinv⟩ := hrel
      have HO := Lib.hid hown
      have HB := Lib.hid hbel
      have HOL := Lib.hid hol
      clear hown hbel hol
      by_cases hlt : i < m
      · have hmi : m - i = (m - (i + 1)) + 1 := by omega
        by_cases h2 : r.size < 2
        · have hfin : writesL s.data.toList = none := by rw [hinv.out, hmi, writesF_short h2]; rfl
          have HF := Lib.hid hfin
          have d2 : decide ((r.size : Int) < 2) = true := decide_eq_true (by omega)
          clear hfin hmi
          go_wp2
          go_ret2
          exact WrsPost.no HF.out HB.out
        · have d2 : decide ((r.size : Int) < 2) = false := decide_eq_false (by omega)
          have hr2 : 2 ≤ r.size := by omega
          have hr0 : 0 < r.size := by omega
          have hr1 : 1 < r.size := by omega
          have hstep := writesF_step (n := m - (i + 1)) hr2
          have hinv2 := hinv.out
          rw [hmi, hstep] at hinv2
          obtain ⟨q, hq⟩ : ∃ q, (r[1]'hr1).toNat = q := ⟨_, rfl⟩
          obtain ⟨a, ha⟩ : ∃ a, (r[0]'hr0).toNat = a := ⟨_, rfl⟩
          have hq256 : q < 256 := by rw [← hq]; exact (r[1]'hr1).toNat_lt
          have ha256 : a < 256 := by rw [← ha]; exact (r[0]'hr0).toNat_lt
          rw [hq, ha] at hinv2
          have hqi : ((r[1]'hr1).toNat : Int) = (q : Int) := by rw [hq]
          have hai : ((r[0]'hr0).toNat : Int) = (a : Int) := by rw [ha]
          have HQ := Lib.hid hq
          have HA := Lib.hid ha
          clear hmi hstep hq ha
          by_cases hsh : r.size < 2 + q
          · have d3 : decide ((r.size : Int) < 2 + (q : Int)) = true := decide_eq_true (by omega)
            rw [if_pos hsh] at hinv2
            have HF : Hid (writesL s.data.toList = none) := Lib.hid hinv2
            clear hinv2
            go_wp2
            go_ret2
            exact WrsPost.no HF.out HB.out
          · have d3 : decide ((r.size : Int) < 2 + (q : Int)) = false := decide_eq_false (by omega)
            rw [if_neg hsh] at hinv2
            have hts : (r.extract 2 (2 + q)).size ≤ 100000 := by rw [size_list, extract_list, List.length_take, List.length_drop, ← size_list]; omega
            have hrs2 : (r.extract (2 + q) r.size).size ≤ 100000 := by rw [size_list, extract_list, List.length_take, List.length_drop, ← size_list]; omega
            have hcall : ∀ W, Calls Tryd.prog 133 #[.string (r.extract 2 (2 + q))] W fun e w' => UnpackPost (r.extract 2 (2 + q)) e ∧ Below W.heap.size W w' := fun W => HUN.out _ W hts
            obtain ⟨u, uk, hu, huk⟩ : ∃ u uk, unpackB (r.extract 2 (2 + q)) = u ∧ unpackN (r.extract 2 (2 + q)) = uk := ⟨_, _, rfl, rfl⟩
            rw [hu, huk] at hinv2
            unfold UnpackPost at hcall
            rw [hu, huk] at hcall
            have HCALL := Lib.hid hcall
            have HRS2 := Lib.hid hrs2
            have HINV2 := Lib.hid hinv2
            have b1 : (0 : Int) ≤ 2 + (q : Int) := by omega
            have b2 : 2 + (q : Int) ≤ (r.size : Int) := by omega
            clear hts hcall hu huk hrs2 hinv2
            by_cases hk0 : uk = 0
            · subst hk0
              have HF : Hid (writesL s.data.toList = (writesF (m - (i + 1)) (r.extract (2 + q) r.size).data.toList).map (fun ws => (out ++ [⟨a, u⟩]) ++ ws)) := Lib.hid (by
                rw [HINV2.out, if_pos rfl, Option.map_map]
                congr 1
                funext ws
                simp)
              go_wp2_with fail
              refine (HCALL.out _).mono ?_
              rintro e w2 ⟨rfl, hb2⟩
              have HB2 := Lib.hid (HB.out.trans (hb2.mono HB.out.size))
              have HO2 := Lib.hid (own_below HO.out hb2)
              clear hb2
              go_wp2_with (at_builtin; refine wpList_append_own _ rfl (.tmp 44) (.tmp 50) 53 rfl w.heap.size 55 i0 _ 2 24 Tryd.underlying53 HI.out HZ0.out HZ1.out HZ2.out rfl (by decide) _ _ _ rfl (HO2.out.alloc _) ⟨w2.heap.size, 0, none⟩ 1 1 [.int .i64 a, .string u] rfl rfl (World.news_of_block (cs := #[.int .i64 a, .string u]) (t := 55) (fr := (0, 0)) (heap_alloc_new w2 _)) (by simp [Value.oneCell']) (by unfold maxLen; omega) (by omega) (by have := HB2.out.size; simp; omega) ?_; intro v' w3 hown3 hgr3 _)
              have HB3 := Lib.hid ((HB2.out.alloc HB2.out.size _).grown hgr3 (by have := HB2.out.size; simp; omega) (fun k hk => (HO.out.lt k hk).1))
              have ho3 : w3.ownsRow w.heap.size 55 2 v' (i + 1) (flat Wrt.cell 2 (out ++ [(⟨a, u⟩ : Wrt)])) := by
                rw [flat_append, wrt_flat1]; exact hown3
              clear hgr3 hown3
              go_wp2
              go_roundw
              case rel => exact ⟨i + 1, _, _, by omega, by rw [List.length_append, HOL.out]; rfl, HRS2.out, by go_num, rfl, ho3, HB3.out, HF⟩
              case measure => simp [intOf]; omega
            · have de : (uk != 0) = true := by simp [hk0]
              have HF : Hid (writesL s.data.toList = none) := Lib.hid (by rw [HINV2.out, if_neg hk0]; rfl)
              clear hk0
              go_wp2_with fail
              refine (HCALL.out _).mono ?_
              rintro e w2 ⟨rfl, hb2⟩
              have HB2 := Lib.hid (HB.out.trans (hb2.mono HB.out.size))
              clear hb2
              go_wp2
              go_ret2
              exact WrsPost.no HF.out HB2.out
      · obtain rfl : i = m := by omega
        by_cases hr0 : r.size = 0
        · have hemp2 := isEmpty_yes hr0
          have hfin : writesL s.data.toList = some out := by
            have e : r.data.toList = [] := List.eq_nil_of_length_eq_zero (by rw [← size_list]; exact hr0)
            rw [hinv.out, Nat.sub_self, e]; simp [writesF]
          have HF := Lib.hid hfin
          clear hfin hr0
          go_wp2
          go_ret2
          exact WrsPost.yes HF.out HOL.out.symm HO.out HB.out
        · have hemp2 := isEmpty_no hr0
          have hfin : writesL s.data.toList = none := by
            have e : r.data.toList ≠ [] := fun e => hr0 (by rw [size_list, e]; rfl)
            rw [hinv.out, Nat.sub_self, writesF, if_neg e]; rfl
          have HF := Lib.hid hfin
          clear hfin hr0
          go_wp2
          go_ret2
          exact WrsPost.no HF.out HB.out
end Go.Proofs.YtphbebcbbfbgpacDoor

namespace Go.Proofs.YtphbebcbbfbgpacDoor
open Go Go.RowKit
set_option linter.unusedSimpArgs false
set_option linter.unusedVariables false

def FirstPost (w : World) (r : Option (List Wrt × Nat)) (e : Ending) (w' : World) : Prop := match r with
  | none => e = .returned (.tuple #[.slice none 0 0, .int .i64 0]) ∧ Below w.heap.size w w'
  | some x => ∃ A c, e = .returned (.tuple #[.slice A x.1.length c, .int .i64 x.2]) ∧ w'.ownsRow w.heap.size 55 2 (.slice A x.1.length c) x.1.length (flat Wrt.cell 2 x.1) ∧ Below w.heap.size w w'
theorem FirstPost.no {w w' : World} {r : Option (List Wrt × Nat)} (h : r = none) (hb : Below w.heap.size w w') : FirstPost w r (.returned (.tuple #[.slice none 0 0, .int .i64 0])) w' := by
  subst h; exact ⟨rfl, hb⟩
theorem FirstPost.yes {w w' : World} {r : Option (List Wrt × Nat)} {ws : List Wrt} {A : Option Addr} {k c n : Nat} (h : r = some (ws, n)) (hk : k = ws.length) (ho : w'.ownsRow w.heap.size 55 2 (.slice A k c) k (flat Wrt.cell 2 ws)) (hb : Below w.heap.size w w') :
    FirstPost w r (.returned (.tuple #[.slice A k c, .int .i64 n])) w' := by
  subst h hk
  exact ⟨A, c, rfl, ho, hb⟩

theorem three_of {s : ByteArray} (h : 3 ≤ s.size) : s.data.toList = (s[0]'(by omega)) :: (s[1]'(by omega)) :: (s[2]'(by omega)) :: s.data.toList.drop 3 := by
  have h0 := get_list s 0 (by omega)
  have h1 := get_list s 1 (by omega)
  have h2 := get_list s 2 (by omega)
  rw [size_list] at h
  rcases hl : s.data.toList with _ | ⟨a, _ | ⟨b, _ | ⟨c, r⟩⟩⟩
  · rw [hl] at h; simp at h
  · rw [hl] at h; simp at h
  · rw [hl] at h; simp at h
  · rw [hl] at h0 h1 h2
    simp only [List.getElem?_cons_zero, List.getElem?_cons_succ, Option.some.injEq] at h0 h1 h2
    rw [← h0, ← h1, ← h2]; rfl
theorem firstL_short {s : ByteArray} (b : Int) (h : s.size < 3) : firstL s.data.toList b = none := by
  rw [size_list] at h
  rcases hl : s.data.toList with _ | ⟨a, _ | ⟨c, _ | ⟨d, r⟩⟩⟩
  · rfl
  · rfl
  · rfl
  · rw [hl] at h; simp at h; omega
theorem firstL_at {s : ByteArray} (b : Int) (h : 3 ≤ s.size) {N : Nat} (hN : N = 256 * (s[1]'(by omega)).toNat + (s[2]'(by omega)).toNat) :
    firstL s.data.toList b = if (s[0]'(by omega)).toNat = 114 then if s.size < 3 + N + 4 then none else
      if bstr (sealL (s.extract 0 (3 + N)).data.toList) = s.extract (3 + N) (3 + N + 4) then match writesL (s.extract 3 (3 + N)).data.toList with
        | none => none
        | some ws => if writesK ws b = 0 then some (ws, 3 + N + 4) else none
      else none else none := by
  have hl := three_of h
  have e1 : (s.extract 0 (3 + N)).data.toList = s.data.toList.take (3 + N) := by rw [extract_list, List.drop_zero, Nat.sub_zero]
  have e2 : (s.extract (3 + N) (3 + N + 4)).data.toList = (s.data.toList.drop (3 + N)).take 4 := by rw [extract_list, Nat.add_sub_cancel_left]
  have e3 : (s.extract 3 (3 + N)).data.toList = (s.data.toList.drop 3).take N := by rw [extract_list, Nat.add_sub_cancel_left]
  have hs : s.size = 3 + (s.data.toList.drop 3).length := by rw [List.length_drop, ← size_list]; omega
  have e4 : bstr (sealL (s.extract 0 (3 + N)).data.toList) = s.extract (3 + N) (3 + N + 4) ↔ sealL (s.data.toList.take (3 + N)) = (s.data.toList.drop (3 + N)).take 4 := by
    constructor
    · intro e
      have := congrArg (fun t => t.data.toList) e
      simp only [bstr_list] at this
      rw [e1, e2] at this
      exact this
    · intro e
      apply str_ext
      rw [bstr_list, e1, e2]; exact e
  have e5 : (s[0]'(by omega)).toNat = 114 ↔ (s[0]'(by omega)) = 114 := by
    constructor
    · intro e; exact UInt8.toNat_inj.1 e
    · intro e; rw [e]; rfl
  rw [e3]
  simp only [e4, e5]
  obtain ⟨c, hc⟩ : ∃ c, s[0]'(by omega) = c := ⟨_, rfl⟩
  obtain ⟨x, hx⟩ : ∃ x, s[1]'(by omega) = x := ⟨_, rfl⟩
  obtain ⟨y, hy⟩ : ∃ y, s[2]'(by omega) = y := ⟨_, rfl⟩
  rw [hc, hx, hy] at hl
  rw [hx, hy] at hN
  rw [hc, hs]
  obtain ⟨r, hr⟩ : ∃ r, s.data.toList.drop 3 = r := ⟨_, rfl⟩
  rw [hr] at hl ⊢
  rw [hl]
  unfold firstL
  simp only [← hN]
  by_cases h1 : c = 114
  · rw [if_pos h1]
    by_cases h2 : 3 + r.length < 3 + N + 4
    · rw [if_pos h2, if_neg (fun h => by have := h.2.1; omega)]
    · rw [if_neg h2]
      by_cases h3 : sealL ((c :: x :: y :: r).take (3 + N)) = ((c :: x :: y :: r).drop (3 + N)).take 4
      · rw [if_pos h3, if_pos ⟨h1, by omega, h3⟩]
        cases r.take N with
        | nil => rfl
        | cons m b => rfl
      · rw [if_neg h3, if_neg (fun h => h3 h.2.2)]
  · rw [if_neg h1, if_neg (fun h => h1 h.1)]

end Go.Proofs.YtphbebcbbfbgpacDoor
