/- Records joined; how many records fit; numbers picked below a great bound. The law LogsBack returns true for all raw numbers. The eight bytes that LogsSpoilt scans first. -/
import Derived.Test.YtphbebcbbfbgpabDoorRecords
import Derived.Test.YtphbebcbbfbgpabDoorPlainCount
import Derived.Lib.Join
import Derived.Test.YtphbebcbbfbgpabDoorSameDeals
import Derived.Test.YtphbebcbbfbgpabDoorShelf
namespace Go.Proofs.YtphbebcbbfbgpabDoor
open Go Go.RowKit

theorem picked_big (n : Int) (m : Nat) (w : World) (hn : i64Ok n) (h0 : 0 < m) (hm : m ≤ 4611686018427387904) :
    Calls Tryd.prog 17 #[.int .i64 n, .int .i64 m] w fun e w' => e = .returned (.int .i64 (pickN n m)) ∧ w = w' := by
  have hb := hn.bounds
  obtain ⟨z, hz⟩ : ∃ z : Nat, pickN n m = z := ⟨_, rfl⟩
  rw [hz]
  have HZ := Lib.hid hz
  have HN := Lib.hid hb
  clear hz hb hn
  by_cases hneg : n < 0
  · go_enter Tryd.func17, Tryd.ntmps17
    go_wp2
    go_ret
    refine ⟨?_, rfl⟩
    have hb := HN.out
    have e1 : wrap64 (n + 1) = n + 1 := wrap64_same _ (by omega)
    have e2 : wrap64 (-(n + 1)) = -(n + 1) := wrap64_same _ (by omega)
    have e3 : (-(n + 1)).tmod (m : Int) = (z : Int) := by
      rw [← HZ.out, pickN, if_pos hneg]
      obtain ⟨k, hk⟩ : ∃ k : Nat, -(n + 1) = k := ⟨(-(n + 1)).toNat, by omega⟩
      rw [hk, Int.toNat_natCast, Int.tmod_eq_emod_of_nonneg (by omega)]
      omega
    rw [e1, e2, e3]
    rfl
  · go_enter Tryd.func17, Tryd.ntmps17
    go_wp2
    go_ret
    refine ⟨?_, rfl⟩
    have e3 : n % (m : Int) = (z : Int) := by
      rw [← HZ.out, pickN, if_neg (by omega)]
      obtain ⟨k, hk⟩ : ∃ k : Nat, n = k := ⟨n.toNat, by omega⟩
      rw [hk, Int.toNat_natCast]
      omega
    rw [e3]
    rfl

theorem join_recs (ds : List (List Wrt)) : Lib.join ((recB ds).map (·.data.toList)) [] = recs ds := by
  have e : (recB ds).map (·.data.toList) = ds.map recL := by
    rw [recB, List.map_map]
    exact List.map_congr_left (fun d _ => bstr_list _)
  rw [e]
  cases ds with
  | nil => rfl
  | cons d ds =>
    rw [List.map_cons, Lib.join_cons, Lib.joinTail, recs_cons]
    simp [recs, List.flatMap, Function.comp_def]
theorem recs_mono (ds : List (List Wrt)) {a b : Nat} (h : a ≤ b) : (recs (ds.take a)).length ≤ (recs (ds.take b)).length := by
  have e : ds.take a = (ds.take b).take a := by rw [List.take_take, Nat.min_eq_left h]
  have e2 : recs (ds.take b) = recs ((ds.take b).take a) ++ recs ((ds.take b).drop a) := by rw [← recs_append, List.take_append_drop]
  rw [e, e2, List.length_append]
  omega
theorem recs_succ {ds : List (List Wrt)} {j : Nat} (h : j < ds.length) : (recs (ds.take (j + 1))).length = (recs (ds.take j)).length + (recL ds[j]).length := by
  rw [List.take_succ_eq_append_getElem h, recs_append, List.length_append]
  simp [recs]
theorem fit_yes {ds : List (List Wrt)} {j k : Nat} (h : j < fitN ds k) : j < ds.length ∧ (recs (ds.take (j + 1))).length ≤ k := by
  have h1 := fitN_le ds k
  exact ⟨by omega, Nat.le_trans (recs_mono ds h) (recs_take_fit ds k)⟩
theorem fit_no {ds : List (List Wrt)} {k : Nat} (h : fitN ds k < ds.length) : k < (recs (ds.take (fitN ds k + 1))).length := fit_next ds k h
theorem Short4.good {ds : List (List Wrt)} (h : Short4 ds) : ∀ d ∈ ds, GoodW d 16 := fun d hd => (h.raw d hd).good
theorem Short4.short {ds : List (List Wrt)} (h : Short4 ds) : ∀ d ∈ ds, ShortW d := fun d hd =>
  ⟨h.few d hd, fun x hx => by have := (h.raw d hd).rng x hx; omega, fun x hx => by obtain ⟨r, e⟩ := (h.raw d hd).data x hx; rw [e]; exact dataR_markless r⟩
end Go.Proofs.YtphbebcbbfbgpabDoor

namespace Go.Proofs.YtphbebcbbfbgpabDoor
open Go Go.RowKit
set_option linter.unusedSimpArgs false
set_option linter.unusedVariables false

/-- strings.Join of records -/
theorem joinB {w : World} {base m d : Nat} {A : Option Addr} (ds : List (List Wrt)) (hm : m = ds.length) (h : w.ownsRow base 9 1 (.slice A m d) m (flat (fun (x : ByteArray) (_ : Nat) => Value.string x) 1 (recB ds))) (hl : (recs ds).length ≤ 140737488355328) (hm2 : m ≤ 140737488355328) :
    Calls Tryd.prog 15 #[.slice A m d, .string ⟨#[]⟩] w fun e w' => e = .returned (.string (bstr (recs ds))) ∧ Below w.heap.size w w' := by
  by_cases h0 : m = 0
  · subst h0
    have : ds = [] := List.eq_nil_of_length_eq_zero hm.symm
    subst this
    refine (strings_join_none A d ⟨#[]⟩ w).mono ?_
    rintro e w' ⟨rfl, rfl⟩
    exact ⟨rfl, Below.refl _ _⟩
  · have hrl : (recB ds).length = m := by rw [recB, List.length_map, hm]
    have hrep : Rep w w.heap.size 1 (fun (x : ByteArray) (_ : Nat) => Value.string x) A m (recB ds) := Rep.of_own hrl.symm h (Nat.le_refl _)
    obtain ⟨b, off, rfl, hb, hc⟩ := hrep.2 (by omega)
    have hcap : m ≤ d := by
      obtain ⟨_, _, hv, h1, _⟩ := own_form h
      simp only [Value.slice.injEq] at hv
      obtain ⟨_, _, rfl⟩ := hv
      exact h1
    have hx := strings_join b off d (recB ds) ⟨#[]⟩ w (fun j x hj => by
      obtain ⟨hjl, e⟩ := List.getElem?_eq_some_iff.1 hj
      have := hc j hjl 0 (by omega)
      rw [Nat.mul_one, Nat.add_zero] at this
      rw [this, e]) hb (by omega) (by omega) (by
        have e : (⟨#[]⟩ : ByteArray).data.toList = [] := rfl
        rw [e, join_recs]; exact hl)
    have e : (⟨#[]⟩ : ByteArray).data.toList = [] := rfl
    rw [e, join_recs, hrl] at hx
    exact hx
/-- log.Scan, its results by name -/
theorem scanB (s : ByteArray) (ds : List (List Wrt)) (u m : Nat) (w : World) (hs : s.size ≤ 140737488355328) (hr : scanL s.data.toList 16 = (ds, u)) (hm : ds.length = m) (hm2 : m ≤ 5800000000000) :
    Calls Tryd.prog 16 #[.string s, .int .i64 16] w fun e w' => ∃ A c vs, e = .returned (.tuple #[.slice A m c, .int .i64 u]) ∧ w'.ownsRow w.heap.size 60 1 (.slice A m c) m vs ∧ DealsIn w' w.heap.size vs ds ∧ Below w.heap.size w w' := by
  subst hm
  have := scan_big s 16 w hs (by rw [hr]; exact hm2)
  rw [hr] at this
  exact this

set_option maxRecDepth 100000 in
set_option maxHeartbeats 4000000 in
theorem lawLogsBack (A : Option Addr) (n c : Nat) (ls : List Raw) (cut : Int) (w : World) (h : Rep w w.heap.size 4 Raw.cell A n ls) (hn : n ≤ 4398046511104) (hc : n ≤ c) (hc64 : c ≤ maxLen) (hwf : ∀ a ∈ ls, a.wf) (hk64 : i64Ok cut) :
    Calls Tryd.prog 5 #[.slice A n c, .int .i64 cut] w fun e w' => e = .returned (.bool true) ∧ Below w.heap.size w w' := by
  have HR := Lib.hid (records_any A n c ls w h hn hc hc64 hwf)
  have HK := Lib.hid hk64
  clear h hc hc64 hwf hk64
  go_enter Tryd.func5, Tryd.ntmps5
  go_wp2_with fail
  refine HR.out.mono ?_
  rintro e w1 ⟨A4, c4, A5, c5, m, vs, ds, rfl, hm, hf⟩
  have hcap4 : m ≤ c4 ∧ c4 ≤ maxLen := by
    obtain ⟨_, _, hv, h1, h2, _⟩ := own_form hf.ov
    simp only [Value.slice.injEq] at hv
    obtain ⟨_, _, rfl⟩ := hv
    exact ⟨h1, h2⟩
  unfold maxLen at hcap4
  obtain ⟨hc4, hc4m⟩ := hcap4
  have hshort := recs_short hf.sh.short
  have hml := hf.n
  obtain ⟨L, hL⟩ : ∃ L, (recs ds).length = L := ⟨_, rfl⟩
  have hL2 : L ≤ 100000000000000 := by rw [← hL]; omega
  obtain ⟨S, hS⟩ : ∃ S, bstr (recs ds) = S := ⟨_, rfl⟩
  have hSs : S.size = L := by rw [← hS, bstr_size, hL]
  have hSl : S.data.toList = recs ds := by rw [← hS, bstr_list]
  have hj := joinB ds hml hf.os (by omega) (by omega)
  rw [hS] at hj
  obtain ⟨L1, hL1⟩ : ∃ L1 : Nat, (L : Int) + 1 = (L1 : Nat) := ⟨L + 1, by omega⟩
  have hL1e : L1 = L + 1 := by omega
  have hpk : ∀ W, Calls Tryd.prog 17 #[.int .i64 cut, .int .i64 L1] W fun e w' => e = .returned (.int .i64 (pickN cut L1)) ∧ W = w' := fun W => picked_big cut L1 W HK.out (by omega) (by omega)
  have hkl := pickN_lt cut (m := L1) (by omega)
  obtain ⟨k, hk⟩ : ∃ k, pickN cut L1 = k := ⟨_, rfl⟩
  rw [hk] at hpk hkl
  have hsc : scanL S.data.toList 16 = (ds, L) := by
    have := scanL_recs (b := 16) (by omega) ds hf.sh.good []
    rw [List.append_nil] at this
    rw [hSl, this, scanL_nil, hL]; simp
  have hTl : (S.extract 0 k).data.toList = (recs ds).take k := by rw [extract_list, hSl, List.drop_zero, Nat.sub_zero]
  have hTs : (S.extract 0 k).size = k := by rw [size_list, hTl, List.length_take, hL]; omega
  obtain ⟨f, hfit⟩ : ∃ f, fitN ds k = f := ⟨_, rfl⟩
  have hfm : f ≤ m := by rw [← hfit, hml]; exact fitN_le ds k
  have hsc2 : scanL (S.extract 0 k).data.toList 16 = (ds.take f, (recs (ds.take f)).length) := by rw [hTl, scanL_cut (by omega) ds hf.sh.good, hfit]
  obtain ⟨sf, hsf⟩ : ∃ sf, (recs (ds.take f)).length = sf := ⟨_, rfl⟩
  rw [hsf] at hsc2
  have HSF := Lib.hid hsf
  have HJ := Lib.hid hj
  have HPK := Lib.hid hpk
  have hs1 := fun W => scanB S ds L m W (by omega) hsc hml.symm (by omega)
  have hs2 := fun W => scanB (S.extract 0 k) (ds.take f) sf f W (by omega) hsc2 (by rw [List.length_take]; omega) (by omega)
  have HS1 := Lib.hid hs1
  have HS2 := Lib.hid hs2
  have HF := Lib.hid hf
  have HFIT := Lib.hid hfit
  have HLL := Lib.hid hL
  clear hsf hj hpk hs1 hs2 hf hfit hL hS hSl hsc hsc2 hTl hTs hk hshort hml hL1e
  go_wp2_with fail
  with_reducible refine HJ.out.mono ?_
  rintro e w2 ⟨rfl, hb2⟩
  have HF2 := Lib.hid (HF.out.below hb2)
  clear hb2
  go_wp2_with fail
  with_reducible refine (HS1.out _).mono ?_
  rintro e w3 ⟨A8, c8, vs8, rfl, ho8, hd8, hb3⟩
  have HF3 := Lib.hid (HF2.out.below hb3)
  have HO8 := Lib.hid (And.intro ho8 hd8)
  clear hb3 ho8 hd8
  go_wp2_with (go_at_call 17; (with_reducible refine (HPK.out _).mono ?_); rintro e w' ⟨rfl, rfl⟩)
  with_reducible refine (HS2.out _).mono ?_
  rintro e w5 ⟨A11, c11, vs11, rfl, ho11, hd11, hb5⟩
  have HF5 := Lib.hid (HF3.out.below hb5)
  have HO85 := Lib.hid (And.intro (own_below HO8.out.1 hb5) (HO8.out.2.below hb5))
  have HO11 := Lib.hid (And.intro ho11 hd11)
  clear hb5 ho11 hd11
  go_upto_region 8 with (fail)
  go_loopw [13, 14] (fun x y wr => ∃ j : Nat, j ≤ f ∧ x = .int .i64 j ∧ y = .int .i64 (recs (ds.take j)).length ∧ wr = w5) (fun x _ _ => m - (intOf x).toNat)
  case atStart => exact ⟨0, by omega, rfl, rfl, rfl⟩
  case round =>
    obtain ⟨j, hjf, rfl, rfl, rfl⟩ := hrel
    obtain ⟨sj, hsj⟩ : ∃ sj, (recs (ds.take j)).length = sj := ⟨_, rfl⟩
    rw [hsj]
    by_cases hjm : j < m
    · have hjd : j < ds.length := by rw [← HF.out.n]; exact hjm
      have hrl : (recB ds).length = m := by rw [recB, List.length_map, HF.out.n]
      have hrep : Rep wr wr.heap.size 1 (fun (x : ByteArray) (_ : Nat) => Value.string x) A5 m (recB ds) := Rep.of_own hrl.symm HF5.out.os (Nat.le_refl _)
      obtain ⟨b, off, rfl, hb, hcell⟩ := hrep.at_ hjm
      have x0 := hcell 0 (by omega)
      rw [Nat.mul_one, Nat.add_zero] at x0
      have hsucc := recs_succ hjd
      rw [hsj] at hsucc
      obtain ⟨z, hz⟩ : ∃ z, (recB ds)[j]'(by rw [hrl]; exact hjm) = z := ⟨_, rfl⟩
      have hzs : z.size = (recL ds[j]).length := by rw [← hz]; simp only [recB, List.getElem_map]; exact bstr_size _
      rw [hz] at x0
      rw [← hzs] at hsucc
      obtain ⟨zl, hzl⟩ : ∃ zl, z.size = zl := ⟨_, rfl⟩
      rw [hzl] at hsucc
      have hzlb : sj + zl ≤ L := by
        have h1 := recs_mono ds (a := j + 1) (b := ds.length) (by omega)
        rw [List.take_length, HLL.out, hsucc] at h1
        exact h1
      have hneg : decide ((j : Int) < (m : Nat)) = true := decide_eq_true (by omega)
      by_cases hlt : j < f
      · have hle : sj + zl ≤ k := by
          have := (fit_yes (ds := ds) (j := j) (k := k) (by rw [HFIT.out]; exact hlt)).2
          rw [hsucc] at this; exact this
        have HSU := Lib.hid hsucc
        have hdle : decide ((sj : Int) + (zl : Nat) ≤ (k : Nat)) = true := decide_eq_true (by omega)
        clear hcell hsucc hz hzs hrep hb hsj hrl
        go_wp2_with fail
        go_roundw
        case rel => exact ⟨j + 1, by omega, by go_num, by rw [HSU.out]; go_num, trivial⟩
        case measure => simp [intOf]; omega
      · have hjf2 : j = f := by omega
        subst hjf2
        have hnle : ¬ sj + zl ≤ k := by
          have := fit_no (ds := ds) (k := k) (by rw [HFIT.out]; exact hjd)
          rw [HFIT.out, hsucc] at this; omega
        have hdle : decide ((sj : Int) + (zl : Nat) ≤ (k : Nat)) = false := decide_eq_false (by omega)
        have hss : sj = sf := hsj.symm.trans HSF.out
        subst hss
        clear hcell hsucc hz hzs hrep hb hsj hrl
        have HQ1 := Lib.hid (sameDeals_any A8 A4 m c8 c4 _ _ vs8 vs ds wr (dealsRep (by rw [HO85.out.2.1]; exact HF5.out.n) HO85.out.1) (dealsRep (by rw [HF5.out.dl.1]; exact HF5.out.n) HF5.out.ov) HO85.out.2 HF5.out.dl (own_max HF5.out.ov))
        go_wp2_with fail
        with_reducible refine HQ1.out.mono ?_
        rintro e w6 ⟨rfl, j1, rfl⟩
        have hdn := below_drewN (Below.refl wr.heap.size wr) j1
        have HQ2 := Lib.hid (sameDeals_any A11 A4 j c11 c4 _ _ vs11 (vs.take j) (ds.take j) (wr.drewN j1) (dealsRep (by rw [HO11.out.2.1, List.length_take, ← HF.out.n]; omega) (own_below HO11.out.1 hdn)) ((dealsRep (by rw [HF5.out.dl.1]; exact HF5.out.n) (own_below HF5.out.ov hdn)).taken hfm) (HO11.out.2.below hdn) ((HF5.out.dl.below hdn).take j) (by unfold maxLen; omega))
        have HBE := Lib.hid HF5.out.be
        clear hdn
        go_wp2_with fail
        with_reducible refine HQ2.out.mono ?_
        rintro e w7 ⟨rfl, j2, rfl⟩
        go_wp2_with fail
        go_ret
        exact ⟨rfl, below_drewN HBE.out _⟩
    · have hjf2 : j = f := by omega
      have hfm2 : f = m := by omega
      subst hjf2
      have hss : sj = sf := hsj.symm.trans HSF.out
      subst hss
      clear hsj
      have hneg : decide ((j : Int) < (m : Nat)) = false := decide_eq_false (by omega)
      clear hfm2
      have HQ1 := Lib.hid (sameDeals_any A8 A4 m c8 c4 _ _ vs8 vs ds wr (dealsRep (by rw [HO85.out.2.1]; exact HF5.out.n) HO85.out.1) (dealsRep (by rw [HF5.out.dl.1]; exact HF5.out.n) HF5.out.ov) HO85.out.2 HF5.out.dl (own_max HF5.out.ov))
      go_wp2_with fail
      with_reducible refine HQ1.out.mono ?_
      rintro e w6 ⟨rfl, j1, rfl⟩
      have hdn := below_drewN (Below.refl wr.heap.size wr) j1
      have HQ2 := Lib.hid (sameDeals_any A11 A4 j c11 c4 _ _ vs11 (vs.take j) (ds.take j) (wr.drewN j1) (dealsRep (by rw [HO11.out.2.1, List.length_take, ← HF.out.n]; omega) (own_below HO11.out.1 hdn)) ((dealsRep (by rw [HF5.out.dl.1]; exact HF5.out.n) (own_below HF5.out.ov hdn)).taken hfm) (HO11.out.2.below hdn) ((HF5.out.dl.below hdn).take j) (by unfold maxLen; omega))
      have HBE := Lib.hid HF5.out.be
      clear hdn
      go_wp2_with fail
      with_reducible refine HQ2.out.mono ?_
      rintro e w7 ⟨rfl, j2, rfl⟩
      go_wp2_with fail
      go_ret
      exact ⟨rfl, below_drewN HBE.out _⟩
end Go.Proofs.YtphbebcbbfbgpabDoor

namespace Go.Proofs.YtphbebcbbfbgpabDoor
open Go Go.RowKit

theorem scan_eight : ∃ d, scanL [114, 0, 1, 0, 1, 206, 0, 116] 1 = ([d], 8) := by
  refine ⟨[], ?_⟩
  decide +kernel
end Go.Proofs.YtphbebcbbfbgpabDoor
