/- saltcellarref.KeptOf. -/
import Derived.Test.YtphbebcbbfbgpabPlainKeep
import Derived.Test.YtphbebcbbfbgpabUsed
namespace Go.Proofs.Ytphbebcbbfbgpab
open Go Go.RowKit

/-- A call hands back items of its own, an item's number, and an error's. -/
def KeepPost (w : World) (r : List Itm × Int × Int) (e : Ending) (w' : World) : Prop :=
  ∃ A c, e = .returned (.tuple #[.slice A r.1.length c, .int .i64 r.2.1, .int .i64 r.2.2]) ∧ w'.ownsRow w.heap.size 61 3 (.slice A r.1.length c) r.1.length (flat Itm.cell 3 r.1) ∧ Below w.heap.size w w'
theorem KeepPost.nil {w w' : World} {r : List Itm × Int × Int} {i k : Int} (h : r = ([], i, k)) (hb : Below w.heap.size w w') : KeepPost w r (.returned (.tuple #[.slice none 0 0, .int .i64 i, .int .i64 k])) w' := by
  subst h
  exact ⟨none, 0, rfl, World.ownsRow_nil _ _ _ _, hb⟩
theorem KeepPost.mk' {w w' : World} {A : Option Addr} {n c : Nat} {r : List Itm × Int × Int} {ls : List Itm} {i k : Int} (h : r = (ls, i, k)) (hn : n = ls.length) (ho : w'.ownsRow w.heap.size 61 3 (.slice A n c) n (flat Itm.cell 3 ls)) (hb : Below w.heap.size w w') :
    KeepPost w r (.returned (.tuple #[.slice A n c, .int .i64 i, .int .i64 k])) w' := by
  subst h hn
  exact ⟨A, c, rfl, ho, hb⟩
theorem own_slice2 {w : World} {base : Nat} {e : TypeId} {size : Nat} {v : Value} {n : Nat} {xs : List Value} (h : w.ownsRow base e size v n xs) : ∃ A cap, v = .slice A n cap := by
  obtain ⟨A, c, h, _⟩ := own_form h
  exact ⟨A, c, h⟩
theorem itm_flat1 (x : Itm) : flat Itm.cell 3 [x] = [.int .i64 x.id, .string x.data, .int .i64 x.refs] := by
  rw [flat_one]; rfl

set_option maxRecDepth 20000 in
set_option maxHeartbeats 4000000 in
theorem kept_any (A : Option Addr) (n c : Nat) (d : ByteArray) (ls : List Itm) (w : World) (h : Rep w w.heap.size 3 Itm.cell A n ls) (hn : n ≤ maxLen) (hnil : A = none → n = 0 ∧ c = 0) (hd64 : d.size ≤ maxLen) :
    Calls Try.prog 20 #[.slice A n c, .string d] w (KeepPost w (keptR ls d)) := by
  have hc : ∀ W, Below w.heap.size w W → Calls Try.prog 47 #[.slice A n c] W fun e w' => MayPost ls e ∧ Below W.heap.size W w' :=
    fun W hb => itemsMay_any A n c ls W ((h.below hb (Nat.le_refl _)).mono hb.size) hn
  have HC := Lib.hid hc
  have HREP := Lib.hid h
  have hn1 := h.1
  have HN := Lib.hid hn1
  have hd2 : d.size ≤ 9223372036854775807 := hd64
  clear hc hd64
  cases hg : goodB ls with
  | false =>
    have E1 := Lib.hid hg
    have E2 := Lib.hid (kept_bad d hg)
    clear hg h hn1
    go_enter Try.func20, Try.ntmps20
    go_wp2_with fail
    refine (HC.out _ (Below.refl _ _)).mono ?_
    rintro e w1 ⟨he, hb1⟩
    rw [MayPost, E1.out] at he
    subst he
    have HB1 := Lib.hid hb1
    clear hb1
    go_wp2
    refine bodyPost_ret (v := .tuple #[.slice none 0 0, .int .i64 0, .int .i64 7]) (by simp [results, Try.results20, go_sem]) rfl ?_
    exact KeepPost.nil E2.out HB1.out
  | true =>
    have hG := good_of_B hg
    have HG := Lib.hid hG
    have E1 := Lib.hid hg
    have h24 : n ≤ 24 := by have := hG.1; omega
    by_cases hd : d.size ≤ 48
    · have d48 : decide ((d.size : Int) > 48) = false := decide_eq_false (by omega)
      cases hix : ls.findIdx? (fun x => decide (x.data = d)) with
      | some k =>
        obtain ⟨hk, hkd, hkb⟩ := List.findIdx?_eq_some_iff_getElem.1 hix
        have hkd : ls[k].data = d := by simpa using hkd
        have hkb : ∀ j (hj : j < k), (ls[j]'(by omega)).data ≠ d := fun j hj => by simpa using hkb j hj
        have hkn : k < n := by omega
        obtain ⟨x, hx⟩ : ∃ x, ls[k] = x := ⟨_, rfl⟩
        have HX := Lib.hid hx
        have hus : ∀ W, Below w.heap.size w W → Calls Try.prog 48 #[.slice A n c, .int .i64 x.id] W (ItemsPost W (usedR ls x.id) (usedK ls x.id)) :=
          fun W hb => used_any A n c x.id ls W ((h.below hb (Nat.le_refl _)).mono hb.size) hn hnil
        have HKB := Lib.hid hkb
        have hgs := got_some hG hk (id := x.id) (by rw [hx])
        have hX : gotX ls x.id = x := by
          have e : gotR ls x.id = gotX ls x.id := by rw [gotR, if_pos hgs.1]
          rw [← e, hgs.2, hx]
        obtain ⟨u, y, hu, hy⟩ : ∃ u y, usedR ls x.id = u ∧ usedK ls x.id = y := ⟨_, _, rfl, rfl⟩
        have hrf := (hG.2.ok _ (List.getElem_mem hk)).2.2.2
        have hkey : (y = 0 ∧ keptR ls d = (u, x.id, 0)) ∨ (y = 1 ∧ u = [] ∧ keptR ls d = ([], 0, 1)) := by
          by_cases h32 : x.refs = 32
          · right
            have hy1 : y = 1 := by rw [← hy, usedK, if_pos hgs.1, hX, if_pos h32]
            exact ⟨hy1, by rw [← hu, usedR, hy, hy1]; rfl, kept_full hg hd hix hk (by rw [hx]; exact h32)⟩
          · left
            have hy0 : y = 0 := by rw [← hy, usedK, if_pos hgs.1, hX, if_neg h32]
            refine ⟨hy0, ?_⟩
            rw [kept_up hg hd hix hk (by rw [hx]; exact h32), ← hu, usedR, hy, if_pos hy0, upRefs_set hG hk (by rw [hx]), hx]
        rw [hu, hy] at hus
        have HUS := Lib.hid hus
        have HKEY := Lib.hid hkey
        have hxd : x.data = d := by rw [← hx]; exact hkd
        clear hg h hn1 hG hd hix hgs hX hu hy hus hkey hkb hkd hx hrf
        obtain ⟨xi, xd, xr⟩ := x
        dsimp only at hxd HUS HKEY
        subst hxd
        go_enter Try.func20, Try.ntmps20
        go_wp2_with fail
        refine (HC.out _ (Below.refl _ _)).mono ?_
        rintro e w1 ⟨he, hb1⟩
        rw [MayPost, E1.out] at he
        subst he
        have HB1 := Lib.hid hb1
        clear hb1
        go_wp2
        go_loopw [7] (fun t wr => ∃ i : Nat, i ≤ k ∧ t = .int .i64 i ∧ Below w.heap.size w wr) (fun t _ => n - (intOf t).toNat)
        case atStart => exact ⟨0, Nat.zero_le _, rfl, HB1.out⟩
        case round =>
          obtain ⟨i, hi, rfl, hbel⟩ := hrel
          have hin : i < n := by omega
          have hil : i < ls.length := by omega
          obtain ⟨b, off, rfl, hbb, c0, c1, c2⟩ := items_at (k := i) (HREP.out.below hbel (Nat.le_refl _)) hin
          have HB := Lib.hid hbel
          by_cases hik : i = k
          · subst hik
            rw [HX.out] at c0 c1 c2
            dsimp only at c0 c1 c2
            clear hbel hbb
            go_wp2_with fail
            refine (HUS.out _ HB.out).mono ?_
            rintro e w2 ⟨A2, k2, rfl, hown2, hb2, _, _, hn2⟩
            have HB2 := Lib.hid (HB.out.trans (hb2.mono HB.out.size))
            obtain ⟨_, _, hA, _, x0, x1, x2⟩ := items_at (k := i) (HREP.out.below HB2.out (Nat.le_refl _)) hin
            simp only [Option.some.injEq, Addr.mk.injEq, and_true] at hA
            obtain ⟨rfl, rfl⟩ := hA
            rw [HX.out] at x0 x1 x2
            dsimp only at x0 x1 x2
            have HO2 := Lib.hid (own_mono hown2 (base' := w.heap.size) HB.out.size)
            clear hb2 hown2
            rcases HKEY.out with ⟨rfl, hkr⟩ | ⟨rfl, rfl, hkr⟩
            · have HKR := Lib.hid hkr
              clear hkr
              go_wp2
              go_quiet (fail)
              go_wp2
              refine bodyPost_ret (v := .tuple #[.slice A2 u.length k2, .int .i64 xi, .int .i64 0]) (by simp [results, Try.results20, go_sem]) rfl ?_
              exact KeepPost.mk' HKR.out rfl (own_below HO2.out (below_drewN (Below.refl _ _) _)) (below_drewN HB2.out _)
            · have HKR := Lib.hid hkr
              clear hkr
              go_wp2
              refine bodyPost_ret (v := .tuple #[.slice none 0 0, .int .i64 0, .int .i64 1]) (by simp [results, Try.results20, go_sem]) rfl ?_
              exact KeepPost.nil HKR.out HB2.out
          · have hne := toList_beq_no (HKB.out i (by omega))
            obtain ⟨z, hz⟩ : ∃ z, ls[i]'hil = z := ⟨_, rfl⟩
            rw [hz] at c0 c1 c2 hne
            clear hbel hbb hz
            go_wp2
            go_roundw
            case rel => exact ⟨i + 1, by omega, by go_num, HB.out⟩
            case measure => simp [intOf]; omega
      | none =>
        have hno : ∀ x ∈ ls, x.data ≠ d := fun x hx => by
          have := List.findIdx?_eq_none_iff.1 hix x hx
          simpa using this
        obtain ⟨f, hf⟩ : ∃ f, freeIx ls = f := ⟨_, rfl⟩
        obtain ⟨hf1, hf2, _⟩ := freeIx_spec ls
        rw [hf] at hf1 hf2
        have hfn : f ≤ n := by omega
        have hno2 := free_none hG
        have hlow := free_low hG
        have hhigh := free_high hG
        rw [hf] at hno2 hlow hhigh
        have hat : ∀ (id : Nat) W, id < f → Below w.heap.size w W → Calls Try.prog 40 #[.slice A n c, .int .i64 id] W fun e w' => e = .returned (.int .i64 id) ∧ W = w' :=
          fun id W hid hb => itemAt_some A n c id id ls W ((h.below hb (Nat.le_refl _)).mono hb.size) hn (by omega) (hf2 id hid (by omega)) (fun j hj => by rw [hf2 j (by omega) (by omega)]; omega)
        have hat2 : ∀ W, Below w.heap.size w W → Calls Try.prog 40 #[.slice A n c, .int .i64 f] W fun e w' => e = .returned (.int .i64 (-1)) ∧ W = w' :=
          fun W hb => itemAt_none A n c f ls W ((h.below hb (Nat.le_refl _)).mono hb.size) hn hno2
        have hres : (f < 24 ∧ keptR ls d = (ls.take f ++ [⟨f, d, 1⟩] ++ ls.drop f, (f : Int), 0)) ∨ (¬ f < 24 ∧ keptR ls d = ([], 0, 1)) := by
          by_cases h24f : f < 24
          · left
            refine ⟨h24f, ?_⟩
            rw [kept_new hg hd hix (by rw [hf]; exact h24f), hf]
          · right
            exact ⟨h24f, kept_no hg hd hix (by rw [hf]; exact h24f)⟩
        have HNO := Lib.hid hno
        have HAT := Lib.hid hat
        have HAT2 := Lib.hid hat2
        have HLOW := Lib.hid hlow
        have HHIGH := Lib.hid hhigh
        have HRES := Lib.hid hres
        obtain ⟨i0, hi, hz0, hz1, hz2⟩ := info_parts infoItem
        have HI := Lib.hid hi
        have HZ0 := Lib.hid hz0
        have HZ1 := Lib.hid hz1
        have HZ2 := Lib.hid hz2
        clear hg h hn1 hG hd hix hno hf hf1 hf2 hno2 hlow hhigh hat hat2 hres hi hz0 hz1 hz2
        go_enter Try.func20, Try.ntmps20
        go_wp2_with fail
        refine (HC.out _ (Below.refl _ _)).mono ?_
        rintro e w1 ⟨he, hb1⟩
        rw [MayPost, E1.out] at he
        subst he
        have HB1 := Lib.hid hb1
        clear hb1
        go_wp2
        go_loopw [7] (fun t wr => ∃ i : Nat, i ≤ n ∧ t = .int .i64 i ∧ Below w.heap.size w wr) (fun t _ => n - (intOf t).toNat)
        case atStart => exact ⟨0, Nat.zero_le _, rfl, HB1.out⟩
        case round =>
          obtain ⟨i, hi, rfl, hbel⟩ := hrel
          have HB := Lib.hid hbel
          by_cases hin : i < n
          · have hil : i < ls.length := by have := HN.out; omega
            obtain ⟨b, off, rfl, hbb, c0, c1, c2⟩ := items_at (k := i) (HREP.out.below hbel (Nat.le_refl _)) hin
            have hne := toList_beq_no (HNO.out _ (List.getElem_mem hil))
            obtain ⟨z, hz⟩ : ∃ z, ls[i]'hil = z := ⟨_, rfl⟩
            rw [hz] at c0 c1 c2 hne
            clear hbel hbb hz
            go_wp2
            go_roundw
            case rel => exact ⟨i + 1, by omega, by go_num, HB.out⟩
            case measure => simp [intOf]; omega
          · obtain ⟨wo, rfl⟩ : ∃ wo, wo = wr := ⟨_, rfl⟩
            clear hbel
            go_wp2
            go_loopw [10] (fun t wr => ∃ i : Nat, i ≤ f ∧ t = .int .i64 i ∧ Below w.heap.size w wr) (fun t _ => f - (intOf t).toNat)
            case atStart => exact ⟨0, Nat.zero_le _, rfl, HB.out⟩
            case round =>
              obtain ⟨j, hj, rfl, hbel⟩ := hrel
              have HBJ := Lib.hid hbel
              clear hbel
              by_cases hjf : j < f
              · have dj : decide ((j : Int) ≥ 0) = true := decide_eq_true (by omega)
                go_wp2_with (go_at_call 40; (with_reducible refine (HAT.out j _ hjf HBJ.out).mono ?_); rintro e w' ⟨rfl, rfl⟩)
                go_roundw
                case rel => exact ⟨j + 1, by omega, by go_num, HBJ.out⟩
                case measure => simp [intOf]; omega
              · obtain rfl : j = f := by omega
                rcases HRES.out with ⟨h24f, hkr⟩ | ⟨h24f, hkr⟩
                · have HKR := Lib.hid hkr
                  have d23 : decide ((j : Int) > 23) = false := decide_eq_false (by omega)
                  clear hkr
                  go_wp2_with (go_at_call 40; (with_reducible refine (HAT2.out _ HBJ.out).mono ?_); rintro e w' ⟨rfl, rfl⟩)
                  obtain ⟨w5, rfl⟩ : ∃ w5, w5 = wr := ⟨_, rfl⟩
                  go_loopw [11, 12] (fun v t wr => ∃ (i : Nat) (out : List Itm), i ≤ n ∧ out.length ≤ i ∧ t = .int .i64 i ∧ wr.ownsRow w.heap.size 61 3 v out.length (flat Itm.cell 3 out) ∧ Below w.heap.size w wr ∧ Hid (out = (ls.take i).filter (fun x => decide (x.id < (j : Int))))) (fun _ t _ => n - (intOf t).toNat)
                  case atStart => exact ⟨0, [], Nat.zero_le _, Nat.le_refl _, rfl, World.ownsRow_nil _ _ _ _, HBJ.out, Lib.hid (by rw [List.take_zero]; rfl)⟩
                  case round =>
                    obtain ⟨i, out, hi, hol, rfl, hown, hbel, hout⟩ := hrel
                    have HO := Lib.hid hown
                    have HB := Lib.hid hbel
                    by_cases hin : i < n
                    · have hil : i < ls.length := by have := HN.out; omega
                      obtain ⟨b, off, rfl, hbb, c0, c1, c2⟩ := items_at (k := i) (HREP.out.below hbel (Nat.le_refl _)) hin
                      have hstep : (ls.take (i + 1)).filter (fun x => decide (x.id < (j : Int))) = (ls.take i).filter (fun x => decide (x.id < (j : Int))) ++ [ls[i]].filter (fun x => decide (x.id < (j : Int))) := by rw [take_snoc ls i hil, List.filter_append]
                      obtain ⟨x, hx⟩ : ∃ x, ls[i]'hil = x := ⟨_, rfl⟩
                      rw [hx] at c0 c1 c2 hstep
                      obtain ⟨xi, xd, xr⟩ := x
                      dsimp only at c0 c1 c2
                      have HSTEP := Lib.hid hstep
                      have HLT := Lib.hid (fun k hk => (HO.out.lt k hk).1)
                      clear hx hown hbel hbb hstep
                      by_cases hid : xi < (j : Int)
                      · have d1 := decide_eq_true hid
                        have hnew : (ls.take (i + 1)).filter (fun x => decide (x.id < (j : Int))) = out ++ [⟨xi, xd, xr⟩] := by
                          rw [HSTEP.out, List.filter_cons_of_pos (by simpa using hid), List.filter_nil, hout.out]
                        have HNEW := Lib.hid hnew
                        have HID := Lib.hid hid
                        clear hid hnew
                        go_wp2_with (at_builtin; refine wpList_append_own _ rfl (.tmp 73) (.tmp 78) 22 rfl w.heap.size 61 i0 _ 3 32 Try.underlying22 HI.out HZ0.out HZ1.out HZ2.out rfl (by decide) _ _ _ rfl (HO.out.alloc _) ⟨wr.heap.size, 0, none⟩ 1 1 [.int .i64 xi, .string xd, .int .i64 xr] rfl rfl (World.news_of_block (cs := #[.int .i64 xi, .string xd, .int .i64 xr]) (t := 61) (fr := (0, 0)) (heap_alloc_new wr _)) (by simp [Value.oneCell']) (by unfold maxLen; omega) (by omega) (by have := HB.out.size; simp; omega) ?_; intro v' w2 hown2 hgr2 _)
                        have HB2 := Lib.hid ((HB.out.alloc HB.out.size _).grown hgr2 (by have := HB.out.size; simp; omega) HLT.out)
                        have ho2 : w2.ownsRow w.heap.size 61 3 v' (out ++ [(⟨xi, xd, xr⟩ : Itm)]).length (flat Itm.cell 3 (out ++ [⟨xi, xd, xr⟩])) := by
                          rw [flat_append, itm_flat1, List.length_append]; exact hown2
                        clear hgr2 hown2
                        go_wp2
                        go_roundw
                        case rel => exact ⟨i + 1, _, by omega, by rw [List.length_append]; simp; omega, by go_num, ho2, HB2.out, Lib.hid HNEW.out.symm⟩
                        case measure => simp [intOf]; omega
                      · have d1 := decide_eq_false hid
                        have hnew : (ls.take (i + 1)).filter (fun x => decide (x.id < (j : Int))) = out := by
                          rw [HSTEP.out, List.filter_cons_of_neg (by simpa using hid), List.filter_nil, List.append_nil, hout.out]
                        have HNEW := Lib.hid hnew
                        have HID := Lib.hid hid
                        clear hid hnew
                        go_wp2
                        go_roundw
                        case rel => exact ⟨i + 1, _, by omega, by omega, by go_num, HO.out, HB.out, Lib.hid HNEW.out.symm⟩
                        case measure => simp [intOf]; omega
                    · have hfin : out = ls.take j := by rw [hout.out, List.take_of_length_le (by have := HN.out; omega)]; exact HLOW.out
                      have hol2 : out.length ≤ 24 := by omega
                      have HFIN := Lib.hid hfin
                      have HLT := Lib.hid (fun k hk => (HO.out.lt k hk).1)
                      clear hfin hown hbel hout
                      go_wp2_with (at_builtin; refine wpList_append_own _ rfl (.tmp 80) (.tmp 84) 22 rfl w.heap.size 61 i0 _ 3 32 Try.underlying22 HI.out HZ0.out HZ1.out HZ2.out rfl (by decide) _ _ _ rfl (HO.out.alloc _) ⟨wr.heap.size, 0, none⟩ 1 1 [.int .i64 j, .string d, .int .i64 1] rfl rfl (World.news_of_block (cs := #[.int .i64 j, .string d, .int .i64 1]) (t := 61) (fr := (0, 0)) (heap_alloc_new wr _)) (by simp [Value.oneCell']) (by unfold maxLen; omega) (by omega) (by have := HB.out.size; simp; omega) ?_; intro v' w2 hown2 hgr2 _)
                      have HB2 := Lib.hid ((HB.out.alloc HB.out.size _).grown hgr2 (by have := HB.out.size; simp; omega) HLT.out)
                      have ho2 : w2.ownsRow w.heap.size 61 3 v' (out ++ [(⟨j, d, 1⟩ : Itm)]).length (flat Itm.cell 3 (out ++ [⟨j, d, 1⟩])) := by
                        rw [flat_append, itm_flat1, List.length_append]; exact hown2
                      rw [HFIN.out] at ho2
                      have HO2 := Lib.hid ho2
                      have hlen2 : (ls.take j ++ [(⟨j, d, 1⟩ : Itm)]).length ≤ 25 := by rw [List.length_append, ← HFIN.out]; simp; omega
                      clear hgr2 hown2 ho2
                      obtain ⟨w6, rfl⟩ : ∃ w6, w6 = wr := ⟨_, rfl⟩
                      obtain ⟨pr, hpr⟩ : ∃ pr, ls.take j ++ [(⟨j, d, 1⟩ : Itm)] = pr := ⟨_, rfl⟩
                      rw [hpr] at hlen2
                      have HPR := Lib.hid hpr
                      have HO3 : Hid (w2.ownsRow w.heap.size 61 3 v' pr.length (flat Itm.cell 3 pr)) := Lib.hid (by rw [← hpr]; exact HO2.out)
                      clear hpr HO2
                      go_loopw [11, 13] (fun v t wr => ∃ (i : Nat) (out : List Itm), i ≤ n ∧ out.length ≤ i + 25 ∧ t = .int .i64 i ∧ wr.ownsRow w.heap.size 61 3 v out.length (flat Itm.cell 3 out) ∧ Below w.heap.size w wr ∧ Hid (out = pr ++ (ls.take i).filter (fun x => decide (x.id > (j : Int))))) (fun _ t _ => n - (intOf t).toNat)
                      case atStart => exact ⟨0, pr, Nat.zero_le _, by omega, rfl, HO3.out, HB2.out, Lib.hid (by rw [List.take_zero, List.filter_nil, List.append_nil])⟩
                      case round =>
                        obtain ⟨i, out, hi, hol, rfl, hown, hbel, hout⟩ := hrel
                        have HO := Lib.hid hown
                        have HB := Lib.hid hbel
                        by_cases hin : i < n
                        · have hil : i < ls.length := by have := HN.out; omega
                          obtain ⟨b, off, rfl, hbb, c0, c1, c2⟩ := items_at (k := i) (HREP.out.below hbel (Nat.le_refl _)) hin
                          have hstep : (ls.take (i + 1)).filter (fun x => decide (x.id > (j : Int))) = (ls.take i).filter (fun x => decide (x.id > (j : Int))) ++ [ls[i]].filter (fun x => decide (x.id > (j : Int))) := by rw [take_snoc ls i hil, List.filter_append]
                          obtain ⟨x, hx⟩ : ∃ x, ls[i]'hil = x := ⟨_, rfl⟩
                          rw [hx] at c0 c1 c2 hstep
                          obtain ⟨xi, xd, xr⟩ := x
                          dsimp only at c0 c1 c2
                          have HSTEP := Lib.hid hstep
                          have HLT := Lib.hid (fun k hk => (HO.out.lt k hk).1)
                          clear hx hown hbel hbb hstep
                          by_cases hid : xi > (j : Int)
                          · have d1 := decide_eq_true hid
                            have hnew : pr ++ (ls.take (i + 1)).filter (fun x => decide (x.id > (j : Int))) = out ++ [⟨xi, xd, xr⟩] := by
                              rw [HSTEP.out, List.filter_cons_of_pos (by simpa using hid), List.filter_nil, hout.out, List.append_assoc]
                            have HNEW := Lib.hid hnew
                            have HID := Lib.hid hid
                            clear hid hnew
                            go_wp2_with (at_builtin; refine wpList_append_own _ rfl (.tmp 99) (.tmp 104) 22 rfl w.heap.size 61 i0 _ 3 32 Try.underlying22 HI.out HZ0.out HZ1.out HZ2.out rfl (by decide) _ _ _ rfl (HO.out.alloc _) ⟨wr.heap.size, 0, none⟩ 1 1 [.int .i64 xi, .string xd, .int .i64 xr] rfl rfl (World.news_of_block (cs := #[.int .i64 xi, .string xd, .int .i64 xr]) (t := 61) (fr := (0, 0)) (heap_alloc_new wr _)) (by simp [Value.oneCell']) (by unfold maxLen; omega) (by omega) (by have := HB.out.size; simp; omega) ?_; intro v' w2 hown2 hgr2 _)
                            have HB2 := Lib.hid ((HB.out.alloc HB.out.size _).grown hgr2 (by have := HB.out.size; simp; omega) HLT.out)
                            have ho2 : w2.ownsRow w.heap.size 61 3 v' (out ++ [(⟨xi, xd, xr⟩ : Itm)]).length (flat Itm.cell 3 (out ++ [⟨xi, xd, xr⟩])) := by
                              rw [flat_append, itm_flat1, List.length_append]; exact hown2
                            clear hgr2 hown2
                            go_wp2
                            go_roundw
                            case rel => exact ⟨i + 1, _, by omega, by rw [List.length_append]; simp; omega, by go_num, ho2, HB2.out, Lib.hid HNEW.out.symm⟩
                            case measure => simp [intOf]; omega
                          · have d1 := decide_eq_false hid
                            have hnew : pr ++ (ls.take (i + 1)).filter (fun x => decide (x.id > (j : Int))) = out := by
                              rw [HSTEP.out, List.filter_cons_of_neg (by simpa using hid), List.filter_nil, List.append_nil, hout.out]
                            have HNEW := Lib.hid hnew
                            have HID := Lib.hid hid
                            clear hid hnew
                            go_wp2
                            go_roundw
                            case rel => exact ⟨i + 1, _, by omega, by omega, by go_num, HO.out, HB.out, Lib.hid HNEW.out.symm⟩
                            case measure => simp [intOf]; omega
                        · have hfin : keptR ls d = (out, (j : Int), 0) := by
                            have e : (ls.take i).filter (fun x => decide (x.id > (j : Int))) = ls.drop j := by rw [List.take_of_length_le (by have := HN.out; omega)]; exact HHIGH.out
                            rw [HKR.out, hout.out, e, ← HPR.out]
                          have HFIN := Lib.hid hfin
                          obtain ⟨A5, c5, rfl⟩ := own_slice2 hown
                          clear hfin hown hbel hout
                          go_wp2
                          refine bodyPost_ret (v := .tuple #[.slice A5 out.length c5, .int .i64 j, .int .i64 0]) (by simp [results, Try.results20, go_sem]) rfl ?_
                          exact KeepPost.mk' HFIN.out rfl HO.out HB.out
                · have HKR := Lib.hid hkr
                  have d23 : decide ((j : Int) > 23) = true := decide_eq_true (by omega)
                  clear hkr
                  go_wp2_with (go_at_call 40; (with_reducible refine (HAT2.out _ HBJ.out).mono ?_); rintro e w' ⟨rfl, rfl⟩)
                  refine bodyPost_ret (v := .tuple #[.slice none 0 0, .int .i64 0, .int .i64 1]) (by simp [results, Try.results20, go_sem]) rfl ?_
                  exact KeepPost.nil HKR.out HBJ.out
    · have d48 : decide ((d.size : Int) > 48) = true := decide_eq_true (by omega)
      have E2 := Lib.hid (kept_long hg hd)
      clear hg h hn1 hG hd
      go_enter Try.func20, Try.ntmps20
      go_wp2_with fail
      refine (HC.out _ (Below.refl _ _)).mono ?_
      rintro e w1 ⟨he, hb1⟩
      rw [MayPost, E1.out] at he
      subst he
      have HB1 := Lib.hid hb1
      clear hb1
      go_wp2
      refine bodyPost_ret (v := .tuple #[.slice none 0 0, .int .i64 0, .int .i64 1]) (by simp [results, Try.results20, go_sem]) rfl ?_
      exact KeepPost.nil E2.out HB1.out
end Go.Proofs.Ytphbebcbbfbgpab
