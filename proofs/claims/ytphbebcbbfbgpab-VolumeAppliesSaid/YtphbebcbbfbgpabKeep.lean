/- repo.Keep. -/
import Derived.Test.YtphbebcbbfbgpabKept
import Derived.Test.YtphbebcbbfbgpabInsertRoom
namespace Go.Proofs.Ytphbebcbbfbgpab
open Go Go.RowKit

theorem insert_any (v0 : Value) (n i b base : Nat) (ls : List Itm) (x : Itm) (w : World) (h : w.ownsRow base 61 3 v0 n (flat Itm.cell 3 ls)) (hn : n = ls.length) (h24 : n ≤ 24) (hi : i ≤ n) (hbase : base ≤ w.heap.size)
    (hgb : ∀ g cap, v0 = .slice (some ⟨g, 0, none⟩) n cap → g ≠ b) (hb : w.heap[b]? = some (.cells #[.int .i64 x.id, .string x.data, .int .i64 x.refs] 61 (0, 0))) :
    Calls Try.prog 46 #[v0, .int .i64 i, .slice (some ⟨b, 0, none⟩) 1 1] w fun e w' =>
      ∃ A c, e = .returned (.slice A (n + 1) c) ∧ w'.ownsRow base 61 3 (.slice A (n + 1) c) (n + 1) (flat Itm.cell 3 (ls.take i ++ [x] ++ ls.drop i)) ∧ Below base w w' := by
  by_cases hin : i = n
  · subst hin
    refine (insert_last v0 i b base ls x w h hn h24 hbase hb).mono ?_
    rintro e w' ⟨A, c, he, ho, hbe⟩
    refine ⟨A, c, he, ?_, hbe⟩
    rw [List.take_of_length_le (by omega), List.drop_of_length_le (by omega), List.append_nil]
    exact ho
  · have hlt : i < n := by omega
    obtain ⟨g, cap, rfl, _, _⟩ := h.form (by omega)
    have hnc : n ≤ cap := by
      obtain ⟨_, _, he, hle, _⟩ := own_form h
      simp only [Value.slice.injEq] at he
      obtain ⟨_, _, rfl⟩ := he
      exact hle
    by_cases hc : cap < n + 1
    · exact insert_grow g n cap i b base ls x w h hn h24 hlt hc hnc hbase hb
    · exact insert_room g n cap i b base ls x w h hn h24 hlt (by omega) hbase (hgb g cap rfl) hb

structure StrBox (w : World) (d : ByteArray) (W : World) : Prop where
  a0 : W.cell? ⟨w.heap.size, 0, none⟩ = some (.string d)
  sz : w.heap.size < W.heap.size
  be : Below w.heap.size w W
theorem StrBox.step {w W W' : World} {d : ByteArray} (h : StrBox w d W) (hb : Below W.heap.size W W') : StrBox w d W' where
  a0 := (hb.cell h.sz).trans h.a0
  sz := Nat.lt_of_lt_of_le h.sz hb.size
  be := h.be.trans (hb.mono h.be.size)
theorem own_len {w : World} {base : Nat} {e : TypeId} {v : Value} {n : Nat} {xs : List Value} (h : w.ownsRow base e 3 v n xs) : xs.length = n * 3 := h.1

set_option maxRecDepth 20000 in
set_option maxHeartbeats 4000000 in
theorem keep_any (A : Option Addr) (n c : Nat) (d : ByteArray) (ls : List Itm) (w : World) (h : Rep w w.heap.size 3 Itm.cell A n ls) (hn : n ≤ maxLen) (hnil : A = none → n = 0 ∧ c = 0) (hd64 : d.size ≤ maxLen) :
    Calls Try.prog 19 #[.slice A n c, .string d] w (KeepPost w (keptR ls d)) := by
  have hmf : ∀ (fn : Fn) (first cap : Array Value) (w : World), (Instr.makeFunc fn first cap).run Try.prog w = .ok (.func fn first cap) w := fun _ _ _ _ => rfl
  have hc : ∀ W, Below w.heap.size w W → Calls Try.prog 43 #[.slice A n c] W fun e w' => CheckPost ls e ∧ Below W.heap.size W w' :=
    fun W hb => check_any A n c ls W ((h.below hb (Nat.le_refl _)).mono hb.size) hn
  have HC := Lib.hid hc
  have HREP := Lib.hid h
  have hn1 := h.1
  have HN := Lib.hid hn1
  have hd2 : d.size ≤ 9223372036854775807 := hd64
  have hbx : StrBox w d (w.alloc (.cells #[.string d] 9)) := by
    refine ⟨by simp [go_sem], by simp, (Below.refl _ _).alloc (Nat.le_refl _) _⟩
  have HBX := Lib.hid hbx
  clear hc hd64 hbx
  cases hg : goodB ls with
  | false =>
    have E1 := Lib.hid (show goodN ls = 7 by rw [goodN_eq, hg]; rfl)
    have E2 := Lib.hid (kept_bad d hg)
    clear hg h hn1
    go_enter Try.func19, Try.ntmps19
    go_wp2_with fail
    refine (HC.out _ HBX.out.be).mono ?_
    rintro e w1 ⟨he, hb1⟩
    rw [CheckPost, E1.out] at he
    subst he
    have HB1 := Lib.hid (HBX.out.step hb1).be
    clear hb1
    go_wp2
    refine bodyPost_ret (v := .tuple #[.slice none 0 0, .int .i64 0, .int .i64 7]) (by simp [results, Try.results19, go_sem]) rfl ?_
    exact KeepPost.nil E2.out HB1.out
  | true =>
    have hG := good_of_B hg
    have HG := Lib.hid hG
    have E1 := Lib.hid (show goodN ls = 0 by rw [goodN_eq, hg]; rfl)
    have h24 : n ≤ 24 := by have := hG.1; omega
    by_cases hd : d.size ≤ 48
    · have d48 : decide ((d.size : Int) > 48) = false := decide_eq_false (by omega)
      have hcl : ∀ W, Below w.heap.size w W → Calls Try.prog 33 #[.slice A n c] W (OwnPost W 61 3 n (flat Itm.cell 3 ls)) :=
        fun W hb => cloneItems A n c ls W ((h.below hb (Nat.le_refl _)).mono hb.size) hnil (by omega)
      have HCL := Lib.hid hcl
      have hix : ∀ (A1 : Option Addr) (c1 : Nat) (W : World), Rep W W.heap.size 3 Itm.cell A1 n ls → StrBox w d W → Calls Try.prog 44 #[.slice A1 n c1, .func (.func 45) #[] #[.pointer (some ⟨w.heap.size, 0, none⟩)]] W
          fun e w' => e = .returned (.int .i64 (firstIx (fun x => decide (x.data = d)) ls)) ∧ Below W.heap.size W w' :=
        fun A1 c1 W hr hbx => index_any 45 #[.pointer (some ⟨w.heap.size, 0, none⟩)] (fun x => decide (x.data = d)) A1 n c1 ls W hr h24 (enters_of Try.func45 rfl rfl)
          (fun x _ W' hb' => keep1_any x d w.heap.size W' (hbx.step hb').a0 (hbx.step hb').sz)
      have HIX := Lib.hid hix
      cases hfx : ls.findIdx? (fun x => decide (x.data = d)) with
      | some k =>
        have hfi : firstIx (fun x => decide (x.data = d)) ls = k := by rw [firstIx, hfx]
        rw [hfi] at hix
        have HIX2 := Lib.hid hix
        obtain ⟨hk, hkd, _⟩ := List.findIdx?_eq_some_iff_getElem.1 hfx
        have hkn : k < n := by omega
        have hfs := flat_set ls k hk (ls[k].refs + 1)
        have hrf := (hG.2.ok _ (List.getElem_mem hk)).2.2.2
        have hup : ls[k].refs ≠ 32 → keptR ls d = (ls.set k { ls[k] with refs := ls[k].refs + 1 }, ls[k].id, 0) := kept_up hg hd hfx hk
        have hfull : ls[k].refs = 32 → keptR ls d = ([], 0, 1) := kept_full hg hd hfx hk
        obtain ⟨x, hx⟩ : ∃ x, ls[k] = x := ⟨_, rfl⟩
        rw [hx] at hfs hrf hup hfull
        have HX := Lib.hid hx
        have HFS := Lib.hid hfs
        have HUP := Lib.hid hup
        have HFULL := Lib.hid hfull
        have hk0 : decide ((k : Int) ≥ 0) = true := decide_eq_true (by omega)
        clear hg h hn1 hG hd hfx hx hfs hup hfull hcl hix hfi hkd HIX hnil
        obtain ⟨xi, xd, xr⟩ := x
        dsimp only at hrf HFS HUP HFULL
        go_enter Try.func19, Try.ntmps19
        go_wp2_with fail
        refine (HC.out _ HBX.out.be).mono ?_
        rintro e w1 ⟨he, hb1⟩
        rw [CheckPost, E1.out] at he
        subst he
        have HB1 := Lib.hid (HBX.out.step hb1)
        have a1 := HB1.out.a0
        clear hb1
        go_wp2_with fail
        refine (HCL.out _ HB1.out.be).mono ?_
        rintro e w2 ⟨A1, c1, rfl, hown, hb2, _, _, hn2⟩
        have HB2 := Lib.hid (HB1.out.step hb2)
        have hrep := Rep.of_own HN.out hown (Nat.le_refl _)
        have HR2 := Lib.hid hrep
        have HO2 := Lib.hid (own_mono hown (base' := w.heap.size) HB1.out.be.size)
        clear hb2 hown hrep a1
        go_wp2_with fail
        refine (HIX2.out A1 c1 _ HR2.out HB2.out).mono ?_
        rintro e w3 ⟨rfl, hb3⟩
        obtain ⟨g, cap, hA, _, _⟩ := HO2.out.form (by omega)
        simp only [Value.slice.injEq] at hA
        obtain ⟨rfl, _, rfl⟩ := hA
        have hown3 := own_below HO2.out hb3
        have z2 := hown3.frozenAt (k * 3 + 2)
        obtain ⟨hbs, x0, x1, x2⟩ := items_of (k := k) (HR2.out.below hb3 (Nat.le_refl _)) hkn
        rw [HX.out] at x0 x1 x2
        have x2' : w3.cell? ⟨g, k * 3 + 2, none⟩ = some (.int .i64 xr) := by rw [← x2, Nat.zero_add]
        have x0' : w3.cell? ⟨g, k * 3, none⟩ = some (.int .i64 xi) := by rw [← x0, Nat.zero_add]
        have HB3 := Lib.hid (HB2.out.step hb3).be
        have hst := hown3.stored (k * 3 + 2) (.int .i64 (xr + 1))
        rw [HFS.out] at hst
        have HST := Lib.hid hst
        have HLO := Lib.hid (HO2.out.lt g rfl).1
        clear hb3 hown3 x0 x1 hst
        by_cases h32 : xr = 32
        · have d32 : (xr == 32) = true := by simp [h32]
          have HKR := Lib.hid (HFULL.out h32)
          clear h32
          go_wp2
          refine bodyPost_ret (v := .tuple #[.slice none 0 0, .int .i64 0, .int .i64 1]) (by simp [results, Try.results19, go_sem]) rfl ?_
          exact KeepPost.nil HKR.out HB3.out
        · have d32 : (xr == 32) = false := by simp [h32]
          have HKR := Lib.hid (HUP.out h32)
          clear h32
          go_wp2
          go_quiet (fail)
          go_wp2
          refine bodyPost_ret (v := .tuple #[.slice (some ⟨g, 0, none⟩) n c1, .int .i64 xi, .int .i64 0]) (by simp [results, Try.results19, go_sem]) rfl ?_
          exact KeepPost.mk' HKR.out (by rw [List.length_set]; exact HN.out) (own_below HST.out.1 (below_drewN (Below.refl _ _) _)) (below_drewN (HB3.out.grown HST.out.2 HB3.out.size (by intro j hj; cases hj; exact HLO.out)) _)
      | none =>
        have hfi : firstIx (fun x => decide (x.data = d)) ls = -1 := by rw [firstIx, hfx]
        rw [hfi] at hix
        have HIX2 := Lib.hid hix
        obtain ⟨hf1, hf2, hf3⟩ := freeIx_spec ls
        have hnew : freeIx ls < 24 → keptR ls d = (ls.take (freeIx ls) ++ [⟨freeIx ls, d, 1⟩] ++ ls.drop (freeIx ls), ((freeIx ls : Nat) : Int), 0) := kept_new hg hd hfx
        have hno : ¬ freeIx ls < 24 → keptR ls d = ([], 0, 1) := kept_no hg hd hfx
        obtain ⟨f, hf⟩ : ∃ f, freeIx ls = f := ⟨_, rfl⟩
        rw [hf] at hf1 hf2 hnew hno
        have hf3' : ∀ h : f < ls.length, ls[f].id ≠ (f : Int) := by subst hf; exact hf3
        have hfn : f ≤ n := by omega
        have HF2 := Lib.hid hf2
        have HF3 := Lib.hid hf3'
        have HNEW := Lib.hid hnew
        have HNO := Lib.hid hno
        have dm1 : decide ((-1 : Int) ≥ 0) = false := rfl
        clear hg h hn1 hG hd hfx hcl hix hfi HIX hnil hf1 hf2 hf3 hf3' hnew hno hf
        go_enter Try.func19, Try.ntmps19
        go_wp2_with fail
        refine (HC.out _ HBX.out.be).mono ?_
        rintro e w1 ⟨he, hb1⟩
        rw [CheckPost, E1.out] at he
        subst he
        have HB1 := Lib.hid (HBX.out.step hb1)
        have a1 := HB1.out.a0
        clear hb1
        go_wp2_with fail
        refine (HCL.out _ HB1.out.be).mono ?_
        rintro e w2 ⟨A1, c1, rfl, hown, hb2, _, _, hn2⟩
        have HB2 := Lib.hid (HB1.out.step hb2)
        have hrep := Rep.of_own HN.out hown (Nat.le_refl _)
        have HR2 := Lib.hid hrep
        have HO2 := Lib.hid (own_mono hown (base' := w.heap.size) HB1.out.be.size)
        have HLT2 := Lib.hid (fun g hg => (hown.lt g hg).2)
        clear hb2 hown hrep a1
        go_wp2_with fail
        refine (HIX2.out A1 c1 _ HR2.out HB2.out).mono ?_
        rintro e w3 ⟨rfl, hb3⟩
        have HB3 := Lib.hid (HB2.out.step hb3)
        have HR3 := Lib.hid (HR2.out.below hb3 (Nat.le_refl _))
        have HO3 := Lib.hid (own_below HO2.out hb3)
        clear hb3
        go_wp2
        go_loop [10] (fun t => ∃ j : Nat, j ≤ f ∧ t = .int .i64 j) (fun t => f - (intOf t).toNat)
        case atStart => exact ⟨0, Nat.zero_le _, rfl⟩
        case round =>
          obtain ⟨j, hj, rfl⟩ := hrel
          by_cases hjf : j < f
          · have hjl : j < ls.length := by have := HN.out; omega
            obtain ⟨b, off, rfl, _, c0, _, _⟩ := items_at (k := j) HR3.out (by omega)
            rw [HF2.out j hjf hjl] at c0
            have dl : decide ((j : Int) < (n : Int)) = true := decide_eq_true (by omega)
            go_wp2
            go_round
            case rel => exact ⟨j + 1, by omega, by go_num⟩
            case measure => simp [intOf]; omega
          · obtain rfl : j = f := by omega
            have hins : ∀ W : World, W.ownsRow w.heap.size 61 3 (.slice A1 n c1) n (flat Itm.cell 3 ls) → w.heap.size ≤ W.heap.size → (∀ g cap, (Value.slice A1 n c1) = .slice (some ⟨g, 0, none⟩) n cap → g ≠ W.heap.size) →
                Calls Try.prog 46 #[.slice A1 n c1, .int .i64 j, .slice (some ⟨W.heap.size, 0, none⟩) 1 1] (W.alloc (.cells #[.int .i64 j, .string d, .int .i64 1] 61)) fun e w' =>
                  ∃ A c, e = .returned (.slice A (n + 1) c) ∧ w'.ownsRow w.heap.size 61 3 (.slice A (n + 1) c) (n + 1) (flat Itm.cell 3 (ls.take j ++ [⟨j, d, 1⟩] ++ ls.drop j)) ∧ Below w.heap.size (W.alloc (.cells #[.int .i64 j, .string d, .int .i64 1] 61)) w' :=
              fun W ho hb hne => insert_any _ n j W.heap.size w.heap.size ls ⟨j, d, 1⟩ _ (ho.alloc _) HN.out h24 hfn (by simp; omega) hne (heap_alloc_new W _)
            have HINS := Lib.hid hins
            clear hins
            have a3 := HB3.out.a0
            have hne2 : ∀ (W : World), w3.heap.size ≤ W.heap.size → ∀ g cap, (Value.slice A1 n c1) = .slice (some ⟨g, 0, none⟩) n cap → g ≠ W.heap.size := by
              intro W hW g cap e1 e2
              have := (HO3.out.lt g (by rw [e1]; rfl)).2
              omega
            have HNE2 := Lib.hid hne2
            clear hne2
            by_cases h24f : j < 24
            · have HKR := Lib.hid (HNEW.out h24f)
              have d24 : ((j : Int) == 24) = false := by rw [beq_eq_false_iff_ne]; omega
              by_cases hjn : j < n
              · have hjl : j < ls.length := by have := HN.out; omega
                obtain ⟨b, off, rfl, _, c0, _, _⟩ := items_at (k := j) HR3.out hjn
                have hne := HF3.out hjl
                obtain ⟨y, hy⟩ : ∃ y, (ls[j]'hjl).id = y := ⟨_, rfl⟩
                rw [hy] at c0 hne
                have dn : (y == (j : Int)) = false := by rw [beq_eq_false_iff_ne]; exact hne
                have dl : decide ((j : Int) < (n : Int)) = true := decide_eq_true (by omega)
                clear hy hne
                go_wp2_with fail
                refine (HINS.out w3 HO3.out HB3.out.be.size (HNE2.out w3 (Nat.le_refl _))).mono ?_
                rintro e w4 ⟨A4, c4, rfl, hown4, hb4⟩
                have HO4 := Lib.hid hown4
                have HB4 := Lib.hid ((HB3.out.be.alloc HB3.out.be.size _).trans hb4)
                clear hown4 hb4
                go_wp2
                refine bodyPost_ret (v := .tuple #[.slice A4 (n + 1) c4, .int .i64 j, .int .i64 0]) (by simp [results, Try.results19, go_sem]) rfl ?_
                exact KeepPost.mk' HKR.out (by rw [List.length_append, List.length_append, List.length_take, List.length_drop, List.length_singleton]; have := HN.out; omega) HO4.out HB4.out
              · have dl : decide ((j : Int) < (n : Int)) = false := decide_eq_false (by omega)
                go_wp2_with fail
                refine (HINS.out w3 HO3.out HB3.out.be.size (HNE2.out w3 (Nat.le_refl _))).mono ?_
                rintro e w4 ⟨A4, c4, rfl, hown4, hb4⟩
                have HO4 := Lib.hid hown4
                have HB4 := Lib.hid ((HB3.out.be.alloc HB3.out.be.size _).trans hb4)
                clear hown4 hb4
                go_wp2
                refine bodyPost_ret (v := .tuple #[.slice A4 (n + 1) c4, .int .i64 j, .int .i64 0]) (by simp [results, Try.results19, go_sem]) rfl ?_
                exact KeepPost.mk' HKR.out (by rw [List.length_append, List.length_append, List.length_take, List.length_drop, List.length_singleton]; have := HN.out; omega) HO4.out HB4.out
            · have HKR := Lib.hid (HNO.out h24f)
              have d24 : ((j : Int) == 24) = true := by rw [beq_iff_eq]; omega
              have dl : decide ((j : Int) < (n : Int)) = false := decide_eq_false (by omega)
              go_wp2
              refine bodyPost_ret (v := .tuple #[.slice none 0 0, .int .i64 0, .int .i64 1]) (by simp [results, Try.results19, go_sem]) rfl ?_
              exact KeepPost.nil HKR.out HB3.out.be
    · have d48 : decide ((d.size : Int) > 48) = true := decide_eq_true (by omega)
      have E2 := Lib.hid (kept_long hg hd)
      clear hg h hn1 hG hd
      go_enter Try.func19, Try.ntmps19
      go_wp2_with fail
      refine (HC.out _ HBX.out.be).mono ?_
      rintro e w1 ⟨he, hb1⟩
      rw [CheckPost, E1.out] at he
      subst he
      have HB1 := Lib.hid (HBX.out.step hb1)
      have a1 := HB1.out.a0
      clear hb1
      go_wp2
      refine bodyPost_ret (v := .tuple #[.slice none 0 0, .int .i64 0, .int .i64 1]) (by simp [results, Try.results19, go_sem]) rfl ?_
      exact KeepPost.nil E2.out HB1.out.be
end Go.Proofs.Ytphbebcbbfbgpab
