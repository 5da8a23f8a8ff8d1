/- The law VolumeApplies holds: the row's step round its walk. No condition. -/
import Derived.Test.YtphbebcbbfbgpabRows
import Derived.Test.YtphbebcbbfbgpabLawVolumeApplies
import Derived.Test.YtphbebcbbfbgpabOpenWrt
import Derived.Test.YtphbebcbbfbgpabOpen
import Derived.SizedLaws
namespace Go.Proofs.Ytphbebcbbfbgpab.lawVolumeAppliesDone
open Go.ChangeShapes Go.WideShapes Go.ChangeAt Go.RowKit
open Go.ChangeMaps (open_string shut_string)
set_option linter.unusedVariables false

theorem own : ownKnob Try.prog.godebug = none := by kernel_rfl
theorem laidOut : laidOutB Try.prog = true := by kernel_rfl

set_option maxRecDepth 100000 in
theorem lifted (os : Os) (started : os.Started) (H : Type) (enc : TypeId × Value → H) :
    ReturnsInHanded {} Try.checked os 9 .any (Rows.volumeAppliesSpec.pre6 enc Try.prog Try.f9 Rows.volumeAppliesRow.domain false) (Rows.volumeAppliesSpec.post enc Try.prog Try.f9 false true false false) := by
  refine returnsInHanded_of_change_sized (C := Try.checked) own started (by kernel_rfl) Try.func9
    (ChangeSpec.witness6 (enc := enc) (C := Try.checked) false ⟨#[], #[.agg #[.slice none 0 0, .slice none 0 0], .slice none 0 0], []⟩ 8 (by kernel_rfl) (by kernel_rfl) (by kernel_rfl) (by kernel_rfl)) ?_
  intro W base args ds gs before hval0 hW hcnd hsz0 _
  have hval : ∀ (j : Nat) t v, Try.f9.params[j]? = some t → args[j]? = some v → Value.okWide Try.prog W .any base t v := hval0
  have hW' := hW
  obtain ⟨p, q, hA0, hV, rfl, hfz, hnd⟩ := hW
  have hA : DataW.TrodAll enc Try.prog W 0 (fun _ => true) true Try.f9.params.toList args.toList ds p := hA0
  have hsz : (DataW.weightsEach Try.prog (Try.f9.params.toList ++ Rows.volumeAppliesSpec.plain.varTypes Try.prog) (ds ++ gs)).all (· ≤ reachBytes) = true := hsz0
  rw [Try.params9] at hA hval hsz
  obtain ⟨v0, vs0, d0, ds0, p0, q0, hargs, rfl, rfl, h0, r0⟩ := trodAll_cons hA
  obtain ⟨v1, vs1, d1, ds1, p1, q1, rfl, rfl, rfl, h1, r1⟩ := trodAll_cons r0
  obtain ⟨rfl, rfl, rfl⟩ := trodAll_nil r1
  obtain rfl : args = #[v0, v1] := by cases args; simp_all
  obtain ⟨rfl, rfl⟩ := trodVars_none hV
  have k0 := h0
  have lt0 : ∀ x ∈ p0, x.block < W.heap.size := by obtain ⟨m, hm⟩ := k0; exact DataW.trod_lt m _ _ _ hm
  have k1 := h1
  have lt1 : ∀ x ∈ p1, x.block < W.heap.size := by obtain ⟨m, hm⟩ := k1; exact DataW.trod_lt m _ _ _ hm
  obtain ⟨A0, len0, cap0, ls0, B0, len0', cap0', bs0, x0, y0, rfl, rfl, hl0, hm0, hl0', hm0', hrep0, hrep0', hok0, hok0', hd0, hd0', hnil0, hnil0'⟩ := open_volume Try.underlying30 (by kernel_rfl) (by kernel_rfl) rfl rfl Try.underlying22 Try.underlying28 (by kernel_rfl) (by kernel_rfl)
    (fun n cs' y => read_itm Try.underlying61 (by kernel_rfl) (by kernel_rfl) rfl rfl rfl Try.underlying3 Try.underlying9) (fun n cs' y => read_int Try.underlying3) (fun _ => rfl) (hval 0 30 v0 rfl rfl) h0
  obtain ⟨hr0, hr0'⟩ := sized_of2 hsz (j := 0) (t := 30) rfl rfl Try.underlying30 Try.underlying22 Try.underlying28 hd0 hd0'
  rw [show Try.prog.bytesOf 61 = 32 from by kernel_rfl] at hr0
  rw [show Try.prog.bytesOf 3 = 8 from by kernel_rfl] at hr0'
  obtain ⟨fuel1, hf1⟩ := h1
  obtain ⟨A1, len1, cap1, ls1, hcs1, hl1, hm1, hrep1, hok1, hd1, hnil1⟩ := open_rows Wrt.cell Wrt.wf (size := 2) (by omega) Try.underlying38 (by kernel_rfl)
    (fun n cs' y => read_wrt Try.underlying77 (by kernel_rfl) (by kernel_rfl) rfl rfl Try.underlying3 Try.underlying9) (fun _ => rfl) hf1
  have hr1 : cap1 * Try.prog.bytesOf 77 ≤ reachBytes := sized_of hsz (j := 1) (t := 38) rfl rfl Try.underlying38 hd1
  rw [show Try.prog.bytesOf 77 = 24 from by kernel_rfl] at hr1
  obtain ⟨a1', len1', cap1', rfl⟩ := okWide_slice Try.underlying38 (hval 1 38 v1 rfl rfl)
  simp only [Value.cells, List.cons.injEq, Value.slice.injEq, and_true] at hcs1
  obtain ⟨rfl, rfl, rfl⟩ := hcs1
  clear hA0 hval0
  refine (lawVolumeApplies _ _ _ _ _ _ _ _ _ ls0 bs0 ls1 W hrep0 hrep0' hrep1 hnil0 hnil0' (by unfold reachBytes at hr0; omega) (by unfold reachBytes at hr0'; omega) (by omega) hok0').mono fun e W' ⟨he, bel⟩ => ?_
  subst he
  exact ⟨_, rfl, _, _, _, [], _, [], hW', trodAll_mk1 (shut_bool Try.underlying4 _), (trodAll_cons_mk (Below.trod laidOut (by kernel_rfl) (of_decide_eq_true (by kernel_rfl)) k0 bel lt0) (trodAll_cons_mk (Below.trod laidOut (by kernel_rfl) (of_decide_eq_true (by kernel_rfl)) k1 bel lt1) trodAll_mk0)), rfl, bel.frame _, fun h => by cases h⟩

theorem over : Rows.volumeAppliesRow.holds Try.pinned (OpenSpec.ofChange Rows.volumeAppliesSpec) :=
  OpenClaim.holds_of_wide 9 Try.f9 rfl rfl rfl rfl rfl rfl rfl ⟨rfl, rfl, rfl, rfl, rfl⟩ rfl rfl rfl rfl rfl (by kernel_rfl) Try.func9 (by kernel_rfl)
    (of_decide_eq_true (by kernel_rfl)) (by unfold Func.isWrapper; first | (rw [if_pos (by decide +kernel)]; kernel_rfl) | (rw [if_neg (by decide +kernel)]; exact ⟨rfl, rfl⟩))
    (fun os started H enc _ => lifted os started H enc)

theorem proved : Rows.VolumeAppliesSaid := over
#print axioms proved
end Go.Proofs.Ytphbebcbbfbgpab.lawVolumeAppliesDone
