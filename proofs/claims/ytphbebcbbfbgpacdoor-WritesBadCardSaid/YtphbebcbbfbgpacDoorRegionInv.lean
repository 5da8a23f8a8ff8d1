/- A region that draws its order, by what every step keeps: one obligation for each operation, in place of one for each order. -/
import Derived.RegionTactic
import Derived.Test.YtphbebcbbfbgpacDoorRepBlock
namespace Go.Proofs.YtphbebcbbfbgpacDoor
open Go

theorem ready_lt {md : Region.Mode} {ops : Array Oper} {listed : Array Bool} {i : Nat} (h : i ∈ Region.ready md ops listed) : i < ops.size ∧ listed.getD i true = false := by
  unfold Region.ready at h
  rw [List.mem_filter, List.mem_range] at h
  refine ⟨h.1, ?_⟩
  have h2 := h.2
  cases hh : listed.getD i true with
  | false => rfl
  | true => rw [hh] at h2; simp at h2
theorem getD_size {listed : Array Bool} {i : Nat} (h : listed.getD i true = false) : ∃ h : i < listed.size, listed[i] = false := by
  unfold Array.getD at h
  split at h
  · rename_i hl; exact ⟨hl, h⟩
  · cases h
theorem wpAny_inv {P : Program} {md : Region.Mode} {ops : Array Oper} {Q : Exit → Act → World → Prop} {Inv : Array Bool → Act → World → Prop}
    (hstep : ∀ listed a w i, listed.size = ops.size → Inv listed a w → i ∈ Region.ready md ops listed → wpOp P ops Q i (Inv (listed.setIfInBounds i true)) a w)
    (hend : ∀ listed a w, listed.size = ops.size → Inv listed a w → Region.ready md ops listed = [] → Q .normal a w) :
    ∀ (fuel : Nat) (listed : Array Bool) (a : Act) (w : World), listed.size = ops.size → listed.toList.count false ≤ fuel → Inv listed a w → wpAny P md ops Q fuel listed a w := by
  intro fuel
  induction fuel with
  | zero =>
    intro listed a w hs hc hi
    have hr : Region.ready md ops listed = [] := by
      rw [List.eq_nil_iff_forall_not_mem]
      intro i hm
      obtain ⟨hl, hf⟩ := getD_size (ready_lt hm).2
      have h1 : false ∈ listed.toList := by rw [← hf]; exact Array.getElem_mem_toList hl
      have := List.count_pos_iff.2 h1
      omega
    exact ⟨hr, hend _ _ _ hs hi hr⟩
  | succ fuel ih =>
    intro listed a w hs hc hi
    refine ⟨hend _ _ _ hs hi, fun i hm => ?_⟩
    obtain ⟨hl, hf⟩ := getD_size (ready_lt hm).2
    refine wpOp_mono (fun a' w' h' => ih _ a' w' (by rw [Array.size_setIfInBounds]; exact hs) ?_ h') (hstep listed a w i hs hi hm)
    have hl' : i < listed.toList.length := by rw [Array.length_toList]; exact hl
    have hf' : listed.toList[i] = false := by rw [Array.getElem_toList]; exact hf
    have hp := List.count_pos_iff.2 (show false ∈ listed.toList from by rw [← hf']; exact List.getElem_mem hl')
    rw [Array.toList_setIfInBounds, List.count_set hl', hf', if_pos (by rfl), if_neg (by decide)]
    omega
/-- A region that draws, by an invariant. -/
theorem wp_region_inv {P : Program} {ops : Array Oper} {Q : Exit → Act → World → Prop} {id : Nat} {a : Act} {w : World} (hm : P.follows .mixedOrders = true) (Inv : Array Bool → Act → World → Prop)
    (hstart : Inv (Array.replicate ops.size false) a w.drew)
    (hstep : ∀ listed a w i, listed.size = ops.size → Inv listed a w → i ∈ Region.ready .any ops listed → wpOp P ops Q i (Inv (listed.setIfInBounds i true)) a w)
    (hend : ∀ listed a w, listed.size = ops.size → Inv listed a w → Region.ready .any ops listed = [] → Q .normal a w) : (Code.region id ops true).wp P Q a w :=
  wp_region_any hm (wpAny_inv hstep hend ops.size _ a _ (by simp) (by
    rw [Array.toList_replicate]
    exact Nat.le_trans List.count_le_length (by simp)) hstart)
/-- what an operation that may come up leans on is listed -/
theorem ready_dep {md : Region.Mode} {ops : Array Oper} {listed : Array Bool} {i : Nat} (h : i ∈ Region.ready md ops listed) (j : Nat) (hj : ((ops[i]?).map (·.after.any fun e => Region.binds md e && e.on == j)).getD false = true) : listed.getD j true = true := by
  unfold Region.ready at h
  rw [List.mem_filter] at h
  have h2 := h.2
  cases ho : ops[i]? with
  | none => rw [ho] at hj; simp at hj
  | some o =>
    rw [ho] at hj h2
    simp only [Option.map_some, Option.getD_some, Bool.and_eq_true] at hj h2
    obtain ⟨e, he, hb⟩ := Array.any_eq_true'.1 hj
    simp only [Bool.and_eq_true, beq_iff_eq] at hb
    have h3 := Array.all_eq_true_iff_forall_mem.1 h2.2 e he
    rw [hb.1, hb.2] at h3
    simp only [Bool.not_true, Bool.false_or] at h3
    unfold Array.getD at h3
    split at h3
    · rename_i hh
      unfold Array.getD
      rw [dif_pos hh]
      exact h3
    · cases h3
/-- every edge that binds points to an earlier operation -/
def down (md : Region.Mode) (ops : Array Oper) : Bool := (List.range ops.size).all fun i => ((ops[i]?).map (·.after.all fun e => !Region.binds md e || decide (e.on < i))).getD false
/-- where nothing may come up any more, all is listed -/
theorem ready_nil_all {md : Region.Mode} {ops : Array Oper} {listed : Array Bool} (hs : listed.size = ops.size) (h : Region.ready md ops listed = []) (hd : down md ops = true) : ∀ i, i < ops.size → listed.getD i true = true := by
  intro i
  induction i using Nat.strongRecOn with
  | _ i ih =>
    intro hi
    cases hl : listed.getD i true with
    | true => rfl
    | false =>
      exfalso
      have hn : i ∉ Region.ready md ops listed := by rw [h]; simp
      apply hn
      unfold Region.ready
      rw [List.mem_filter]
      refine ⟨List.mem_range.2 hi, ?_⟩
      unfold down at hd
      rw [List.all_eq_true] at hd
      have hdi := hd i (List.mem_range.2 hi)
      have ho : ops[i]? = some ops[i] := Array.getElem?_eq_getElem hi
      rw [ho] at hdi ⊢
      simp only [Option.map_some, Option.getD_some] at hdi ⊢
      rw [hl]
      simp only [Bool.not_false, Bool.true_and]
      rw [Array.all_eq_true_iff_forall_mem] at hdi ⊢
      intro e he
      have h1 := hdi e he
      simp only [Bool.or_eq_true, Bool.not_eq_true', decide_eq_true_eq] at h1 ⊢
      rcases h1 with h1 | h1
      · exact .inl h1
      · refine .inr ?_
        have h2 := ih e.on h1 (by omega)
        have hlt : e.on < listed.size := by omega
        unfold Array.getD at h2 ⊢
        rw [dif_pos hlt] at h2 ⊢
        exact h2
theorem getD_set_of {listed : Array Bool} {i j : Nat} (hij : i ≠ j) : (listed.setIfInBounds i true).getD j true = true → listed.getD j true = true := by
  intro h
  unfold Array.getD at h ⊢
  split
  · rename_i hj
    rw [dif_pos (by rw [Array.size_setIfInBounds]; exact hj)] at h
    simp only [Array.getInternal_eq_getElem] at h ⊢
    rw [Array.getElem_setIfInBounds hj, if_neg hij] at h
    exact h
  · rfl
theorem getD_set_up {listed : Array Bool} {i j : Nat} (h : listed.getD j true = true) : (listed.setIfInBounds i true).getD j true = true := by
  by_cases hij : i = j
  · subst hij
    unfold Array.getD
    split
    · rename_i hj
      have hj' : i < listed.size := by rw [Array.size_setIfInBounds] at hj; exact hj
      simp only [Array.getInternal_eq_getElem]
      rw [Array.getElem_setIfInBounds hj', if_pos rfl]
    · rfl
  · unfold Array.getD at h ⊢
    split
    · rename_i hj
      have hj' : j < listed.size := by rw [Array.size_setIfInBounds] at hj; exact hj
      rw [dif_pos hj'] at h
      simp only [Array.getInternal_eq_getElem] at h ⊢
      rw [Array.getElem_setIfInBounds hj', if_neg hij]
      exact h
    · rfl
/-- A region that draws, some of its operations taken ahead, by an invariant of the others. -/
theorem wpAny_by_inv {P : Program} {ops : Array Oper} {Q : Exit → Act → World → Prop} {fuel : Nat} {listed : Array Bool} {a : Act} {w : World} (Inv : Array Bool → Act → World → Prop)
    (hs : listed.size = ops.size) (hc : listed.toList.count false ≤ fuel) (hd : down .any ops = true)
    (hstart : Inv listed a w)
    (hstep : ∀ listed a w i, Inv listed a w → i ∈ Region.ready .any ops listed → wpOp P ops Q i (Inv (listed.setIfInBounds i true)) a w)
    (hend : ∀ listed a w, Inv listed a w → (∀ i, i < ops.size → listed.getD i true = true) → Q .normal a w) : wpAny P .any ops Q fuel listed a w :=
  wpAny_inv (fun listed a w i _ => hstep listed a w i) (fun listed a w hs hi hr => hend listed a w hi (ready_nil_all hs hr hd)) fuel listed a w hs hc hstart
end Go.Proofs.YtphbebcbbfbgpacDoor
