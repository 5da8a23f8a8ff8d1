/- What applying writes makes (P3.4), and that a valid volume stays so: no program in sight. -/
import Derived.Test.YtphbebcbbfbgpabPlainKeep
import Derived.Test.YtphbebcbbfbgpabPlainWrites
import Derived.Test.YtphbebcbbfbgpabDrop
namespace Go.Proofs.Ytphbebcbbfbgpab
open Go

theorem pre_len {l : List Itm} (h : GoodPre l) : l.length ≤ 24 := by
  have h1 := length_le_of_subset (ids_nodup h) (m := (List.range 24).map (fun k : Nat => (k : Int))) (fun y hy => by
    obtain ⟨x, hx, rfl⟩ := List.mem_map.1 hy
    have := h.ok x hx
    refine List.mem_map.2 ⟨x.id.toNat, List.mem_range.2 ?_, ?_⟩
    · have h1 := this.1; have h2 := this.2.1; omega
    · have h1 := this.1; omega)
  simpa using h1
theorem id_unique {l : List Itm} (h : GoodPre l) {x y : Itm} (hx : x ∈ l) (hy : y ∈ l) (e : x.id = y.id) : x = y := by
  obtain ⟨i, hi, rfl⟩ := List.getElem_of_mem hx
  obtain ⟨j, hj, rfl⟩ := List.getElem_of_mem hy
  rcases Nat.lt_trichotomy i j with hlt | rfl | hlt
  · have := List.pairwise_iff_getElem.1 h.ids i j hi hj hlt; omega
  · rfl
  · have := List.pairwise_iff_getElem.1 h.ids j i hj hi hlt; omega
theorem gotK_of_mem {l : List Itm} (g : Good l) {x : Itm} (hx : x ∈ l) : gotK l x.id = 0 := by
  obtain ⟨j, hj, rfl⟩ := List.getElem_of_mem hx
  exact (got_some g hj rfl).1

/-- one item's count changed -/
def upOne (id d : Int) (x : Itm) : Itm := if x.id = id then { x with refs := x.refs + d } else x
theorem upOne_id (id d : Int) (x : Itm) : (upOne id d x).id = x.id := by unfold upOne; split <;> rfl
theorem upOne_data (id d : Int) (x : Itm) : (upOne id d x).data = x.data := by unfold upOne; split <;> rfl
theorem upOne_refs (id d : Int) (x : Itm) : (upOne id d x).refs = if x.id = id then x.refs + d else x.refs := by unfold upOne; split <;> rfl
theorem mem_upRefs {ls : List Itm} {id d : Int} {y : Itm} : y ∈ upRefs ls id d ↔ ∃ x ∈ ls, upOne id d x = y := List.mem_map
theorem mem_dropL {ls : List Itm} {id : Int} {y : Itm} : y ∈ dropL ls id ↔ (∃ x ∈ ls, upOne id (-1) x = y) ∧ 0 < y.refs := by
  rw [dropL, List.mem_filter, mem_upRefs, decide_eq_true_iff]
theorem upRefs_ids {ls : List Itm} (id d : Int) (h : ls.Pairwise (fun x y => x.id < y.id)) : (upRefs ls id d).Pairwise (fun x y => x.id < y.id) := by
  rw [upRefs, List.pairwise_map]
  exact h.imp (fun {a b} hab => by
    have e1 := upOne_id id d a
    have e2 := upOne_id id d b
    unfold upOne at e1 e2
    rw [e1, e2]; exact hab)
theorem upRefs_datas {ls : List Itm} (id d : Int) (h : ls.Pairwise (fun x y => x.data ≠ y.data)) : (upRefs ls id d).Pairwise (fun x y => x.data ≠ y.data) := by
  rw [upRefs, List.pairwise_map]
  exact h.imp (fun {a b} hab => by
    have e1 := upOne_data id d a
    have e2 := upOne_data id d b
    unfold upOne at e1 e2
    rw [e1, e2]; exact hab)

theorem mem_set_count {bs : List Int} {k : Nat} (hk : k < bs.length) (v a : Int) : (bs.set k v).count a = bs.count a - (if bs[k] = a then 1 else 0) + (if v = a then 1 else 0) := by
  have := List.count_set (l := bs) (i := k) (a := v) (b := a) hk
  simpa using this
theorem count_pos_at {bs : List Int} {k : Nat} (hk : k < bs.length) : 0 < bs.count bs[k] := List.count_pos_iff.2 (List.getElem_mem hk)

/-- a volume whose block is emptied is valid -/
theorem drop_good {ls : List Itm} {bs : List Int} {k : Nat} (g : GoodVol ls bs) (hk : k < bs.length) (h0 : 0 ≤ bs[k]) : GoodVol (dropL ls bs[k]) (bs.set k (-1)) := by
  have hcp := count_pos_at hk
  have hpre : GoodPre (dropL ls bs[k]) := by
    refine ⟨fun y hy => ?_, (upRefs_ids _ _ g.good.2.ids).filter _, (upRefs_datas _ _ g.good.2.datas).filter _⟩
    obtain ⟨⟨x, hx, rfl⟩, hr⟩ := mem_dropL.1 hy
    have ok := g.good.2.ok x hx
    unfold itmOk at ok ⊢
    rw [upOne_refs] at hr
    rw [upOne_id, upOne_data, upOne_refs]
    split <;> rename_i h
    · rw [if_pos h] at hr; omega
    · omega
  refine ⟨⟨pre_len hpre, hpre⟩, by rw [List.length_set]; exact g.lo, by rw [List.length_set]; exact g.hi, fun b hb => ?_, fun b hb hb0 => ?_, fun y hy => ?_, fun y hy => ?_⟩
  · rcases List.mem_or_eq_of_mem_set hb with hb | rfl
    · exact g.ge b hb
    · omega
  · rcases List.mem_or_eq_of_mem_set hb with hb' | rfl
    · obtain ⟨x, hx, rfl⟩ := g.ids b hb' hb0
      refine ⟨upOne bs[k] (-1) x, mem_dropL.2 ⟨⟨x, hx, rfl⟩, ?_⟩, upOne_id _ _ _⟩
      have hr := g.refs x hx
      have hp := List.count_pos_iff.2 hb
      rw [mem_set_count hk] at hp
      have ok := (g.good.2.ok x hx).2.2.2.1
      rw [upOne_refs]
      split <;> rename_i h
      · rw [if_pos h.symm, if_neg (by omega)] at hp
        omega
      · omega
    · omega
  · obtain ⟨⟨x, hx, rfl⟩, hr⟩ := mem_dropL.1 hy
    have hc := g.refs x hx
    have ok := (g.good.2.ok x hx)
    unfold itmOk at ok
    rw [upOne_id, upOne_refs, mem_set_count hk, if_neg (show ¬ (-1 : Int) = x.id by omega)]
    by_cases h : x.id = bs[k]
    · rw [if_pos h.symm, if_pos h]
      rw [← h] at hcp
      omega
    · rw [if_neg (fun e => h e.symm), if_neg h]; omega
  · obtain ⟨⟨x, hx, rfl⟩, hr⟩ := mem_dropL.1 hy
    rw [upOne_data]; exact g.data x hx

/-- a volume into an empty block of which data is kept is valid -/
theorem keep_good {ls us : List Itm} {bs : List Int} {k : Nat} {d : ByteArray} {id : Int} (g : GoodVol ls bs) (hk : k < bs.length) (h0 : bs[k] = -1) (hd : d.size ≠ 0) (he : keptR ls d = (us, id, 0)) : GoodVol us (bs.set k id) := by
  have hgB : goodB ls = true := goodB_true g.good
  by_cases h48 : d.size ≤ 48
  · cases hix : ls.findIdx? (fun x => decide (x.data = d)) with
    | some j =>
      obtain ⟨hj, hjd, _⟩ := List.findIdx?_eq_some_iff_getElem.1 hix
      by_cases h32 : ls[j].refs = 32
      · rw [kept_full hgB h48 hix hj h32] at he
        simp at he
      · rw [kept_up hgB h48 hix hj h32] at he
        simp only [Prod.mk.injEq, and_true] at he
        obtain ⟨rfl, rfl⟩ := he
        have hmem : ls[j] ∈ ls := List.getElem_mem hj
        have hok0 := g.good.2.ok _ hmem
        unfold itmOk at hok0
        rw [← upRefs_set g.good hj rfl]
        have hpre : GoodPre (upRefs ls ls[j].id 1) := by
          refine ⟨fun y hy => ?_, upRefs_ids _ _ g.good.2.ids, upRefs_datas _ _ g.good.2.datas⟩
          obtain ⟨x, hx, rfl⟩ := mem_upRefs.1 hy
          have ok := g.good.2.ok x hx
          unfold itmOk at ok ⊢
          rw [upOne_id, upOne_data, upOne_refs]
          split <;> rename_i h
          · have := id_unique g.good.2 hx hmem h
            subst this
            omega
          · omega
        refine ⟨⟨pre_len hpre, hpre⟩, by rw [List.length_set]; exact g.lo, by rw [List.length_set]; exact g.hi, fun b hb => ?_, fun b hb hb0 => ?_, fun y hy => ?_, fun y hy => ?_⟩
        · rcases List.mem_or_eq_of_mem_set hb with hb | rfl
          · exact g.ge b hb
          · omega
        · rcases List.mem_or_eq_of_mem_set hb with hb' | rfl
          · obtain ⟨x, hx, rfl⟩ := g.ids b hb' hb0
            exact ⟨upOne ls[j].id 1 x, mem_upRefs.2 ⟨x, hx, rfl⟩, upOne_id _ _ _⟩
          · exact ⟨upOne ls[j].id 1 ls[j], mem_upRefs.2 ⟨_, hmem, rfl⟩, upOne_id _ _ _⟩
        · obtain ⟨x, hx, rfl⟩ := mem_upRefs.1 hy
          have hc := g.refs x hx
          have ok := g.good.2.ok x hx
          unfold itmOk at ok
          rw [upOne_id, upOne_refs, mem_set_count hk, if_neg (by omega)]
          split <;> rename_i h
          · rw [if_pos h.symm]; omega
          · rw [if_neg (fun e => h e.symm)]; omega
        · obtain ⟨x, hx, rfl⟩ := mem_upRefs.1 hy
          rw [upOne_data]; exact g.data x hx
    | none =>
      have hno : ∀ x ∈ ls, x.data ≠ d := fun x hx => by
        have := List.findIdx?_eq_none_iff.1 hix x hx
        simpa using this
      by_cases hf : freeIx ls < 24
      · rw [kept_new hgB h48 hix hf] at he
        simp only [Prod.mk.injEq, and_true] at he
        obtain ⟨rfl, rfl⟩ := he
        have hmem : ∀ y, y ∈ ls.take (freeIx ls) ++ [(⟨freeIx ls, d, 1⟩ : Itm)] ++ ls.drop (freeIx ls) ↔ y ∈ ls ∨ y = ⟨freeIx ls, d, 1⟩ := by
          intro y
          rw [List.mem_append, List.mem_append, List.mem_singleton]
          have hm : y ∈ ls ↔ y ∈ ls.take (freeIx ls) ∨ y ∈ ls.drop (freeIx ls) := by
            rw [← List.mem_append, List.take_append_drop]
          rw [hm]
          constructor
          · rintro ((h | h) | h)
            · exact .inl (.inl h)
            · exact .inr h
            · exact .inl (.inr h)
          · rintro ((h | h) | h)
            · exact .inl (.inl h)
            · exact .inr h
            · exact .inl (.inr h)
        have hfree := free_none g.good
        have hcz : bs.count ((freeIx ls : Nat) : Int) = 0 := by
          rw [List.count_eq_zero]
          intro hb
          obtain ⟨x, hx, e⟩ := g.ids _ hb (by omega)
          exact hfree x hx e
        have hlow : ∀ x ∈ ls.take (freeIx ls), x.id < (freeIx ls : Int) := fun x hx => by
          rw [← free_low g.good] at hx
          simpa using (List.mem_filter.1 hx).2
        have hhigh : ∀ x ∈ ls.drop (freeIx ls), x.id > (freeIx ls : Int) := fun x hx => by
          rw [← free_high g.good] at hx
          simpa using (List.mem_filter.1 hx).2
        have hsplit : ls.take (freeIx ls) ++ ls.drop (freeIx ls) = ls := List.take_append_drop _ _
        have hpre : GoodPre (ls.take (freeIx ls) ++ [(⟨freeIx ls, d, 1⟩ : Itm)] ++ ls.drop (freeIx ls)) := by
          refine ⟨fun y hy => ?_, ?_, ?_⟩
          · rcases (hmem y).1 hy with hy | rfl
            · exact g.good.2.ok y hy
            · unfold itmOk; simp only; omega
          · have h1 := g.good.2.ids
            rw [← hsplit] at h1
            obtain ⟨p1, p2, p3⟩ := List.pairwise_append.1 h1
            refine List.pairwise_append.2 ⟨List.pairwise_append.2 ⟨p1, by simp, fun a ha b hb => ?_⟩, p2, fun a ha b hb => ?_⟩
            · rw [List.mem_singleton.1 hb]; exact hlow a ha
            · rcases List.mem_append.1 ha with ha | ha
              · exact p3 a ha b hb
              · rw [List.mem_singleton.1 ha]; exact hhigh b hb
          · have h1 := g.good.2.datas
            rw [← hsplit] at h1
            obtain ⟨p1, p2, p3⟩ := List.pairwise_append.1 h1
            refine List.pairwise_append.2 ⟨List.pairwise_append.2 ⟨p1, by simp, fun a ha b hb => ?_⟩, p2, fun a ha b hb => ?_⟩
            · rw [List.mem_singleton.1 hb]; exact hno a (List.mem_of_mem_take ha)
            · rcases List.mem_append.1 ha with ha | ha
              · exact p3 a ha b hb
              · rw [List.mem_singleton.1 ha]; exact fun e => hno b (List.mem_of_mem_drop hb) e.symm
        refine ⟨⟨pre_len hpre, hpre⟩, by rw [List.length_set]; exact g.lo, by rw [List.length_set]; exact g.hi, fun b hb => ?_, fun b hb hb0 => ?_, fun y hy => ?_, fun y hy => ?_⟩
        · rcases List.mem_or_eq_of_mem_set hb with hb | rfl
          · exact g.ge b hb
          · omega
        · rcases List.mem_or_eq_of_mem_set hb with hb' | rfl
          · obtain ⟨x, hx, e⟩ := g.ids b hb' hb0
            exact ⟨x, (hmem x).2 (.inl hx), e⟩
          · exact ⟨_, (hmem _).2 (.inr rfl), rfl⟩
        · rw [mem_set_count hk]
          rcases (hmem y).1 hy with hy | rfl
          · have hc := g.refs y hy
            have hne := hfree y hy
            have ok := g.good.2.ok y hy
            unfold itmOk at ok
            rw [if_neg (by omega), if_neg (fun e => hne e.symm)]; omega
          · simp only [h0, if_true, hcz]
            rw [if_neg (by omega)]; rfl
        · rcases (hmem y).1 hy with hy | rfl
          · exact g.data y hy
          · exact hd
      · rw [kept_no hgB h48 hix hf] at he
        simp at he
  · rw [kept_long hgB h48] at he
    simp at he

def dropStep (s : List Itm × List Int) (w : Wrt) : List Itm × List Int :=
  if 0 ≤ s.2.getD w.block.toNat 0 then (dropL s.1 (s.2.getD w.block.toNat 0), s.2.set w.block.toNat (-1)) else s
noncomputable def keepAll : List Itm → List Int → List Wrt → List Itm × List Int × Int
  | ls, bs, [] => (ls, bs, 0)
  | ls, bs, w :: r => if w.data.size = 0 then keepAll ls bs r else
      if (keptR ls w.data).2.2 = 0 then keepAll (keptR ls w.data).1 (bs.set w.block.toNat (keptR ls w.data).2.1) r else ([], [], (keptR ls w.data).2.2)
noncomputable def appliedR (ls : List Itm) (bs : List Int) (ws : List Wrt) : List Itm × List Int × Int :=
  if goodVB ls bs then
    if writesK ws bs.length = 0 then keepAll (ws.foldl dropStep (ls, bs)).1 (ws.foldl dropStep (ls, bs)).2 ws else ([], [], writesK ws bs.length)
  else ([], [], 7)

theorem getD_lt {bs : List Int} {k : Nat} (hk : k < bs.length) (z : Int) : bs.getD k z = bs[k] := by
  rw [List.getD_eq_getElem?_getD, List.getElem?_eq_getElem hk]; rfl
theorem dropStep_len (s : List Itm × List Int) (w : Wrt) : (dropStep s w).2.length = s.2.length := by unfold dropStep; split <;> simp
theorem dropStep_good {s : List Itm × List Int} {w : Wrt} (g : GoodVol s.1 s.2) (h0 : 0 ≤ w.block) (h1 : w.block < s.2.length) : GoodVol (dropStep s w).1 (dropStep s w).2 := by
  have hk : w.block.toNat < s.2.length := by omega
  unfold dropStep
  rw [getD_lt hk]
  split
  · rename_i h; exact drop_good g hk h
  · exact g
theorem dropAll_good {ws : List Wrt} : ∀ {s : List Itm × List Int}, GoodVol s.1 s.2 → (∀ w ∈ ws, 0 ≤ w.block ∧ w.block < s.2.length) → GoodVol (ws.foldl dropStep s).1 (ws.foldl dropStep s).2 ∧ (ws.foldl dropStep s).2.length = s.2.length := by
  induction ws with
  | nil => intro s g _; exact ⟨g, rfl⟩
  | cons w r ih =>
    intro s g h
    have hw := h w (by simp)
    have := ih (s := dropStep s w) (dropStep_good g hw.1 hw.2) (fun x hx => by rw [dropStep_len]; exact h x (by simp [hx]))
    rw [List.foldl_cons]
    exact ⟨this.1, by rw [this.2, dropStep_len]⟩
/-- a block that is written, and those that are empty, are empty behind the drops -/
theorem dropAll_at {ws : List Wrt} : ∀ {s : List Itm × List Int} {k : Nat} (_ : k < s.2.length), (∀ b ∈ s.2, -1 ≤ b) → (∀ w ∈ ws, 0 ≤ w.block ∧ w.block < s.2.length) →
    (ws.foldl dropStep s).2[k]? = some (if ((k : Int) ∈ ws.map (·.block)) then -1 else s.2[k]) := by
  induction ws with
  | nil => intro s k hk _ _; simp [hk]
  | cons w r ih =>
    intro s k hk hge h
    have hw := h w (by simp)
    have hkw : w.block.toNat < s.2.length := by omega
    rw [List.foldl_cons]
    have hge' : ∀ b ∈ (dropStep s w).2, -1 ≤ b := by
      intro b hb
      unfold dropStep at hb
      split at hb
      · rcases List.mem_or_eq_of_mem_set hb with hb | rfl
        · exact hge b hb
        · omega
      · exact hge b hb
    rw [ih (s := dropStep s w) (k := k) (by rw [dropStep_len]; exact hk) hge' (fun x hx => by rw [dropStep_len]; exact h x (by simp [hx]))]
    congr 1
    by_cases hm : (k : Int) ∈ r.map (·.block)
    · rw [if_pos hm, if_pos (by simp [List.map_cons]; right; simpa using hm)]
    · rw [if_neg hm]
      by_cases hkb : (k : Int) = w.block
      · rw [if_pos (by simp [hkb])]
        have e : w.block.toNat = k := by omega
        subst e
        have hd := getD_lt hkw 0
        by_cases hn : 0 ≤ s.2[w.block.toNat]
        · have e2 : (dropStep s w).2 = s.2.set w.block.toNat (-1) := by unfold dropStep; rw [if_pos (by rw [hd]; exact hn)]
          simp only [e2, List.getElem_set_self]
        · have e2 : (dropStep s w).2 = s.2 := by unfold dropStep; rw [if_neg (by rw [hd]; exact hn)]
          have := hge _ (List.getElem_mem hkw)
          simp only [e2]
          omega
      · rw [if_neg (by rw [List.map_cons, List.mem_cons]; rintro (h | h); exact hkb h; exact hm h)]
        by_cases hn : 0 ≤ s.2.getD w.block.toNat 0
        · have e2 : (dropStep s w).2 = s.2.set w.block.toNat (-1) := by unfold dropStep; rw [if_pos hn]
          simp only [e2]
          rw [List.getElem_set_ne (by omega)]
        · have e2 : (dropStep s w).2 = s.2 := by unfold dropStep; rw [if_neg hn]
          simp only [e2]

theorem keepAll_good : ∀ {ws : List Wrt} {ls us : List Itm} {bs cs : List Int}, GoodVol ls bs → (∀ w ∈ ws, 0 ≤ w.block ∧ w.block < bs.length) → ws.Pairwise (fun x y => x.block < y.block) →
    (∀ w ∈ ws, bs[w.block.toNat]? = some (-1)) → keepAll ls bs ws = (us, cs, 0) → GoodVol us cs ∧ cs.length = bs.length
  | [], ls, us, bs, cs, g, _, _, _, h => by
    simp only [keepAll, Prod.mk.injEq, and_true] at h
    obtain ⟨rfl, rfl⟩ := h
    exact ⟨g, rfl⟩
  | w :: r, ls, us, bs, cs, g, hr, hp, he, h => by
    have hw := hr w (by simp)
    have hk : w.block.toNat < bs.length := by omega
    obtain ⟨hp1, hp2⟩ := List.pairwise_cons.1 hp
    rw [keepAll] at h
    by_cases hd : w.data.size = 0
    · rw [if_pos hd] at h
      exact keepAll_good g (fun x hx => hr x (by simp [hx])) hp2 (fun x hx => he x (by simp [hx])) h
    · rw [if_neg hd] at h
      by_cases h0 : (keptR ls w.data).2.2 = 0
      · rw [if_pos h0] at h
        have hm1 := he w (by simp)
        rw [List.getElem?_eq_getElem hk] at hm1
        have g2 := keep_good (us := (keptR ls w.data).1) (id := (keptR ls w.data).2.1) g hk (by simpa using hm1) hd (by
          rw [← h0])
        have := keepAll_good g2 (fun x hx => by rw [List.length_set]; exact hr x (by simp [hx])) hp2 (fun x hx => by
          have h1 := hp1 x hx
          have h2 := hr x (by simp [hx])
          rw [List.getElem?_set_ne (by omega)]
          exact he x (by simp [hx])) h
        exact ⟨this.1, by rw [this.2, List.length_set]⟩
      · rw [if_neg h0] at h
        simp only [Prod.mk.injEq] at h
        exact absurd h.2.2 h0
theorem keepAll_err : ∀ (ws : List Wrt) (ls : List Itm) (bs : List Int), (keepAll ls bs ws).2.2 ≠ 0 → (keepAll ls bs ws).1 = [] ∧ (keepAll ls bs ws).2.1 = []
  | [], ls, bs, h => absurd rfl h
  | w :: r, ls, bs, h => by
    rw [keepAll] at h ⊢
    split
    · rename_i hd; rw [if_pos hd] at h; exact keepAll_err r ls bs h
    · rename_i hd
      rw [if_neg hd] at h
      split
      · rename_i h0; rw [if_pos h0] at h; exact keepAll_err r _ _ h
      · exact ⟨rfl, rfl⟩
theorem applied_err {ls : List Itm} {bs : List Int} {ws : List Wrt} (h : (appliedR ls bs ws).2.2 ≠ 0) : (appliedR ls bs ws).1 = [] ∧ (appliedR ls bs ws).2.1 = [] := by
  unfold appliedR at h ⊢
  split
  · rename_i hg
    rw [if_pos hg] at h
    split
    · rename_i hw; rw [if_pos hw] at h; exact keepAll_err _ _ _ h
    · exact ⟨rfl, rfl⟩
  · exact ⟨rfl, rfl⟩
/-- what applied without a fault makes a valid volume of as many blocks -/
theorem applied_good {ls us : List Itm} {bs cs : List Int} {ws : List Wrt} (h : appliedR ls bs ws = (us, cs, 0)) : GoodVol ls bs ∧ GoodW ws bs.length ∧ GoodVol us cs ∧ cs.length = bs.length := by
  unfold appliedR at h
  split at h
  · rename_i hg
    have g : GoodVol ls bs := by simpa [goodVB] using hg
    split at h
    · rename_i hw
      have gw := writesK_zero.1 hw
      have hrng : ∀ w ∈ ws, 0 ≤ w.block ∧ w.block < bs.length := fun w hw => ⟨gw.lo w hw, gw.hi w hw⟩
      have h1 := dropAll_good (s := (ls, bs)) g hrng
      have h2 := keepAll_good h1.1 (fun w hw => by rw [h1.2]; exact hrng w hw) gw.asc (fun w hw => by
        have hw' := hrng w hw
        have hk : w.block.toNat < bs.length := by omega
        rw [dropAll_at (s := (ls, bs)) hk g.ge hrng, if_pos (by rw [show ((w.block.toNat : Nat) : Int) = w.block from by omega]; exact List.mem_map.2 ⟨w, hw, rfl⟩)]) h
      exact ⟨g, gw, h2.1, by rw [h2.2, h1.2]⟩
    · rename_i hw
      simp only [Prod.mk.injEq] at h
      exact absurd h.2.2 hw
  · simp at h
end Go.Proofs.Ytphbebcbbfbgpab
