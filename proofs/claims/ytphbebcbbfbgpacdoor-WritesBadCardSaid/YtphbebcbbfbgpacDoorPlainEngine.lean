/- The engine, and the house of the reference, in plain Lean (P5.1 to P5.4): they answer the same. -/
import Derived.Test.YtphbebcbbfbgpacDoorPlainBad
import Derived.Test.YtphbebcbbfbgpacDoorUnpack
import Derived.Test.YtphbebcbbfbgpacDoorKept
namespace Go.Proofs.YtphbebcbbfbgpacDoor
open Go
set_option linter.unusedSimpArgs false
set_option linter.unusedVariables false

structure Acn where
  kind : Int
  block : Int
  data : ByteArray
  keep : Int
  deriving DecidableEq, Inhabited
structure Ans where
  code : Int
  data : ByteArray
  items : Int
  log : Int
  count : Int
  deriving DecidableEq, Inhabited
abbrev Vol := List Itm × List Int
def noData : ByteArray := ⟨#[]⟩
def Ans.of (code : Int) : Ans := ⟨code, noData, 0, 0, 0⟩

structure Eng where
  v : Vol
  base : Vol
  log : Bs
  pend : Bs
  opened : Bool
  ws : List Wrt

/-- where a block is among writes, or would be -/
def lowIx (ws : List Wrt) (b : Int) : Nat := (ws.takeWhile (fun x => decide (x.block < b))).length
def thereB (ws : List Wrt) (b : Int) : Bool := match ws[lowIx ws b]? with
  | some x => decide (x.block = b)
  | none => false
def putW (ws : List Wrt) (b : Int) (d : ByteArray) : List Wrt := ws.take (lowIx ws b) ++ [⟨b, d⟩] ++ ws.drop (if thereB ws b then lowIx ws b + 1 else lowIx ws b)
def putE (E : Eng) (b : Int) (d : ByteArray) : Eng × Int :=
  if E.opened then
    if 0 ≤ b ∧ b < E.v.2.length then
      if d.size ≤ 48 then
        if thereB E.ws b = true ∨ E.ws.length ≠ 12 then ({ E with ws := putW E.ws b d }, 0) else (E, 1)
      else (E, 1)
    else (E, 6)
  else (E, 7)
noncomputable def readE (E : Eng) (b : Int) : ByteArray × Int := if thereB E.ws b then ((E.ws.getD (lowIx E.ws b) default).data, 0) else readR E.v.1 E.v.2 b
noncomputable def commitE (E : Eng) : Eng × Int :=
  if E.opened then
    if (appliedR E.v.1 E.v.2 E.ws).2.2 = 0 then
      if E.log.length + E.pend.length + (recL E.ws).length ≤ 4000 then
        ({ E with v := ((appliedR E.v.1 E.v.2 E.ws).1, (appliedR E.v.1 E.v.2 E.ws).2.1), pend := E.pend ++ recL E.ws, opened := false, ws := [] }, 0)
      else ({ E with opened := false, ws := [] }, 1)
    else ({ E with opened := false, ws := [] }, (appliedR E.v.1 E.v.2 E.ws).2.2)
  else (E, 7)
noncomputable def redo : Vol → List (List Wrt) → Vol × Int
  | v, [] => (v, 0)
  | v, d :: ds => if (appliedR v.1 v.2 d).2.2 = 0 then redo ((appliedR v.1 v.2 d).1, (appliedR v.1 v.2 d).2.1) ds else (v, (appliedR v.1 v.2 d).2.2)
def cutS (E : Eng) (keep : Int) : Bs := E.log ++ E.pend.take keep.toNat
noncomputable def crashE (E : Eng) (keep : Int) : Eng × Int × Int :=
  if keep < 0 then (E, 0, 2) else
    if (redo E.base (scanL (cutS E keep) E.v.2.length).1).2 = 0 then
      (⟨(redo E.base (scanL (cutS E keep) E.v.2.length).1).1, E.base, (cutS E keep).take (scanL (cutS E keep) E.v.2.length).2, [], false, []⟩, (scanL (cutS E keep) E.v.2.length).1.length, 0)
    else (E, 0, (redo E.base (scanL (cutS E keep) E.v.2.length).1).2)
noncomputable def actE (E : Eng) (a : Acn) : Eng × Ans :=
  if a.kind = 1 then (if E.opened then (E, Ans.of 7) else ({ E with opened := true }, Ans.of 0)) else
  if a.kind = 2 then ((putE E a.block a.data).1, Ans.of (putE E a.block a.data).2) else
  if a.kind = 3 then (E, ⟨(readE E a.block).2, (readE E a.block).1, 0, 0, 0⟩) else
  if a.kind = 4 then ((commitE E).1, Ans.of (commitE E).2) else
  if a.kind = 5 then ({ E with opened := false, ws := [] }, Ans.of (if E.opened then 0 else 7)) else
  if a.kind = 6 then ({ E with log := E.log ++ E.pend, pend := [] }, Ans.of 0) else
  if a.kind = 7 then ((crashE E a.keep).1, ⟨(crashE E a.keep).2.2, noData, 0, 0, (crashE E a.keep).2.1⟩) else
  if a.kind = 8 then ({ E with base := E.v, log := [], pend := [] }, Ans.of 0) else
  if a.kind = 9 then (E, ⟨0, noData, E.v.1.length, E.log.length + E.pend.length, 0⟩) else
  (E, Ans.of 3)

/-- what every engine of a run is like -/
structure GoodE (E : Eng) : Prop where
  vol : GoodVol E.v.1 E.v.2
  base : GoodVol E.base.1 E.base.2
  blocks : E.v.2.length = E.base.2.length
  ws : GoodW E.ws E.v.2.length
  log : E.log.length + E.pend.length ≤ 4000

structure Hse where
  base : Vol
  deals : List (List Wrt × Nat)
  last : Nat
  opened : Bool
  ws : List Wrt
noncomputable def nowOf (v : Vol) (ds : List (List Wrt × Nat)) : Vol := ds.foldl (fun v d => ((appliedR v.1 v.2 d.1).1, (appliedR v.1 v.2 d.1).2.1)) v
noncomputable def nowH (H : Hse) : Vol := nowOf H.base H.deals
def lenH (H : Hse) (n : Nat) : Nat := ((H.deals.take n).map (·.2)).sum
/-- the reference's way to put a write among writes -/
def withF (w : Wrt) : Bool → List Wrt → List Wrt
  | done, [] => if done then [] else [w]
  | done, x :: r => (if done = false ∧ x.block ≥ w.block then [w] else []) ++ (if x.block ≠ w.block then [x] else []) ++ withF w (done || decide (x.block ≥ w.block)) r
noncomputable def putH (H : Hse) (b : Int) (d : ByteArray) : Hse × Int :=
  if H.opened then
    if 0 ≤ b ∧ b ≤ ((nowH H).2.length : Int) - 1 then
      if d.size ≤ 48 ∧ (withF ⟨b, d⟩ false H.ws).length ≤ 12 then ({ H with ws := withF ⟨b, d⟩ false H.ws }, 0) else (H, 1)
    else (H, 6)
  else (H, 7)
/-- the data of the last write of a block, or else what is given -/
def lastData (b : Int) (z : ByteArray) (ws : List Wrt) : ByteArray := ws.foldl (fun z x => if x.block = b then x.data else z) z
noncomputable def commitH (H : Hse) : Hse × Int :=
  if H.opened then
    let a := appliedR (nowH H).1 (nowH H).2 H.ws
    let r : Nat := if writesK H.ws (nowH H).2.length = 0 then (recL H.ws).length else 0
    let e : Int := if a.2.2 = 0 ∧ 4000 < lenH H H.deals.length + r then 1 else a.2.2
    (if e = 0 then { H with opened := false, ws := [], deals := H.deals ++ [(H.ws, r)] } else { H with opened := false, ws := [] }, e)
  else (H, 7)
/-- how many deals a crash leaves -/
def leftF (keep : Nat) : Nat → List Nat → Nat
  | _, [] => 0
  | s, n :: r => if s + n ≤ keep then leftF keep (s + n) r + 1 else 0
def crashN (H : Hse) (keep : Int) : Nat := H.last + leftF keep.toNat 0 ((H.deals.drop H.last).map (·.2))
noncomputable def actH (H : Hse) (a : Acn) : Hse × Ans :=
  if a.kind = 1 then ({ H with opened := true }, Ans.of (if H.opened then 7 else 0)) else
  if a.kind = 2 then ((putH H a.block a.data).1, Ans.of (putH H a.block a.data).2) else
  if a.kind = 3 then (H, ⟨(readR (nowH H).1 (nowH H).2 a.block).2, lastData a.block (readR (nowH H).1 (nowH H).2 a.block).1 H.ws, 0, 0, 0⟩) else
  if a.kind = 4 then ((commitH H).1, Ans.of (commitH H).2) else
  if a.kind = 5 then ({ H with opened := false, ws := [] }, Ans.of (if H.opened then 0 else 7)) else
  if a.kind = 6 then ({ H with last := H.deals.length }, Ans.of 0) else
  if a.kind = 7 then (if a.keep < 0 then (H, Ans.of 2) else (⟨H.base, H.deals.take (crashN H a.keep), crashN H a.keep, false, []⟩, ⟨0, noData, 0, 0, crashN H a.keep⟩)) else
  if a.kind = 8 then ({ H with base := nowH H, deals := [], last := 0 }, Ans.of 0) else
  if a.kind = 9 then (H, ⟨0, noData, (nowH H).1.length, lenH H H.deals.length, 0⟩) else
  (H, Ans.of 3)

/- where a block stands among writes in order -/
section
variable {x : Wrt} {r : List Wrt} {b : Int} {d : ByteArray}
theorem lowIx_lt (h : x.block < b) : lowIx (x :: r) b = lowIx r b + 1 := by
  unfold lowIx; rw [List.takeWhile_cons_of_pos (by simpa using h)]; rfl
theorem lowIx_ge (h : ¬ x.block < b) : lowIx (x :: r) b = 0 := by
  unfold lowIx; rw [List.takeWhile_cons_of_neg (by simpa using h)]; rfl
theorem thereB_nil (b : Int) : thereB [] b = false := rfl
theorem thereB_lt (h : x.block < b) : thereB (x :: r) b = thereB r b := by
  unfold thereB; rw [lowIx_lt h, List.getElem?_cons_succ]
theorem thereB_ge (h : ¬ x.block < b) : thereB (x :: r) b = decide (x.block = b) := by
  unfold thereB; rw [lowIx_ge h]; rfl
theorem putW_nil (b : Int) (d : ByteArray) : putW [] b d = [⟨b, d⟩] := by
  simp [putW, lowIx]
theorem putW_lt (h : x.block < b) : putW (x :: r) b d = x :: putW r b d := by
  unfold putW
  rw [lowIx_lt h, thereB_lt h, List.take_succ_cons, List.cons_append, List.cons_append]
  congr 2
  split <;> rw [List.drop_succ_cons]
theorem putW_eq (h : x.block = b) : putW (x :: r) b d = ⟨b, d⟩ :: r := by
  unfold putW
  rw [lowIx_ge (by omega), thereB_ge (by omega), decide_eq_true h]
  rfl
theorem putW_gt (h : b < x.block) : putW (x :: r) b d = ⟨b, d⟩ :: x :: r := by
  unfold putW
  rw [lowIx_ge (by omega), thereB_ge (by omega), decide_eq_false (by omega)]
  rfl
end
abbrev AscW (ws : List Wrt) : Prop := ws.Pairwise (fun x y => x.block < y.block)
theorem putW_asc {b : Int} {d : ByteArray} : ∀ {ws : List Wrt}, AscW ws → AscW (putW ws b d) ∧ (∀ y ∈ putW ws b d, y ∈ ws ∨ y = ⟨b, d⟩) ∧ (putW ws b d).length = ws.length + (if thereB ws b then 0 else 1)
  | [], _ => by rw [putW_nil, thereB_nil]; simp [AscW]
  | x :: r, h => by
    obtain ⟨h1, h2⟩ := List.pairwise_cons.1 h
    rcases Int.lt_trichotomy x.block b with hx | hx | hx
    · obtain ⟨p1, p2, p3⟩ := putW_asc (b := b) (d := d) h2
      rw [putW_lt hx, thereB_lt hx]
      refine ⟨List.pairwise_cons.2 ⟨fun y hy => ?_, p1⟩, fun y hy => ?_, by rw [List.length_cons, p3, List.length_cons]; omega⟩
      · rcases p2 y hy with hy | rfl
        · exact h1 y hy
        · exact hx
      · rcases List.mem_cons.1 hy with rfl | hy
        · exact .inl (by simp)
        · rcases p2 y hy with hy | rfl
          · exact .inl (by simp [hy])
          · exact .inr rfl
    · rw [putW_eq hx, thereB_ge (by omega), decide_eq_true hx]
      refine ⟨List.pairwise_cons.2 ⟨fun y hy => by have := h1 y hy; simp only; omega, h2⟩, fun y hy => ?_, rfl⟩
      rcases List.mem_cons.1 hy with rfl | hy
      · exact .inr rfl
      · exact .inl (by simp [hy])
    · rw [putW_gt hx, thereB_ge (by omega), decide_eq_false (by omega)]
      refine ⟨List.pairwise_cons.2 ⟨fun y hy => ?_, h⟩, fun y hy => ?_, rfl⟩
      · rcases List.mem_cons.1 hy with rfl | hy
        · exact hx
        · have := h1 y hy; simp only; omega
      · rcases List.mem_cons.1 hy with rfl | hy
        · exact .inr rfl
        · exact .inl hy
theorem putW_good {ws : List Wrt} {n b : Int} {d : ByteArray} (g : GoodW ws n) (h0 : 0 ≤ b) (h1 : b < n) (hd : d.size ≤ 48) (hl : thereB ws b = true ∨ ws.length ≠ 12) : GoodW (putW ws b d) n := by
  obtain ⟨p1, p2, p3⟩ := putW_asc (b := b) (d := d) g.asc
  refine ⟨?_, fun x hx => ?_, fun x hx => ?_, fun x hx => ?_, p1⟩
  · have := g.len
    rw [p3]
    rcases hl with hl | hl
    · rw [if_pos hl]; exact this
    · split <;> omega
  · rcases p2 x hx with hx | rfl
    · exact g.lo x hx
    · exact h0
  · rcases p2 x hx with hx | rfl
    · exact g.hi x hx
    · exact h1
  · rcases p2 x hx with hx | rfl
    · exact g.size x hx
    · exact hd
theorem withF_done (w : Wrt) : ∀ (r : List Wrt), (∀ x ∈ r, x.block ≠ w.block) → withF w true r = r
  | [], _ => rfl
  | x :: r, h => by
    rw [withF, if_neg (by simp), if_pos (h x (by simp)), Bool.true_or, withF_done w r (fun y hy => h y (by simp [hy]))]
    rfl
theorem withF_put {b : Int} {d : ByteArray} : ∀ {ws : List Wrt}, AscW ws → withF ⟨b, d⟩ false ws = putW ws b d
  | [], _ => by rw [putW_nil]; rfl
  | x :: r, h => by
    obtain ⟨h1, h2⟩ := List.pairwise_cons.1 h
    rcases Int.lt_trichotomy x.block b with hx | hx | hx
    · rw [putW_lt hx, withF, if_neg (by simp; omega), if_pos (by simp only; omega), decide_eq_false (by simp only; omega), Bool.false_or, withF_put h2]
      rfl
    · rw [putW_eq hx, withF, if_pos (by simp; omega), if_neg (by simp only; omega), decide_eq_true (by simp only; omega), Bool.or_true, withF_done _ r (fun y hy => by have := h1 y hy; simp only; omega)]
      rfl
    · rw [putW_gt hx, withF, if_pos (by simp; omega), if_pos (by simp only; omega), decide_eq_true (by simp only; omega), Bool.or_true, withF_done _ r (fun y hy => by have := h1 y hy; simp only; omega)]
      rfl
theorem lastData_none {b : Int} : ∀ {ws : List Wrt} {z : ByteArray}, (∀ x ∈ ws, x.block ≠ b) → lastData b z ws = z
  | [], _, _ => rfl
  | x :: r, z, h => by
    rw [lastData, List.foldl_cons, if_neg (h x (by simp))]
    exact lastData_none (ws := r) (fun y hy => h y (by simp [hy]))
theorem lastData_there {b : Int} : ∀ {ws : List Wrt} {z : ByteArray}, AscW ws → lastData b z ws = if thereB ws b then (ws.getD (lowIx ws b) default).data else z
  | [], _, _ => rfl
  | x :: r, z, h => by
    obtain ⟨h1, h2⟩ := List.pairwise_cons.1 h
    rcases Int.lt_trichotomy x.block b with hx | hx | hx
    · rw [thereB_lt hx, lowIx_lt hx, lastData, List.foldl_cons, if_neg (by omega), List.getD_cons_succ]
      exact lastData_there h2
    · rw [thereB_ge (by omega), decide_eq_true hx, lowIx_ge (by omega), lastData, List.foldl_cons, if_pos hx]
      have := lastData_none (b := b) (ws := r) (z := x.data) (fun y hy => by have := h1 y hy; omega)
      rw [lastData] at this
      rw [this]; rfl
    · rw [thereB_ge (by omega), decide_eq_false (by omega), lastData, List.foldl_cons, if_neg (by omega)]
      have := lastData_none (b := b) (ws := r) (z := z) (fun y hy => by have := h1 y hy; omega)
      rw [lastData] at this
      rw [this]; rfl
theorem there_mem {ws : List Wrt} {b : Int} (h : thereB ws b = true) : ∃ hl : lowIx ws b < ws.length, (ws[lowIx ws b]'hl).block = b := by
  unfold thereB at h
  split at h
  · rename_i x hx
    obtain ⟨hl, e⟩ := List.getElem?_eq_some_iff.1 hx
    exact ⟨hl, by rw [e]; simpa using h⟩
  · simp at h
theorem read_code {ls : List Itm} {bs : List Int} {b : Int} (g : GoodVol ls bs) (h0 : 0 ≤ b) (h1 : b < bs.length) : (readR ls bs b).2 = 0 := by
  rw [readR, if_pos (goodVB_yes g), if_pos ⟨h0, h1⟩]
  split <;> rfl

/- what is done again -/
theorem redo_now : ∀ {v : Vol} {ds : List (List Wrt × Nat)}, (redo v (ds.map (·.1))).2 = 0 → redo v (ds.map (·.1)) = (nowOf v ds, 0)
  | v, [], _ => rfl
  | v, d :: ds, h => by
    rw [List.map_cons, redo] at h ⊢
    by_cases h0 : (appliedR v.1 v.2 d.1).2.2 = 0
    · rw [if_pos h0] at h ⊢
      rw [redo_now h]; rfl
    · rw [if_neg h0] at h
      exact absurd h h0
theorem redo_snoc {d : List Wrt} : ∀ {v u : Vol} {ds : List (List Wrt)}, redo v ds = (u, 0) → (appliedR u.1 u.2 d).2.2 = 0 → redo v (ds ++ [d]) = (((appliedR u.1 u.2 d).1, (appliedR u.1 u.2 d).2.1), 0)
  | v, u, [], h, h2 => by
    simp only [redo, Prod.mk.injEq, and_true] at h
    subst h
    rw [List.nil_append, redo, if_pos h2, redo]
  | v, u, e :: ds, h, h2 => by
    rw [redo] at h
    rw [List.cons_append, redo]
    by_cases h0 : (appliedR v.1 v.2 e).2.2 = 0
    · rw [if_pos h0] at h ⊢
      exact redo_snoc h h2
    · rw [if_neg h0] at h
      simp only [Prod.mk.injEq] at h
      exact absurd h.2 h0
theorem redo_take : ∀ {v u : Vol} {ds : List (List Wrt)} (n : Nat), redo v ds = (u, 0) → (redo v (ds.take n)).2 = 0
  | v, u, [], n, h => by simp [redo]
  | v, u, d :: ds, 0, h => rfl
  | v, u, d :: ds, n + 1, h => by
    rw [redo] at h
    rw [List.take_succ_cons, redo]
    by_cases h0 : (appliedR v.1 v.2 d).2.2 = 0
    · rw [if_pos h0] at h ⊢
      exact redo_take n h
    · rw [if_neg h0] at h
      simp only [Prod.mk.injEq] at h
      exact absurd h.2 h0
theorem applied_good' {v : Vol} {ws : List Wrt} (h : (appliedR v.1 v.2 ws).2.2 = 0) : GoodVol v.1 v.2 ∧ GoodW ws v.2.length ∧ GoodVol (appliedR v.1 v.2 ws).1 (appliedR v.1 v.2 ws).2.1 ∧ (appliedR v.1 v.2 ws).2.1.length = v.2.length :=
  applied_good (us := (appliedR v.1 v.2 ws).1) (cs := (appliedR v.1 v.2 ws).2.1) (by rw [← h])
theorem redo_good : ∀ {v u : Vol} {ds : List (List Wrt)}, GoodVol v.1 v.2 → redo v ds = (u, 0) → GoodVol u.1 u.2 ∧ u.2.length = v.2.length
  | v, u, [], g, h => by
    simp only [redo, Prod.mk.injEq, and_true] at h
    subst h
    exact ⟨g, rfl⟩
  | v, u, d :: ds, g, h => by
    rw [redo] at h
    by_cases h0 : (appliedR v.1 v.2 d).2.2 = 0
    · rw [if_pos h0] at h
      have ha := applied_good' h0
      have := redo_good ha.2.2.1 h
      exact ⟨this.1, by rw [this.2]; exact ha.2.2.2⟩
    · rw [if_neg h0] at h
      simp only [Prod.mk.injEq] at h
      exact absurd h.2 h0

/-- the engine and the house of one run -/
structure Sim (E : Eng) (H : Hse) : Prop where
  good : GoodE E
  base : H.base = E.base
  deals : ∀ d ∈ H.deals, GoodW d.1 E.v.2.length ∧ d.2 = (recL d.1).length
  redo : redo E.base (H.deals.map (·.1)) = (E.v, 0)
  log : E.log = recs ((H.deals.take H.last).map (·.1))
  pend : E.pend = recs ((H.deals.drop H.last).map (·.1))
  last : H.last ≤ H.deals.length
  opened : E.opened = H.opened
  ws : E.ws = H.ws
theorem Sim.now {E : Eng} {H : Hse} (h : Sim E H) : nowH H = E.v := by
  have := redo_now (v := E.base) (ds := H.deals) (by rw [h.redo])
  rw [h.redo] at this
  rw [nowH, h.base]
  exact (congrArg Prod.fst this).symm
theorem sum_recs : ∀ (ds : List (List Wrt × Nat)), (∀ d ∈ ds, d.2 = (recL d.1).length) → (ds.map (·.2)).sum = (recs (ds.map (·.1))).length
  | [], _ => rfl
  | d :: ds, h => by
    rw [List.map_cons, List.sum_cons, List.map_cons, recs_cons, List.length_append, sum_recs ds (fun x hx => h x (by simp [hx])), h d (by simp)]
theorem Sim.lens {E : Eng} {H : Hse} (h : Sim E H) : lenH H H.deals.length = E.log.length + E.pend.length := by
  rw [lenH, List.take_of_length_le (Nat.le_refl _), sum_recs _ (fun d hd => (h.deals d hd).2), h.log, h.pend, ← List.length_append, ← recs_append, ← List.map_append, List.take_append_drop]
theorem leftF_fit (keep : Nat) : ∀ (ds : List (List Wrt × Nat)) (s : Nat), (∀ d ∈ ds, d.2 = (recL d.1).length) → s ≤ keep → leftF keep s (ds.map (·.2)) = fitN (ds.map (·.1)) (keep - s)
  | [], _, _, _ => rfl
  | d :: ds, s, h, hs => by
    have hd := h d (by simp)
    rw [List.map_cons, List.map_cons, leftF, fitN]
    by_cases h1 : s + d.2 ≤ keep
    · rw [if_pos h1, if_pos (by omega), leftF_fit keep ds _ (fun x hx => h x (by simp [hx])) h1, hd, Nat.sub_add_eq]
    · rw [if_neg h1, if_neg (by omega)]
theorem fitN_all : ∀ (ds : List (List Wrt)) (k : Nat), (recs ds).length ≤ k → fitN ds k = ds.length
  | [], _, _ => rfl
  | d :: ds, k, h => by
    rw [recs_cons, List.length_append] at h
    rw [fitN, if_pos (by omega), fitN_all ds _ (by omega)]; rfl

theorem Sim.crash {E : Eng} {H : Hse} (h : Sim E H) {keep : Int} (hk : ¬ keep < 0) :
    let f := fitN ((H.deals.drop H.last).map (·.1)) keep.toNat
    crashN H keep = H.last + f ∧ scanL (cutS E keep) E.v.2.length = ((H.deals.take (H.last + f)).map (·.1), (recs ((H.deals.take (H.last + f)).map (·.1))).length) ∧
      (cutS E keep).take (recs ((H.deals.take (H.last + f)).map (·.1))).length = recs ((H.deals.take (H.last + f)).map (·.1)) ∧ H.last + f ≤ H.deals.length := by
  intro f
  have hf : f ≤ (H.deals.drop H.last).length := by have := fitN_le ((H.deals.drop H.last).map (·.1)) keep.toNat; simpa [f] using this
  have hlast := h.last
  rw [List.length_drop] at hf
  have hsplit : H.deals.take (H.last + f) = H.deals.take H.last ++ (H.deals.drop H.last).take f := by rw [List.take_add]
  have hb : (E.v.2.length : Int) ≤ 256 := by have := h.good.vol.hi; omega
  have hg1 : ∀ d ∈ (H.deals.take H.last).map (·.1), GoodW d E.v.2.length := fun d hd => by
    obtain ⟨x, hx, rfl⟩ := List.mem_map.1 hd
    exact (h.deals x (List.mem_of_mem_take hx)).1
  have hg2 : ∀ d ∈ (H.deals.drop H.last).map (·.1), GoodW d E.v.2.length := fun d hd => by
    obtain ⟨x, hx, rfl⟩ := List.mem_map.1 hd
    exact (h.deals x (List.mem_of_mem_drop hx)).1
  have hfit := recs_take_fit ((H.deals.drop H.last).map (·.1)) keep.toNat
  refine ⟨?_, ?_, ?_, by omega⟩
  · rw [crashN, leftF_fit _ _ 0 (fun d hd => (h.deals d (List.mem_of_mem_drop hd)).2) (Nat.zero_le _)]; rfl
  · rw [cutS, h.log, h.pend, scanL_recs hb _ hg1, scanL_cut hb _ hg2, hsplit, List.map_append, recs_append, List.length_append]
    simp only [List.map_take, f]
  · rw [cutS, h.log, h.pend, hsplit, List.map_append, recs_append, List.length_append, List.take_length_add_append, List.take_take, Nat.min_eq_left (by rw [List.map_take]; exact hfit)]
    congr 1
    have e : recs ((H.deals.drop H.last).map (·.1)) = recs (((H.deals.drop H.last).take f).map (·.1)) ++ recs (((H.deals.drop H.last).drop f).map (·.1)) := by
      rw [← recs_append, ← List.map_append, List.take_append_drop]
    rw [e, List.take_left]

theorem sim_act {E : Eng} {H : Hse} (h : Sim E H) (a : Acn) : (actE E a).2 = (actH H a).2 ∧ Sim (actE E a).1 (actH H a).1 := by
  have hnow := h.now
  have hlen := h.lens
  unfold actE actH
  by_cases k1 : a.kind = 1
  · rw [if_pos k1, if_pos k1]
    cases ho : E.opened with
    | true =>
      have ho2 := h.opened.symm.trans ho
      rw [if_pos rfl, if_pos ho2]
      exact ⟨rfl, ⟨h.good, h.base, h.deals, h.redo, h.log, h.pend, h.last, ho, h.ws⟩⟩
    | false =>
      have ho2 := h.opened.symm.trans ho
      rw [if_neg (by simp), if_neg (by simp [ho2])]
      exact ⟨rfl, ⟨⟨h.good.vol, h.good.base, h.good.blocks, h.good.ws, h.good.log⟩, h.base, h.deals, h.redo, h.log, h.pend, h.last, rfl, h.ws⟩⟩
  rw [if_neg k1, if_neg k1]
  by_cases k2 : a.kind = 2
  · rw [if_pos k2, if_pos k2]
    unfold putE putH
    rw [hnow, ← h.opened, ← h.ws]
    by_cases ho : E.opened = true
    · rw [if_pos ho, if_pos ho]
      by_cases hb : 0 ≤ a.block ∧ a.block < E.v.2.length
      · have hb' : 0 ≤ a.block ∧ a.block ≤ (E.v.2.length : Int) - 1 := ⟨hb.1, by omega⟩
        rw [if_pos hb, if_pos hb', withF_put h.good.ws.asc]
        have hpl := (putW_asc (b := a.block) (d := a.data) h.good.ws.asc).2.2
        have hwl := h.good.ws.len
        by_cases hd : a.data.size ≤ 48
        · rw [if_pos hd]
          by_cases ht : thereB E.ws a.block = true ∨ E.ws.length ≠ 12
          · have hc : a.data.size ≤ 48 ∧ (putW E.ws a.block a.data).length ≤ 12 := ⟨hd, by
              rw [hpl]
              rcases ht with ht | ht
              · rw [if_pos ht]; exact hwl
              · split <;> omega⟩
            rw [if_pos ht, if_pos hc]
            refine ⟨rfl, ⟨⟨h.good.vol, h.good.base, h.good.blocks, putW_good h.good.ws hb.1 hb.2 hd ht, h.good.log⟩, h.base, h.deals, h.redo, h.log, h.pend, h.last, by simp only [ho, h.opened.symm], rfl⟩⟩
          · have hc : ¬ (a.data.size ≤ 48 ∧ (putW E.ws a.block a.data).length ≤ 12) := fun hc => ht (by
              have h2 := hc.2
              rw [hpl] at h2
              cases hth : thereB E.ws a.block with
              | true => exact .inl rfl
              | false => rw [hth, if_neg (by simp)] at h2; exact .inr (by omega))
            rw [if_neg ht, if_neg hc]
            exact ⟨rfl, h⟩
        · have hc : ¬ (a.data.size ≤ 48 ∧ (putW E.ws a.block a.data).length ≤ 12) := fun hc => hd hc.1
          rw [if_neg hd, if_neg hc]
          exact ⟨rfl, h⟩
      · have hb' : ¬ (0 ≤ a.block ∧ a.block ≤ (E.v.2.length : Int) - 1) := by omega
        rw [if_neg hb, if_neg hb']
        exact ⟨rfl, h⟩
    · rw [if_neg ho, if_neg ho]
      exact ⟨rfl, h⟩
  rw [if_neg k2, if_neg k2]
  by_cases k3 : a.kind = 3
  · rw [if_pos k3, if_pos k3]
    refine ⟨?_, h⟩
    simp only [hnow]
    rw [← h.ws, lastData_there h.good.ws.asc, readE]
    cases ht : thereB E.ws a.block with
    | true =>
      obtain ⟨hl, he⟩ := there_mem ht
      have hm := List.getElem_mem hl
      have := read_code h.good.vol (b := a.block) (by rw [← he]; exact h.good.ws.lo _ hm) (by rw [← he]; exact h.good.ws.hi _ hm)
      simp [this]
    | false => simp
  rw [if_neg k3, if_neg k3]
  by_cases k4 : a.kind = 4
  · rw [if_pos k4, if_pos k4]
    unfold commitE commitH
    rw [← h.opened]
    by_cases ho : E.opened = true
    · rw [if_pos ho, if_pos ho]
      simp only [hnow, ← h.ws]
      by_cases ha : (appliedR E.v.1 E.v.2 E.ws).2.2 = 0
      · have hag := applied_good' ha
        rw [if_pos ha, if_pos (writesK_zero.2 h.good.ws), hlen]
        by_cases h4 : E.log.length + E.pend.length + (recL E.ws).length ≤ 4000
        · rw [if_pos h4, if_neg (by omega), ha, if_pos rfl]
          refine ⟨rfl, ⟨⟨hag.2.2.1, h.good.base, by simp only; rw [hag.2.2.2]; exact h.good.blocks, ⟨by simp, by simp, by simp, by simp, .nil⟩, by simp only [List.length_append]; omega⟩, h.base, ?_, ?_, ?_, ?_, ?_, rfl, rfl⟩⟩
          · intro d hd
            simp only at hd ⊢
            rw [hag.2.2.2]
            rcases List.mem_append.1 hd with hd | hd
            · exact h.deals d hd
            · rw [List.mem_singleton.1 hd]; exact ⟨hag.2.1, rfl⟩
          · simp only [List.map_append, List.map_cons, List.map_nil]
            exact redo_snoc h.redo ha
          · simp only
            rw [List.take_append_of_le_length h.last]; exact h.log
          · simp only
            rw [List.drop_append_of_le_length h.last, List.map_append, recs_append, h.pend]
            simp [recs]
          · simp only [List.length_append]; have := h.last; omega
        · rw [if_neg h4, if_pos ⟨ha, by omega⟩, if_neg (by omega)]
          exact ⟨rfl, ⟨⟨h.good.vol, h.good.base, h.good.blocks, ⟨by simp, by simp, by simp, by simp, .nil⟩, h.good.log⟩, h.base, h.deals, h.redo, h.log, h.pend, h.last, rfl, rfl⟩⟩
      · rw [if_neg ha, if_neg (fun hc => ha hc.1), if_neg ha]
        exact ⟨rfl, ⟨⟨h.good.vol, h.good.base, h.good.blocks, ⟨by simp, by simp, by simp, by simp, .nil⟩, h.good.log⟩, h.base, h.deals, h.redo, h.log, h.pend, h.last, rfl, rfl⟩⟩
    · rw [if_neg ho, if_neg ho]
      exact ⟨rfl, h⟩
  rw [if_neg k4, if_neg k4]
  by_cases k5 : a.kind = 5
  · rw [if_pos k5, if_pos k5, h.opened]
    exact ⟨rfl, ⟨⟨h.good.vol, h.good.base, h.good.blocks, ⟨by simp, by simp, by simp, by simp, .nil⟩, h.good.log⟩, h.base, h.deals, h.redo, h.log, h.pend, h.last, rfl, rfl⟩⟩
  rw [if_neg k5, if_neg k5]
  by_cases k6 : a.kind = 6
  · rw [if_pos k6, if_pos k6]
    refine ⟨rfl, ⟨⟨h.good.vol, h.good.base, h.good.blocks, h.good.ws, by simp only [List.length_append, List.length_nil]; have := h.good.log; omega⟩, h.base, h.deals, h.redo, ?_, ?_, Nat.le_refl _, h.opened, h.ws⟩⟩
    · simp only
      rw [h.log, h.pend, ← recs_append, ← List.map_append, List.take_append_drop, List.take_of_length_le (Nat.le_refl _)]
    · simp only
      rw [List.drop_of_length_le (Nat.le_refl _)]; rfl
  rw [if_neg k6, if_neg k6]
  by_cases k7 : a.kind = 7
  · rw [if_pos k7, if_pos k7]
    by_cases hk : a.keep < 0
    · rw [if_pos hk, crashE, if_pos hk]
      exact ⟨rfl, h⟩
    · rw [if_neg hk, crashE, if_neg hk]
      obtain ⟨c1, c2, c3, c4⟩ := h.crash hk
      obtain ⟨f, hf⟩ : ∃ f, fitN ((H.deals.drop H.last).map (·.1)) a.keep.toNat = f := ⟨_, rfl⟩
      rw [hf] at c1 c2 c3 c4
      have hz := redo_take (H.last + f) h.redo
      rw [← List.map_take] at hz
      rw [c2, c1]
      simp only
      rw [if_pos hz]
      simp only
      have hrn := redo_now hz
      have hrg := redo_good (v := E.base) (u := (redo E.base ((H.deals.take (H.last + f)).map (·.1))).1) h.good.base (by rw [← hz])
      have hbl := h.good.blocks
      have hll : (recs ((H.deals.take (H.last + f)).map (·.1))).length ≤ 4000 := by
        have h1 := h.good.log
        rw [h.log, h.pend, ← List.length_append, ← recs_append, ← List.map_append, List.take_append_drop] at h1
        have e : recs (H.deals.map (·.1)) = recs ((H.deals.take (H.last + f)).map (·.1)) ++ recs ((H.deals.drop (H.last + f)).map (·.1)) := by
          rw [← recs_append, ← List.map_append, List.take_append_drop]
        rw [e, List.length_append] at h1
        omega
      refine ⟨?_, ⟨⟨hrg.1, h.good.base, hrg.2, ⟨by simp, by simp, by simp, by simp, .nil⟩, ?_⟩, h.base, ?_, ?_, ?_, ?_, ?_, rfl, rfl⟩⟩
      · simp only [List.length_map, List.length_take, Ans.mk.injEq, true_and]; omega
      · simp only
        rw [c3]; simpa using hll
      · intro d hd
        simp only
        rw [hrg.2, ← hbl]
        exact h.deals d (List.mem_of_mem_take hd)
      · simp only; rw [← hz]
      · simp only
        rw [c3, List.take_take, Nat.min_self]
      · simp only
        rw [List.drop_of_length_le (by rw [List.length_take]; omega)]; rfl
      · simp only [List.length_take]; omega
  rw [if_neg k7, if_neg k7]
  by_cases k8 : a.kind = 8
  · rw [if_pos k8, if_pos k8]
    refine ⟨rfl, ⟨⟨h.good.vol, h.good.vol, rfl, h.good.ws, by simp⟩, hnow, by simp, rfl, rfl, rfl, Nat.le_refl _, h.opened, h.ws⟩⟩
  rw [if_neg k8, if_neg k8]
  by_cases k9 : a.kind = 9
  · rw [if_pos k9, if_pos k9]
    exact ⟨by rw [hnow, hlen]; simp, h⟩
  rw [if_neg k9, if_neg k9]
  exact ⟨rfl, h⟩

noncomputable def runEs : Eng → List Acn → List Ans × Eng
  | E, [] => ([], E)
  | E, a :: r => ((actE E a).2 :: (runEs (actE E a).1 r).1, (runEs (actE E a).1 r).2)
noncomputable def runHs : Hse → List Acn → List Ans × Hse
  | H, [] => ([], H)
  | H, a :: r => ((actH H a).2 :: (runHs (actH H a).1 r).1, (runHs (actH H a).1 r).2)
theorem sim_run : ∀ {E : Eng} {H : Hse} (l : List Acn), Sim E H → (runEs E l).1 = (runHs H l).1 ∧ Sim (runEs E l).2 (runHs H l).2
  | _, _, [], h => ⟨rfl, h⟩
  | E, H, a :: r, h => by
    obtain ⟨h1, h2⟩ := sim_act h a
    obtain ⟨h3, h4⟩ := sim_run r h2
    exact ⟨by rw [runEs, runHs, h1, h3], h4⟩
def eng0 (n : Nat) : Eng := ⟨([], List.replicate n (-1)), ([], List.replicate n (-1)), [], [], false, []⟩
def hse0 (n : Nat) : Hse := ⟨([], List.replicate n (-1)), [], 0, false, []⟩
theorem vol0_good {n : Nat} (h1 : 1 ≤ n) (h2 : n ≤ 32) : GoodVol [] (List.replicate n (-1)) := by
  refine ⟨⟨by simp, GoodPre.nil⟩, by simpa using h1, by simpa using h2, fun b hb => ?_, fun b hb h0 => ?_, by simp, by simp⟩
  · rw [(List.mem_replicate.1 hb).2]; omega
  · rw [(List.mem_replicate.1 hb).2] at h0; omega
theorem sim0 {n : Nat} (h1 : 1 ≤ n) (h2 : n ≤ 32) : Sim (eng0 n) (hse0 n) :=
  ⟨⟨vol0_good h1 h2, vol0_good h1 h2, rfl, ⟨by simp [eng0], by simp [eng0], by simp [eng0], by simp [eng0], .nil⟩, by simp [eng0]⟩, rfl, by simp [hse0], rfl, rfl, rfl, Nat.le_refl _, rfl, rfl⟩
/-- P5.1: the answers, the volume, the error's number -/
noncomputable def scriptR (blocks : Int) (l : List Acn) : List Ans × Vol × Int :=
  if 1 ≤ blocks ∧ blocks ≤ 32 then
    if l.length ≤ 300 then ((runEs (eng0 blocks.toNat) l).1, (runEs (eng0 blocks.toNat) l).2.v, 0) else ([], ([], []), 1)
  else ([], ([], []), 2)
theorem script_house {n : Nat} (h1 : 1 ≤ n) (h2 : n ≤ 32) (l : List Acn) : (runHs (hse0 n) l).1 = (runEs (eng0 n) l).1 ∧ nowH (runHs (hse0 n) l).2 = (runEs (eng0 n) l).2.v := by
  have := sim_run l (sim0 h1 h2)
  exact ⟨this.1.symm, this.2.now⟩
end Go.Proofs.YtphbebcbbfbgpacDoor
