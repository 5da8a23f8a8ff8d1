/- A law's arguments, as they come in, opened into the lists that the walks speak of. -/
import Derived.Test.YtphbebcbbfbgpacDoorRepBlock
import Derived.ProofKit
import Derived.Deep.Slices
import Derived.Deep.Fields
import Derived.ChangeSame
import Derived.OpenShut
import Derived.ShutString
import Derived.ChangeOld
import Derived.SizedLaws
import Derived.Lib.SmallJoins
namespace Go.Proofs.YtphbebcbbfbgpacDoor
open Go Go.RowKit Go.ChangeShapes Go.WideShapes Go.ChangeAt Go.Deep

section
variable {H : Type} {enc : TypeId × Value → H} {P : Program} {w : World} {base : Nat} {spare : Nat → Bool} {held : Bool}

/-- A slice's datum holds as many values as its capacity says. -/
def SizeEq (d : DataW H) (cap : Nat) : Prop := (d = .nil ∧ cap = 0) ∨ ∃ el sp, d = .slice el sp ∧ el.length + sp.length = cap

theorem sized_of {ts : List TypeId} {ds : List (DataW H)} {j : Nat} {t e : TypeId} {d : DataW H} {cap : Nat} (h : (DataW.weightsEach P ts ds).all (· ≤ reachBytes) = true)
    (ht : ts[j]? = some t) (hd : ds[j]? = some d) (hu : P.underlying t = some (.slice e)) (hs : SizeEq d cap) : cap * P.bytesOf e ≤ reachBytes := by
  rcases hs with ⟨_, rfl⟩ | ⟨el, sp, rfl, hc⟩
  · simp
  · have := sized_slice h ht hd hu
    rwa [hc] at this

theorem sized_of2 {ts : List TypeId} {ds : List (DataW H)} {j : Nat} {t e0 e1 : TypeId} {f0 f1 : Field} {x y : DataW H} {c0 c1 : Nat} (h : (DataW.weightsEach P ts ds).all (· ≤ reachBytes) = true)
    (ht : ts[j]? = some t) (hd : ds[j]? = some (.agg [x, y])) (hu : P.underlying t = some (.struct #[f0, f1])) (h0 : P.underlying f0.type = some (.slice e0)) (h1 : P.underlying f1.type = some (.slice e1))
    (hs : SizeEq x c0) (hs' : SizeEq y c1) : c0 * P.bytesOf e0 ≤ reachBytes ∧ c1 * P.bytesOf e1 ≤ reachBytes := by
  constructor
  · rcases hs with ⟨_, rfl⟩ | ⟨el, sp, rfl, hc⟩
    · simp
    · have := List.all_eq_true.1 h _ (DataW.weights_mem_each ht hd ((el.length + sp.length) * P.bytesOf e0) (by simp [DataW.weights, DataW.weightsEach, hu, h0]))
      rw [hc] at this
      simpa using this
  · rcases hs' with ⟨_, rfl⟩ | ⟨el, sp, rfl, hc⟩
    · simp
    · have := List.all_eq_true.1 h _ (DataW.weights_mem_each ht hd ((el.length + sp.length) * P.bytesOf e1) (by simp [DataW.weights, DataW.weightsEach, hu, h1]))
      rw [hc] at this
      simpa using this

theorem open_rows {α : Type} [Inhabited α] {t e : TypeId} {fuel : Nat} {cs : List Value} {x : DataW H × List MemPlace} (f : α → Nat → Value) (ok : α → Prop) {size : Nat} (hpos : 0 < size)
    (ht : P.underlying t = some (.slice e)) (hsz : P.cellsOf e = size)
    (rd : ∀ n cs' y, DataW.trod enc P w base spare held n e cs' = some y → ∃ a, ok a ∧ ∀ i, i < size → cs'[i]? = some (f a i))
    (hsp : ∀ b, spare b = true) (h : DataW.trod enc P w base spare held fuel t cs = some x) :
    ∃ A len cap ls, cs = [.slice A len cap] ∧ len ≤ cap ∧ cap ≤ maxLen ∧ Rep w w.heap.size size f A len ls ∧ (∀ a ∈ ls, ok a) ∧ SizeEq x.1 cap ∧ (A = none → len = 0 ∧ cap = 0) := by
  rcases open_slice ht h with ⟨rfl, rfl⟩ | ⟨a, len, cap, m, n, D, Pl, rfl, hb, hl, hm, hmm, rfl, hx⟩
  · exact ⟨none, 0, 0, [], rfl, Nat.le_refl _, by unfold maxLen; omega, Rep.nil _ _ _ _ _, by simp, .inl ⟨rfl, rfl⟩, fun _ => ⟨rfl, rfl⟩⟩
  · have hlm : len ≤ m := by rw [hmm]; split <;> omega
    obtain ⟨g, hg⟩ := choose_lt (n := len) (p := fun i (b : α) => ok b ∧ ∀ j, j < size → w.cell? (a.add (i * size + j)) = some (f b j)) (fun i hi => by
      obtain ⟨cs', h1, h2⟩ := hx i (by omega)
      rw [hsz] at h1
      obtain ⟨b, hok, hf⟩ := rd _ _ _ h2
      obtain ⟨_, _, hc⟩ := World.cells?_some h1
      refine ⟨b, hok, fun j hj => ?_⟩
      rw [← hf j hj, ← hc j hj, Go.Deep.add_add])
    refine ⟨some a, len, cap, (List.range len).map g, rfl, hl, hm, ⟨by simp, fun hn => ?_⟩, ?_, .inr ⟨_, _, rfl, by rw [hsp a.block] at hmm; simp at hmm; simp; omega⟩, fun h => by cases h⟩
    · have h0 := (hg 0 hn).2 0 hpos
      simp only [Nat.zero_mul, Nat.add_zero] at h0
      obtain ⟨b, off, spot⟩ := a
      have hspot : spot = none := by simpa [Addr.add] using World.cell?_spot h0
      subst hspot
      refine ⟨b, off, rfl, World.block_lt_of_cell? w _ (by simpa [Addr.add] using h0), fun k hk i hi => ?_⟩
      have hk' : k < len := by simpa using hk
      have := (hg k hk').2 i hi
      rw [Addr.add_lit, ← Nat.add_assoc] at this
      rw [this]
      simp
    · intro b hb
      obtain ⟨i, hi, rfl⟩ := List.mem_map.1 hb
      exact (hg i (List.mem_range.1 hi)).1

/-- What a struct of one-cell fields reads as, field by field. -/
theorem open_struct {e : TypeId} {fs : Array Field} {n : Nat} {cs : List Value} {x : DataW H × List MemPlace} (he : P.underlying e = some (.struct fs)) (hone : oneCellFields P fs = true) (hC : P.cellsOf e = fs.size)
    (h : DataW.trod enc P w base spare held n e cs = some x) :
    ∃ m, ∀ (j : Nat) (f : Field), fs[j]? = some f → ∃ v y, cs[j]? = some v ∧ DataW.trod enc P w base spare held m f.type [v] = some y := by
  obtain ⟨xs, m, _, _, hl, hxl, hf⟩ := DataW.trod_struct he h
  refine ⟨m, fun j f hj => ?_⟩
  obtain ⟨ho, hk⟩ := hone_of hone j f hj
  have hjl : j < fs.size := (Array.getElem?_eq_some_iff.1 hj).1
  have h1 := hf j f hj
  rw [ho, hk] at h1
  have hd : (cs.drop j).take 1 = [cs[j]'(by omega)] := by
    rw [List.drop_eq_getElem_cons (by omega)]; rfl
  rw [hd] at h1
  exact ⟨_, _, List.getElem?_eq_getElem (by omega), h1.trans (List.getElem?_eq_getElem (by omega))⟩
end

def strOk (s : ByteArray) : Prop := s.size ≤ maxLen
def i64Ok (n : Int) : Prop := (Lit.int .i64 n).wf = true
theorem i64Ok.bounds {n : Int} (h : i64Ok n) : -9223372036854775808 ≤ n ∧ n ≤ 9223372036854775807 := by
  simpa [i64Ok, Lit.wf, IntKind.min, IntKind.max, IntKind.signed, IntKind.bits] using h

def Itm.wf (x : Itm) : Prop := i64Ok x.id ∧ strOk x.data ∧ i64Ok x.refs

section
variable {H : Type} {enc : TypeId × Value → H} {P : Program} {w : World} {base : Nat} {spare : Nat → Bool} {held : Bool}
theorem read_itm {tI tS e : TypeId} {f0 f1 f2 : Field} {n : Nat} {cs : List Value} {x : DataW H × List MemPlace} (he : P.underlying e = some (.struct #[f0, f1, f2])) (hone : oneCellFields P #[f0, f1, f2] = true) (hC : P.cellsOf e = 3)
    (h0 : f0.type = tI) (h1 : f1.type = tS) (h2 : f2.type = tI) (hI : P.underlying tI = some (.int .i64)) (hS : P.underlying tS = some .string)
    (h : DataW.trod enc P w base spare held n e cs = some x) : ∃ a : Itm, a.wf ∧ ∀ i, i < 3 → cs[i]? = some (a.cell i) := by
  obtain ⟨m, hf⟩ := open_struct he hone hC h
  obtain ⟨v0, y0, e0, t0⟩ := hf 0 f0 rfl
  obtain ⟨v1, y1, e1, t1⟩ := hf 1 f1 rfl
  obtain ⟨v2, y2, e2, t2⟩ := hf 2 f2 rfl
  rw [h0] at t0; rw [h1] at t1; rw [h2] at t2
  obtain ⟨a, ha, _, wa⟩ := DataW.trod_int hI t0
  obtain ⟨s, hs, _, ws⟩ := DataW.trod_string hS t1
  obtain ⟨c, hc, _, wc⟩ := DataW.trod_int hI t2
  simp only [List.cons.injEq, and_true] at ha hs hc
  subst ha hs hc
  refine ⟨⟨a, s, c⟩, ⟨wa, ws, wc⟩, fun i hi => ?_⟩
  match i, hi with
  | 0, _ => exact e0
  | 1, _ => exact e1
  | 2, _ => exact e2

def intCell (x : Int) (_ : Nat) : Value := .int .i64 x
theorem read_int {e : TypeId} {n : Nat} {cs : List Value} {x : DataW H × List MemPlace} (hI : P.underlying e = some (.int .i64))
    (h : DataW.trod enc P w base spare held n e cs = some x) : ∃ a : Int, i64Ok a ∧ ∀ i, i < 1 → cs[i]? = some (intCell a i) := by
  obtain ⟨a, rfl, _, wa⟩ := DataW.trod_int hI h
  refine ⟨a, wa, fun i hi => ?_⟩
  match i, hi with
  | 0, _ => rfl

/-- A volume by value: its two slices, and what each holds. -/
theorem open_volume {r : Reach} {b0 : Nat} {t t0 t1 e0 e1 : TypeId} {f0 f1 : Field} {v : Value} {d : DataW H} {p : List MemPlace} (hs : P.underlying t = some (.struct #[f0, f1])) (hone : oneCellFields P #[f0, f1] = true) (hC : P.cellsOf t = 2)
    (h0 : f0.type = t0) (h1 : f1.type = t1) (u0 : P.underlying t0 = some (.slice e0)) (u1 : P.underlying t1 = some (.slice e1)) (c0 : P.cellsOf e0 = 3) (c1 : P.cellsOf e1 = 1)
    (rd0 : ∀ n cs' y, DataW.trod enc P w base spare held n e0 cs' = some y → ∃ a : Itm, a.wf ∧ ∀ i, i < 3 → cs'[i]? = some (a.cell i))
    (rd1 : ∀ n cs' y, DataW.trod enc P w base spare held n e1 cs' = some y → ∃ a : Int, i64Ok a ∧ ∀ i, i < 1 → cs'[i]? = some (intCell a i))
    (hsp : ∀ b, spare b = true) (hv : Value.okWide P w r b0 t v) (h : DataW.Trod enc P w base spare held t v d p) :
    ∃ A len cap ls B len' cap' bs x y, v = .agg #[.slice A len cap, .slice B len' cap'] ∧ d = .agg [x, y] ∧ len ≤ cap ∧ cap ≤ maxLen ∧ len' ≤ cap' ∧ cap' ≤ maxLen ∧
      Rep w w.heap.size 3 Itm.cell A len ls ∧ Rep w w.heap.size 1 intCell B len' bs ∧ (∀ a ∈ ls, a.wf) ∧ (∀ a ∈ bs, i64Ok a) ∧ SizeEq x cap ∧ SizeEq y cap' ∧
      (A = none → len = 0 ∧ cap = 0) ∧ (B = none → len' = 0 ∧ cap' = 0) := by
  obtain ⟨v0, v1, y0, y1, n, rfl, rfl, _, h0', h1'⟩ := Go.Joins.open_agg2 hs hone hC hv h
  rw [h0] at h0'; rw [h1] at h1'
  obtain ⟨A, len, cap, ls, e0', hl, hm, hr, hok, hse, hnil⟩ := open_rows Itm.cell Itm.wf (by omega) u0 c0 rd0 hsp h0'
  obtain ⟨B, len', cap', bs, e1', hl', hm', hr', hok', hse', hnil'⟩ := open_rows intCell i64Ok (by omega) u1 c1 rd1 hsp h1'
  simp only [List.cons.injEq, and_true] at e0' e1'
  subst e0' e1'
  exact ⟨A, len, cap, ls, B, len', cap', bs, y0.1, y1.1, rfl, rfl, hl, hm, hl', hm', hr, hr', hok, hok', hse, hse', hnil, hnil'⟩
end
end Go.Proofs.YtphbebcbbfbgpacDoor
