/- Raw numbers, and the number that is picked by one. Arguments that are raw numbers, as they come in. -/
import Derived.Test.YtphbebcbbfbgpacDoorRepBlock
import Derived.Test.YtphbebcbbfbgpacDoorOpen
import Derived.Test.YtphbebcbbfbgpacDoorProg
import Derived.IntWalk
import Derived.Shelf.Strings.Repeat
import Derived.Shelf.Strconv.Itoa3
namespace Go.Proofs.YtphbebcbbfbgpacDoor
open Go Go.RowKit

structure Raw where
  kind : Int
  a : Int
  b : Int
  c : Int
  deriving DecidableEq, Inhabited
def Raw.cell (x : Raw) : Nat → Value
  | 0 => .int .i64 x.kind
  | 1 => .int .i64 x.a
  | 2 => .int .i64 x.b
  | _ => .int .i64 x.c
def Raw.wf (x : Raw) : Prop := i64Ok x.kind ∧ i64Ok x.a ∧ i64Ok x.b ∧ i64Ok x.c
/-- a number from 0 to m - 1 -/
def pickN (n : Int) (m : Nat) : Nat := (if n < 0 then -(n + 1) else n).toNat % m
theorem pickN_lt (n : Int) {m : Nat} (h : 0 < m) : pickN n m < m := Nat.mod_lt _ h

theorem wrap64_same (n : Int) (h : -9223372036854775808 ≤ n ∧ n ≤ 9223372036854775807) : wrap64 n = n := by unfold wrap64; omega
theorem picked_any (n : Int) (m : Nat) (w : World) (hn : i64Ok n) (h0 : 0 < m) (hm : m ≤ 1000000) :
    Calls Tryd.prog 15 #[.int .i64 n, .int .i64 m] w fun e w' => e = .returned (.int .i64 (pickN n m)) ∧ w = w' := by
  have hb := hn.bounds
  obtain ⟨z, hz⟩ : ∃ z : Nat, pickN n m = z := ⟨_, rfl⟩
  rw [hz]
  have HZ := Lib.hid hz
  have HN := Lib.hid hb
  clear hz hb hn
  by_cases hneg : n < 0
  · go_enter Tryd.func15, Tryd.ntmps15
    go_wp2
    go_ret
    refine ⟨?_, rfl⟩
    have hb := HN.out
    have e1 : wrap64 (n + 1) = n + 1 := wrap64_same _ (by omega)
    have e2 : wrap64 (-(n + 1)) = -(n + 1) := wrap64_same _ (by omega)
    have e3 : (-(n + 1)).tmod (m : Int) = (z : Int) := by
      rw [← HZ.out, pickN, if_pos hneg]
      obtain ⟨k, hk⟩ : ∃ k : Nat, -(n + 1) = k := ⟨(-(n + 1)).toNat, by omega⟩
      rw [hk, Int.toNat_natCast, Int.tmod_eq_emod_of_nonneg (by omega)]
      omega
    rw [e1, e2, e3]
    rfl
  · go_enter Tryd.func15, Tryd.ntmps15
    go_wp2
    go_ret
    refine ⟨?_, rfl⟩
    have e3 : n % (m : Int) = (z : Int) := by
      rw [← HZ.out, pickN, if_neg (by omega)]
      obtain ⟨k, hk⟩ : ∃ k : Nat, n = k := ⟨n.toNat, by omega⟩
      rw [hk, Int.toNat_natCast]
      omega
    rw [e3]
    rfl

/-- the data of raw numbers -/
def repB (x : UInt8) (n : Nat) : ByteArray := ⟨(Lib.repeatL [x] n).toArray⟩
def decB (n : Nat) : ByteArray := ⟨(Lib.decDigits n).toArray⟩
def dataR (r : Raw) : ByteArray :=
  if pickN r.a 6 = 0 then ⟨#[]⟩ else
  if pickN r.a 6 = 1 then repB 122 (pickN r.b 40) else
  if pickN r.a 6 = 2 then ⟨#[97, 97, 98]⟩ ++ repB 45 (pickN r.b 9) ++ ⟨#[101, 110, 100]⟩ else
  if pickN r.a 6 = 3 then ⟨#[98, 108, 111, 99, 107, 32]⟩ ++ decB (pickN r.b 40) else
  ⟨#[115, 97, 109, 101, 32]⟩ ++ decB (pickN r.b 4)
end Go.Proofs.YtphbebcbbfbgpacDoor

namespace Go.Proofs.YtphbebcbbfbgpacDoor
open Go Go.RowKit Go.ChangeShapes Go.WideShapes Go.ChangeAt Go.Deep

section
variable {H : Type} {enc : TypeId × Value → H} {P : Program} {w : World} {base : Nat} {spare : Nat → Bool} {held : Bool}
theorem read_raw {tI e : TypeId} {f0 f1 f2 f3 : Field} {n : Nat} {cs : List Value} {x : DataW H × List MemPlace} (he : P.underlying e = some (.struct #[f0, f1, f2, f3])) (hone : oneCellFields P #[f0, f1, f2, f3] = true) (hC : P.cellsOf e = 4)
    (h0 : f0.type = tI) (h1 : f1.type = tI) (h2 : f2.type = tI) (h3 : f3.type = tI) (hI : P.underlying tI = some (.int .i64))
    (h : DataW.trod enc P w base spare held n e cs = some x) : ∃ a : Raw, a.wf ∧ ∀ i, i < 4 → cs[i]? = some (a.cell i) := by
  obtain ⟨m, hf⟩ := open_struct he hone hC h
  obtain ⟨v0, y0, e0, t0⟩ := hf 0 f0 rfl
  obtain ⟨v1, y1, e1, t1⟩ := hf 1 f1 rfl
  obtain ⟨v2, y2, e2, t2⟩ := hf 2 f2 rfl
  obtain ⟨v3, y3, e3, t3⟩ := hf 3 f3 rfl
  rw [h0] at t0; rw [h1] at t1; rw [h2] at t2; rw [h3] at t3
  obtain ⟨a, ha, _, wa⟩ := DataW.trod_int hI t0
  obtain ⟨b, hb, _, wb⟩ := DataW.trod_int hI t1
  obtain ⟨s, hs, _, ws⟩ := DataW.trod_int hI t2
  obtain ⟨c, hc, _, wc⟩ := DataW.trod_int hI t3
  simp only [List.cons.injEq, and_true] at ha hb hs hc
  subst ha hb hs hc
  refine ⟨⟨a, b, s, c⟩, ⟨wa, wb, ws, wc⟩, fun i hi => ?_⟩
  match i, hi with
  | 0, _ => exact e0
  | 1, _ => exact e1
  | 2, _ => exact e2
  | 3, _ => exact e3
end
end Go.Proofs.YtphbebcbbfbgpacDoor
