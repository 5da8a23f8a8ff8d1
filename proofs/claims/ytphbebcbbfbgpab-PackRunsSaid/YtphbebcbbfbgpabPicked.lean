/- saltcellarkeep.picked. -/
import Derived.Test.YtphbebcbbfbgpabProg
import Derived.Test.YtphbebcbbfbgpabOpen
namespace Go.Proofs.Ytphbebcbbfbgpab
open Go Go.RowKit

def pickV (n : Int) (m : Nat) : Nat := (if n < 0 then (-(n + 1)).toNat else n.toNat) % m
theorem i64_bounds {n : Int} (h : i64Ok n) : -9223372036854775808 ≤ n ∧ n ≤ 9223372036854775807 := by
  unfold i64Ok at h
  have h2 : IntKind.i64.min ≤ n ∧ n ≤ 9223372036854775807 := by simpa [Lit.wf, IntKind.wrap] using h
  exact ⟨h2.1, h2.2⟩
theorem picked_any (n : Int) (m : Nat) (w : World) (hn : i64Ok n) (hm : 1 ≤ m) (hm2 : m ≤ 100000) :
    Calls Try.prog 21 #[.int .i64 n, .int .i64 m] w fun e w' => e = .returned (.int .i64 (pickV n m)) ∧ w = w' := by
  have hb := i64_bounds hn
  clear hn
  by_cases h0 : n < 0
  · have d0 := decide_eq_true h0
    obtain ⟨a, ha⟩ : ∃ a : Nat, n = -(a : Int) - 1 := ⟨(-(n + 1)).toNat, by omega⟩
    subst ha
    have e1 : pickV (-(a : Int) - 1) m = a % m := by rw [pickV, if_pos h0]; congr 1; omega
    rw [e1]
    go_enter Try.func21, Try.ntmps21
    go_wp2
    go_ret
    refine ⟨?_, rfl⟩
    rfl
  · have d0 := decide_eq_false h0
    obtain ⟨a, ha⟩ : ∃ a : Nat, n = a := ⟨n.toNat, by omega⟩
    subst ha
    have e1 : pickV (a : Int) m = a % m := by rw [pickV, if_neg h0, Int.toNat_natCast]
    rw [e1]
    clear h0
    go_enter Try.func21, Try.ntmps21
    go_wp2
    go_ret
    exact ⟨rfl, rfl⟩
end Go.Proofs.Ytphbebcbbfbgpab
