/-
  Proved: what secretsref.Order.Over answers, at all ints. Conditions: an order lies in memory.
-/
import Derived.Test.YtffmpkgggmoadaaRef
import Derived.Test.YtffmpkgggmoadaaOver
namespace Go.Proofs.Ytffmpkgggmoadaa
open Go.ChangeShapes Go.WideShapes Go.ChangeAt Go.RowKit Go.Deep

theorem rover_any {w : World} {q h n cp : Nat} {pt : Option Addr} {r : Nat → Nat} {R : Nat → Nat → Bool} (o : ROrd w q h n cp pt r R) (a b : Int) :
    Calls Try.prog 14 #[.pointer (some ⟨q, 0, none⟩), .int .i64 a, .int .i64 b] w fun e w' => e = .returned (.bool (Sec.overB n R a b)) ∧ w = w' := by
  have c0 := o.c0
  have hn := o.hn
  by_cases hv : 0 ≤ a ∧ a < n ∧ 0 ≤ b ∧ b < n
  · obtain ⟨a0, a1, b0, b1⟩ := hv
    obtain ⟨A, rfl⟩ := Int.eq_ofNat_of_zero_le a0
    obtain ⟨B, rfl⟩ := Int.eq_ofNat_of_zero_le b0
    rw [Sec.overB_nat (by omega) (by omega)]
    have c1 := o.c1
    rw [o.hpt (by omega)] at c1
    have rr := o.rows A (by omega)
    have cc := o.cell A B (by omega) (by omega)
    go_enter Try.func14, Try.ntmps14
    go_wp2
    go_ret
    exact ⟨rfl, rfl⟩
  · rw [Sec.overB_no hv]
    rcases Int.lt_or_le a 0 with h1 | h1
    · go_enter Try.func14, Try.ntmps14
      go_wp2
      go_ret
      exact ⟨rfl, rfl⟩
    · rcases Int.lt_or_le a n with h2 | h2
      · rcases Int.lt_or_le b 0 with h3 | h3
        · go_enter Try.func14, Try.ntmps14
          go_wp2
          go_ret
          exact ⟨rfl, rfl⟩
        · have h4 : (n : Int) ≤ b := by omega
          go_enter Try.func14, Try.ntmps14
          go_wp2
          go_ret
          exact ⟨rfl, rfl⟩
      · go_enter Try.func14, Try.ntmps14
        go_wp2
        go_ret
        exact ⟨rfl, rfl⟩
end Go.Proofs.Ytffmpkgggmoadaa
