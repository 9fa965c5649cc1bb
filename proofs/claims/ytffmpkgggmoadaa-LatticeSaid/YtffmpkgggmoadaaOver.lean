/-
  Proved: what label.Order.Over answers, at all ints. Conditions: an order lies in memory.
-/
import Derived.Test.YtffmpkgggmoadaaBase
namespace Go.Proofs.Ytffmpkgggmoadaa
open Go.ChangeShapes Go.WideShapes Go.ChangeAt Go.RowKit Go.Deep

theorem ret_bool {a b : Bool} (h : a = b) : Ending.returned (.bool a) = .returned (.bool b) := by rw [h]

/-- who acts for whom, off the sets. -/
abbrev rel (up : Nat → Nat) : Nat → Nat → Bool := fun x y => (up y).testBit x

theorem over_nat {w : World} {bb g n : Nat} {up : Nat → Nat} (h : LOrd w bb g n up) (a b : Nat) (ha : a < n) (hb : b < n) :
    Calls Try.prog 40 #[.pointer (some ⟨bb, 0, none⟩), .int .i64 a, .int .i64 b] w fun e w' => e = .returned (.bool ((up b).testBit a)) ∧ w = w' := by
  have c0 := h.c0
  have c1 := h.c1
  have hr := h.row b hb
  have hu := h.up63 b hb
  have hn := h.hn
  go_enter Try.func40, Try.ntmps40
  go_wp2
  go_ret
  exact ⟨ret_bool (bit_nat _ _), rfl⟩

theorem over_any {w : World} {bb g n : Nat} {up : Nat → Nat} (h : LOrd w bb g n up) (a b : Int) :
    Calls Try.prog 40 #[.pointer (some ⟨bb, 0, none⟩), .int .i64 a, .int .i64 b] w fun e w' => e = .returned (.bool (Sec.overB n (rel up) a b)) ∧ w = w' := by
  by_cases hv : 0 ≤ a ∧ a < n ∧ 0 ≤ b ∧ b < n
  · obtain ⟨a0, a1, b0, b1⟩ := hv
    obtain ⟨A, rfl⟩ := Int.eq_ofNat_of_zero_le a0
    obtain ⟨B, rfl⟩ := Int.eq_ofNat_of_zero_le b0
    rw [Sec.overB_nat (by omega) (by omega)]
    exact over_nat h A B (by omega) (by omega)
  · rw [Sec.overB_no hv]
    have c0 := h.c0
    have c1 := h.c1
    have hn := h.hn
    rcases Int.lt_or_le a 0 with h1 | h1
    · go_enter Try.func40, Try.ntmps40
      go_wp2
      go_ret
      exact ⟨rfl, rfl⟩
    · rcases Int.lt_or_le a n with h2 | h2
      · rcases Int.lt_or_le b 0 with h3 | h3
        · go_enter Try.func40, Try.ntmps40
          go_wp2
          go_ret
          exact ⟨rfl, rfl⟩
        · have h4 : (n : Int) ≤ b := by omega
          go_enter Try.func40, Try.ntmps40
          go_wp2
          go_ret
          exact ⟨rfl, rfl⟩
      · go_enter Try.func40, Try.ntmps40
        go_wp2
        go_ret
        exact ⟨rfl, rfl⟩
end Go.Proofs.Ytffmpkgggmoadaa
