/-
  Proved: Norm, Join, Flows, Reads of plain.Order, by those of label.Order. Conditions: as there.
-/
import Derived.Test.YtffmpkgggmoadaaLaw2
namespace Go.Proofs.Ytffmpkgggmoadaa
open Go.ChangeShapes Go.WideShapes Go.ChangeAt Go.RowKit Go.Deep

variable {w : World} {p o b g n : Nat} {up : Nat → Nat}

theorem pnorm_any (h : POrd w p o b g n up) (pt : Option Addr) (len cap : Nat) (l : List (Int × Int)) (hl : PairRow w pt len l) :
    Calls Try.prog 16 #[.pointer (some ⟨p, 0, none⟩), .slice pt len cap] w (NormPost (Sec.norm (Sec.rel up) n l) w) := by
  have k1 := h.cp
  have k2 := h.co
  go_enter Try.func16, Try.ntmps16
  go_wp2_with (first
    | (go_at_call 41; refine (norm_any h.lo _ _ _ l hl).mono ?_; rintro e w1 ⟨pq, cq, rfl, ho, hn⟩)
    | go_in)
  go_ret
  exact ⟨pq, cq, rfl, ho, hn⟩

theorem pjoin_any (h : POrd w p o b g n up) (p1 p2 : Option Addr) (n1 n2 c1 c2 : Nat) (l1 l2 : List (Int × Int)) (h1 : PairRow w p1 n1 l1) (h2 : PairRow w p2 n2 l2) (hs : n1 + n2 ≤ 1048576) :
    Calls Try.prog 17 #[.pointer (some ⟨p, 0, none⟩), .slice p1 n1 c1, .slice p2 n2 c2] w (NormPost (Sec.norm (Sec.rel up) n (l1 ++ l2)) w) := by
  have k1 := h.cp
  have k2 := h.co
  go_enter Try.func17, Try.ntmps17
  go_wp2_with (first
    | (go_at_call 42; refine (join_any h.lo _ _ _ _ _ _ l1 l2 h1 h2 hs).mono ?_; rintro e w1 ⟨pq, cq, rfl, ho, hn⟩)
    | go_in)
  go_ret
  exact ⟨pq, cq, rfl, ho, hn⟩

theorem pflows_any (h : POrd w p o b g n up) (p1 p2 : Option Addr) (n1 n2 c1 c2 : Nat) (l1 l2 : List (Int × Int)) (h1 : PairRow w p1 n1 l1) (h2 : PairRow w p2 n2 l2) :
    Calls Try.prog 18 #[.pointer (some ⟨p, 0, none⟩), .slice p1 n1 c1, .slice p2 n2 c2] w fun e w' => e = .returned (.bool (Sec.flows (Sec.rel up) n l1 l2)) ∧ New w w' := by
  have k1 := h.cp
  have k2 := h.co
  go_enter Try.func18, Try.ntmps18
  go_wp2_with (first
    | (go_at_call 43; refine (flows_any h.lo _ _ _ _ _ _ l1 l2 h1 h2).mono ?_; rintro e w1 ⟨rfl, hn⟩)
    | go_in)
  go_ret
  exact ⟨rfl, hn⟩

theorem preads_any (h : POrd w p o b g n up) (who : Int) (p1 : Option Addr) (n1 c1 : Nat) (l1 : List (Int × Int)) (h1 : PairRow w p1 n1 l1) :
    Calls Try.prog 19 #[.pointer (some ⟨p, 0, none⟩), .int .i64 who, .slice p1 n1 c1] w fun e w' => e = .returned (.bool (Sec.readsB (Sec.rel up) n who l1)) ∧ New w w' := by
  have k1 := h.cp
  have k2 := h.co
  go_enter Try.func19, Try.ntmps19
  go_wp2_with (first
    | (go_at_call 44; refine (reads_any h.lo _ _ _ _ l1 h1).mono ?_; rintro e w1 ⟨rfl, hn⟩)
    | go_in)
  go_ret
  exact ⟨rfl, hn⟩
end Go.Proofs.Ytffmpkgggmoadaa
