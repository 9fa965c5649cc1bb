/-
  Proved: secretsref.Order.lets. Conditions: an order lies in memory.
-/
import Derived.Test.YtffmpkgggmoadaaROver
import Derived.Test.YtffmpkgggmoadaaFlows
namespace Sec

theorem overB_counts {n : Nat} {R : Nat → Nat → Bool} (x y : Int) (a : Nat) (ha : a < n) : overB n R x (a : Int) = counts R n (x, y) a := by
  unfold overB counts
  by_cases h : 0 ≤ x ∧ x < n
  · rw [decide_eq_true (by omega), decide_eq_true h]; simp
  · rw [decide_eq_false (by omega), decide_eq_false h]; simp

theorem underP_snoc {R : Nat → Nat → Bool} {n : Nat} {l : List (Int × Int)} {i : Nat} (hi : i < l.length) (a who : Nat) : underP R n (l.take (i + 1)) a who = (underP R n (l.take i) a who && (!counts R n (l.getD i (0, 0)) a || letsP R n (l.getD i (0, 0)) who)) := by
  unfold underP
  rw [take_snoc l i (0, 0) hi, List.all_append]
  simp

theorem mask_sub {n : Nat} {f g : Nat → Bool} : (mask n (fun i => f i || g i) == mask n f) = (List.range n).all fun i => !g i || f i := by
  rw [Bool.eq_iff_iff, beq_iff_eq, mask_eq_iff, List.all_eq_true]
  constructor
  · intro h x hx
    have := h x (List.mem_range.1 hx)
    revert this; cases f x <;> cases g x <;> simp
  · intro h i hi
    have := h i (List.mem_range.2 hi)
    revert this; cases f i <;> cases g i <;> simp

def firstTo (R : Nat → Nat → Bool) (a b : Nat) : Bool := (List.range b).all fun c => !(R c a && R a c && decide (c < a))

theorem firstTo_succ (R : Nat → Nat → Bool) (a b : Nat) : firstTo R a (b + 1) = (firstTo R a b && !(R b a && R a b && decide (b < a))) := by
  unfold firstTo; rw [List.range_succ, List.all_append]; simp

theorem firstTo_end {R : Nat → Nat → Bool} {a n : Nat} (h : a ≤ n) : firstTo R a n = firstP R a := by
  unfold firstTo firstP
  rw [Bool.eq_iff_iff, List.all_eq_true, List.all_eq_true]
  constructor
  · intro k c hc
    have hc' : c < a := List.mem_range.1 hc
    have := k c (List.mem_range.2 (by omega))
    revert this; cases R c a <;> cases R a c <;> simp [hc']
  · intro k c hc
    by_cases hc' : c < a
    · have := k c (List.mem_range.2 hc')
      revert this; cases R c a <;> cases R a c <;> simp
    · simp [hc']

end Sec
namespace Go.Proofs.Ytffmpkgggmoadaa
open Go.ChangeShapes Go.WideShapes Go.ChangeAt Go.RowKit Go.Deep

variable {w : World} {q h n cp : Nat} {pt : Option Addr} {r : Nat → Nat} {R : Nat → Nat → Bool}

theorem ROrd.c1' (o : ROrd w q h n cp pt r R) (hn : 0 < n) : w.cell? ⟨q, 1, none⟩ = some (.slice (some ⟨h, 0, none⟩) n cp) := by rw [← o.hpt hn]; exact o.c1

theorem bit_int_f {x : Int} {a : Nat} {b : Bool} (h : Sec.rbit x a = b) : (bits .and .i64 (x / 2 ^ a) 1 == 1) = b := (bit_int x a).trans h

set_option maxHeartbeats 2000000 in
theorem lets_any (o : ROrd w q h n cp pt r R) (X : Nat) (y : Int) (who : Nat) (hX : X < n) (hw : who < n) :
    Calls Try.prog 45 #[.pointer (some ⟨q, 0, none⟩), .agg #[.int .i64 X, .int .i64 y], .int .i64 who] w fun e w' => e = .returned (.bool (Sec.letsP R n ((X : Int), y) who)) ∧ New w w' := by
  have c0 := o.c0
  have c1 := o.c1' (by omega)
  have rw0 := o.rows who hw
  have cc := o.cell who X hw hX
  have hn := o.hn
  have l1 := World.block_lt_of_cell? w _ c0
  have l2 := World.block_lt_of_cell? w _ rw0
  have l3 := World.block_lt_of_cell? w _ cc
  have q1 : (0 : Int) ≤ (who : Int) := by omega
  have q2 : (who : Int) < (n : Int) := by omega
  have q3 : (0 : Int) ≤ (X : Int) := by omega
  have q4 : (X : Int) < (n : Int) := by omega
  obtain ⟨t, ht⟩ : ∃ t, R who X = t := ⟨_, rfl⟩
  rw [ht] at cc
  have HT := Lib.hid ht
  clear ht
  have NW : ∀ nq, Hid (New w ((w.alloc (.cells #[.int .i64 X, .int .i64 y] 65)).drewN nq)) := fun nq => (New.alloc _ _).trans (New.drewN _ _)
  cases t with
  | true =>
    have FN : Hid (Sec.letsP R n ((X : Int), y) who = true) := by show _ = _; unfold Sec.letsP; rw [show ((X : Int), y).1.toNat = X by simp, HT.out]; rfl
    go_enter Try.func45, Try.ntmps45
    go_wp2_with fail
    go_quiet (fail)
    go_wp2
    go_ret
    exact ⟨ret_bool (by rw [FN.out]), (NW _).out⟩
  | false =>
    have FN : Hid (Sec.letsP R n ((X : Int), y) who = (List.range n).any fun r => Sec.rbit y r && R who r) := by show _ = _; unfold Sec.letsP; rw [show ((X : Int), y).1.toNat = X by simp, HT.out]; rfl
    go_enter Try.func45, Try.ntmps45
    go_wp2_with fail
    go_quiet (fail)
    go_wp2_with fail
    go_loop [7] (fun c => ∃ k : Nat, k ≤ n ∧ c = .int .i64 k ∧ Hid (∀ x, x < k → (Sec.rbit y x && R who x) = false)) (fun c => n - (intOf c).toNat)
    case atStart => exact ⟨0, Nat.zero_le _, rfl, fun x hx => by omega⟩
    case round =>
      obtain ⟨k, hk, rfl, hno⟩ := hrel
      by_cases hlt : k < n
      · have ck := o.cell who k hw hlt
        obtain ⟨t1, h1⟩ : ∃ t, Sec.rbit y k = t := ⟨_, rfl⟩
        obtain ⟨t2, h2⟩ : ∃ t, R who k = t := ⟨_, rfl⟩
        rw [h2] at ck
        have b1 := bit_int_f h1
        have H12 := Lib.hid (And.intro h1 h2)
        have NX : (t1 && t2) = false → Hid (∀ x, x < k + 1 → (Sec.rbit y x && R who x) = false) := fun z x hx => by
          by_cases e : x = k
          · subst e; rw [H12.out.1, H12.out.2]; exact z
          · exact hno.out x (by omega)
        have HNX := Lib.hid NX
        clear h1 h2 NX
        by_cases z : (t1 && t2) = true
        · simp only [Bool.and_eq_true] at z
          obtain ⟨rfl, rfl⟩ := z
          have F2 : Hid ((List.range n).any (fun r => Sec.rbit y r && R who r) = true) := by
            show _ = _
            rw [List.any_eq_true]; exact ⟨k, List.mem_range.2 hlt, by rw [H12.out.1, H12.out.2]; rfl⟩
          go_wp2_with fail
          go_ret
          exact ⟨ret_bool (by rw [FN.out, F2.out]), (NW _).out⟩
        · have N := HNX.out (by simpa using z)
          cases t1 <;> cases t2 <;> simp at z
          all_goals
            go_wp2_with fail
            go_round
            case rel => exact ⟨k + 1, by omega, by go_num, N⟩
            case measure => simp [intOf]; omega
      · have F2 : Hid ((List.range n).any (fun r => Sec.rbit y r && R who r) = false) := by
          show _ = _
          rw [List.any_eq_false]; intro x hx; rw [hno.out x (by have := List.mem_range.1 hx; omega)]; simp
        go_wp2_with fail
        go_ret
        exact ⟨ret_bool (by rw [FN.out, F2.out]), (NW _).out⟩
end Go.Proofs.Ytffmpkgggmoadaa
