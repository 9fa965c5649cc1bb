/-
  Proved: label.Order.Join, Flows, Reads. Conditions: as for of.
-/
import Derived.Test.YtffmpkgggmoadaaNorm
namespace Sec

def rowOk (R : Nat → Nat → Bool) (n : Nat) (l m : List (Int × Int)) (a : Nat) : Bool := (List.range n).all fun who => !underP R n m a who || underP R n l a who

theorem flows_rows (R : Nat → Nat → Bool) (n : Nat) (l m : List (Int × Int)) : flows R n l m = (List.range n).all (rowOk R n l m) := rfl

theorem mask_zero {n : Nat} {f : Nat → Bool} : mask n f = 0 ↔ ∀ i, i < n → f i = false := by
  rw [show (0 : Nat) = mask n (fun _ => false) by
    induction n with
    | zero => rfl
    | succ n ih => rw [mask, ← ih]; simp]
  exact mask_eq_iff

theorem rowOk_mask (R : Nat → Nat → Bool) (n : Nat) (l m : List (Int × Int)) (a : Nat) : (mask n (fun i => underP R n m a i && !underP R n l a i) == 0) = rowOk R n l m a := by
  rw [Bool.eq_iff_iff, beq_iff_eq, mask_zero, rowOk, List.all_eq_true]
  constructor
  · intro h x hx
    have := h x (List.mem_range.1 hx)
    revert this; cases underP R n m a x <;> cases underP R n l a x <;> simp
  · intro h i hi
    have := h i (List.mem_range.2 hi)
    revert this; cases underP R n m a i <;> cases underP R n l a i <;> simp

def readsB (R : Nat → Nat → Bool) (n : Nat) (who : Int) (l : List (Int × Int)) : Bool := decide (0 ≤ who ∧ who < n) && reads R n who.toNat l

end Sec
namespace Go.Proofs.Ytffmpkgggmoadaa
open Go.ChangeShapes Go.WideShapes Go.ChangeAt Go.RowKit Go.Deep

theorem andNot_mask (n : Nat) (hn : n ≤ 6) (f g : Nat → Bool) : bits .andNot .i64 (Sec.mask n f : Nat) (Sec.mask n g : Nat) = (Sec.mask n (fun i => f i && !g i) : Nat) := by
  have l1 := Nat.lt_of_lt_of_le (Sec.mask_lt n f) (pow_le n hn)
  have l2 := Nat.lt_of_lt_of_le (Sec.mask_lt n g) (pow_le n hn)
  have l3 := Nat.lt_of_lt_of_le (Sec.mask_lt n (fun i => f i && !g i)) (pow_le n hn)
  show IntKind.i64.wrap ((BitVec.ofInt 64 (Sec.mask n f : Nat) &&& ~~~BitVec.ofInt 64 (Sec.mask n g : Nat)).toNat : Int) = _
  have e : (BitVec.ofInt 64 (Sec.mask n f : Nat) &&& ~~~BitVec.ofInt 64 (Sec.mask n g : Nat)).toNat = Sec.mask n (fun i => f i && !g i) := by
    apply Nat.eq_of_testBit_eq
    intro i
    rw [BitVec.testBit_toNat, BitVec.getLsbD_and, BitVec.getLsbD_not, BitVec.ofInt_natCast, BitVec.ofInt_natCast, BitVec.getLsbD_ofNat, BitVec.getLsbD_ofNat, Sec.testBit_mask, Sec.testBit_mask, Sec.testBit_mask]
    by_cases h : i < n
    · have h64 : i < 64 := by omega
      simp [h, h64]
    · simp [h]
  rw [e]
  exact wrap_i64_nat _ (by omega)

theorem flow_test (R : Nat → Nat → Bool) (n : Nat) (hn : n ≤ 6) (l m : List (Int × Int)) (a : Nat) {t : Bool} (h : Sec.rowOk R n l m a = t) : (bits .andNot .i64 (Sec.under R n m a : Nat) (Sec.under R n l a : Nat) != 0) = !t := by
  unfold Sec.under
  rw [andNot_mask n hn, ← h, ← Sec.rowOk_mask]
  generalize Sec.mask n _ = x
  exact bne_cast x 0

theorem bit_zero (x a : Nat) {t : Bool} (h : x.testBit a = t) : (bits .and .i64 ((x : Int) / 2 ^ a) 1 == 0) = !t := by
  have e := bit_nat x a
  rw [h] at e
  have e2 := and_one ((x : Int) / 2 ^ a)
  rw [e2] at e ⊢
  generalize (x : Int) / 2 ^ a = y at *
  have : y % 2 = 0 ∨ y % 2 = 1 := by omega
  rcases this with k | k <;> rw [k] at e ⊢ <;> cases t <;> simp_all

set_option maxHeartbeats 1000000 in
theorem join_any {w : World} {bb g n : Nat} {up : Nat → Nat} (h : LOrd w bb g n up) (p1 p2 : Option Addr) (n1 n2 c1 c2 : Nat) (l1 l2 : List (Int × Int)) (h1 : PairRow w p1 n1 l1) (h2 : PairRow w p2 n2 l2) (hs : n1 + n2 ≤ 1048576) :
    Calls Try.prog 42 #[.pointer (some ⟨bb, 0, none⟩), .slice p1 n1 c1, .slice p2 n2 c2] w (NormPost (Sec.norm (Sec.rel up) n (l1 ++ l2)) w) := by
  have hk : New w (w.alloc (.cells #[.slice p1 n1 c1, .slice p2 n2 c2] 37)) := New.alloc _ _
  have k1 := h1.below hk
  have k2 := h2.below hk
  have HL := h.below hk
  have a1 : (w.alloc (.cells #[.slice p1 n1 c1, .slice p2 n2 c2] 37)).cell? ⟨w.heap.size, 0, none⟩ = some (.slice p1 n1 c1) := by rw [World.cell?_alloc_at _ _ _ _ rfl]; rfl
  have a2 : (w.alloc (.cells #[.slice p1 n1 c1, .slice p2 n2 c2] 37)).cell? ⟨w.heap.size, 1, none⟩ = some (.slice p2 n2 c2) := by rw [World.cell?_alloc_at _ _ _ _ rfl]; rfl
  have C := Lib.hid (concat_any w.heap.size p1 p2 n1 n2 c1 c2 l1 l2 _ a1 a2 k1 k2 hs)
  have HK := Lib.hid hk
  clear hk a1 a2
  go_enter Try.func42, Try.ntmps42
  go_wp2_with fail
  refine C.out.mono ?_
  rintro e w1 ⟨pt, cp, rfl, hrow, hn1⟩
  have HL2 := HL.below hn1
  go_wp2_with fail
  refine (norm_any HL2 _ _ _ _ hrow).mono ?_
  rintro e w2 ⟨pq, cq, rfl, hown, hn2⟩
  have HF : Hid (NormPost (Sec.norm (Sec.rel up) n (l1 ++ l2)) w (.returned (.slice pq (Sec.norm (Sec.rel up) n (l1 ++ l2)).length cq)) w2) := by
    refine ⟨pq, cq, rfl, ?_, (HK.out.trans hn1).trans hn2⟩
    obtain ⟨q1, q2⟩ := hown
    refine ⟨q1, ?_⟩
    rcases q2 with q2 | ⟨g2, c2, cur, q3, q4, q5⟩
    · exact .inl q2
    · exact .inr ⟨g2, c2, cur, q3, Nat.le_trans (HK.out.trans hn1).size q4, q5⟩
  clear hown
  go_wp2_with fail
  go_ret
  exact HF.out

set_option maxHeartbeats 1000000 in
theorem flows_any {w : World} {bb g n : Nat} {up : Nat → Nat} (h : LOrd w bb g n up) (p1 p2 : Option Addr) (n1 n2 c1 c2 : Nat) (l1 l2 : List (Int × Int)) (h1 : PairRow w p1 n1 l1) (h2 : PairRow w p2 n2 l2) :
    Calls Try.prog 43 #[.pointer (some ⟨bb, 0, none⟩), .slice p1 n1 c1, .slice p2 n2 c2] w fun e w' => e = .returned (.bool (Sec.flows (Sec.rel up) n l1 l2)) ∧ New w w' := by
  have hn := h.hn
  have FR := Lib.hid (Sec.flows_rows (Sec.rel up) n l1 l2)
  go_enter Try.func43, Try.ntmps43
  go_wp2_with fail
  refine (of_any h _ _ _ l1 h1).mono ?_
  rintro e w1 ⟨gx, rfl, hg1, hg2, hx, hn1⟩
  go_wp2_with fail
  refine (of_any (h.below hn1) _ _ _ l2 (h2.below hn1)).mono ?_
  rintro e w2 ⟨gy, rfl, hg3, hg4, hy, hn2⟩
  have hx2 : ∀ a, a < n → w2.cell? ⟨gx, a, none⟩ = some (.int .i64 (Sec.under (Sec.rel up) n l1 a : Nat)) := fun a ha => (hn2.cell (p := ⟨gx, a, none⟩) hg2).trans (hx a ha)
  have HX := Lib.hid hx2
  have HY := Lib.hid hy
  have HN := Lib.hid (hn1.trans hn2)
  clear hx hy hx2 hn1 hn2
  go_wp2_with fail
  go_loopw [18] (fun c wr => ∃ k q : Nat, k ≤ n ∧ c = .int .i64 k ∧ wr = w2.drewN q ∧ Hid (∀ a, a < k → Sec.rowOk (Sec.rel up) n l1 l2 a = true)) (fun c _ => n - (intOf c).toNat)
  case atStart => exact ⟨0, 0, Nat.zero_le _, rfl, rfl, fun a ha => by omega⟩
  case round =>
    obtain ⟨k, q, hk, rfl, rfl, hok⟩ := hrel
    by_cases hlt : k < n
    · have c1 := HX.out k hlt
      have c2 := HY.out k hlt
      obtain ⟨t, ht⟩ : ∃ t, Sec.rowOk (Sec.rel up) n l1 l2 k = t := ⟨_, rfl⟩
      have hT := flow_test (Sec.rel up) n hn l1 l2 k ht
      have q1 : (0 : Int) ≤ (k : Int) := by omega
      have q2 : (k : Int) < (n : Int) := by omega
      have HT := Lib.hid ht
      clear ht
      cases t with
      | true =>
        have OK2 : Hid (∀ a, a < k + 1 → Sec.rowOk (Sec.rel up) n l1 l2 a = true) := fun a ha => by
          by_cases e : a = k
          · subst e; exact HT.out
          · exact hok.out a (by omega)
        go_wp2_with fail
        go_quiet (fail)
        go_wp2
        go_roundw
        case rel => exact ⟨k + 1, q + nq, by omega, by go_num, by simp, OK2⟩
        case measure => simp [intOf]; omega
      | false =>
        have FN : Hid (Sec.flows (Sec.rel up) n l1 l2 = false) := by
          show _ = _
          rw [FR.out, Bool.eq_false_iff]
          intro hh
          rw [List.all_eq_true] at hh
          have := hh k (List.mem_range.2 hlt)
          rw [HT.out] at this
          cases this
        go_wp2_with fail
        go_quiet (fail)
        go_wp2
        go_ret
        exact ⟨ret_bool (by rw [FN.out]), HN.out.trans (by simpa using New.drewN w2 _)⟩
    · have FN : Hid (Sec.flows (Sec.rel up) n l1 l2 = true) := by
        show _ = _
        rw [FR.out, List.all_eq_true]
        intro a ha
        exact hok.out a (by have := List.mem_range.1 ha; omega)
      go_wp2_with fail
      go_ret
      exact ⟨ret_bool (by rw [FN.out]), HN.out.trans (New.drewN w2 _)⟩

set_option maxHeartbeats 1000000 in
theorem reads_any {w : World} {bb g n : Nat} {up : Nat → Nat} (h : LOrd w bb g n up) (who : Int) (p1 : Option Addr) (n1 c1 : Nat) (l1 : List (Int × Int)) (h1 : PairRow w p1 n1 l1) :
    Calls Try.prog 44 #[.pointer (some ⟨bb, 0, none⟩), .int .i64 who, .slice p1 n1 c1] w fun e w' => e = .returned (.bool (Sec.readsB (Sec.rel up) n who l1)) ∧ New w w' := by
  have hn := h.hn
  have c0 := h.c0
  by_cases hv : 0 ≤ who ∧ who < n
  · obtain ⟨hv0, hv1⟩ := hv
    obtain ⟨W, rfl⟩ := Int.eq_ofNat_of_zero_le hv0
    have hW : W < n := by omega
    have E : Hid (Sec.readsB (Sec.rel up) n (W : Int) l1 = (List.range n).all fun a => Sec.underP (Sec.rel up) n l1 a W) := by
      show _ = _
      unfold Sec.readsB Sec.reads
      rw [decide_eq_true (by omega)]; simp
    have g1 : decide ((W : Int) < 0) = false := decide_eq_false (by omega)
    have g2 : decide ((n : Int) ≤ (W : Int)) = false := decide_eq_false (by omega)
    go_enter Try.func44, Try.ntmps44
    go_wp2_with fail
    refine (of_any h _ _ _ l1 h1).mono ?_
    rintro e w1 ⟨gx, rfl, hg1, hg2, hx, hn1⟩
    have HX := Lib.hid hx
    have HN := Lib.hid hn1
    clear hx hn1
    go_wp2_with fail
    go_loop [23] (fun c => ∃ k : Nat, k ≤ n ∧ c = .int .i64 k ∧ Hid (∀ a, a < k → Sec.underP (Sec.rel up) n l1 a W = true)) (fun c => n - (intOf c).toNat)
    case atStart => exact ⟨0, Nat.zero_le _, rfl, fun a ha => by omega⟩
    case round =>
      obtain ⟨k, hk, rfl, hok⟩ := hrel
      by_cases hlt : k < n
      · have c1 := HX.out k hlt
        obtain ⟨t, ht⟩ : ∃ t, Sec.underP (Sec.rel up) n l1 k W = t := ⟨_, rfl⟩
        have hb : (Sec.under (Sec.rel up) n l1 k).testBit W = t := by unfold Sec.under; rw [Sec.testBit_mask, ht, decide_eq_true hW, Bool.true_and]
        have hT := bit_zero _ _ hb
        have HT := Lib.hid ht
        clear ht hb
        cases t with
        | true =>
          have OK2 : Hid (∀ a, a < k + 1 → Sec.underP (Sec.rel up) n l1 a W = true) := fun a ha => by
            by_cases e : a = k
            · subst e; exact HT.out
            · exact hok.out a (by omega)
          go_wp2_with fail
          go_round
          case rel => exact ⟨k + 1, by omega, by go_num, OK2⟩
          case measure => simp [intOf]; omega
        | false =>
          have FN : Hid (Sec.readsB (Sec.rel up) n (W : Int) l1 = false) := by
            show _ = _
            rw [E.out, Bool.eq_false_iff]
            intro hh
            rw [List.all_eq_true] at hh
            have := hh k (List.mem_range.2 hlt)
            rw [HT.out] at this
            cases this
          go_wp2_with fail
          go_ret
          exact ⟨ret_bool (by rw [FN.out]), HN.out⟩
      · have FN : Hid (Sec.readsB (Sec.rel up) n (W : Int) l1 = true) := by
          show _ = _
          rw [E.out, List.all_eq_true]
          intro a ha
          exact hok.out a (by have := List.mem_range.1 ha; omega)
        go_wp2_with fail
        go_ret
        exact ⟨ret_bool (by rw [FN.out]), HN.out⟩
  · have E : Hid (Sec.readsB (Sec.rel up) n who l1 = false) := by
      show _ = _
      unfold Sec.readsB
      rw [decide_eq_false hv]; rfl
    rcases Int.lt_or_le who 0 with k1 | k1
    · have g1 : decide (who < 0) = true := decide_eq_true k1
      go_enter Try.func44, Try.ntmps44
      go_wp2_with fail
      go_ret
      exact ⟨ret_bool (by rw [E.out]), Below.refl _ _⟩
    · have g1 : decide (who < 0) = false := decide_eq_false (by omega)
      have g2 : decide ((n : Int) ≤ who) = true := decide_eq_true (by omega)
      go_enter Try.func44, Try.ntmps44
      go_wp2_with fail
      go_ret
      exact ⟨ret_bool (by rw [E.out]), Below.refl _ _⟩
end Go.Proofs.Ytffmpkgggmoadaa
