/-
  Proved: secretskeep.policies, same, alone. Conditions: rows of at most 2^20; an order lies in memory.
-/
import Derived.Test.YtffmpkgggmoadaaWrap
import Derived.Test.YtffmpkgggmoadaaPlain3
import Derived.Laws.StructEq
namespace Go.Proofs.Ytffmpkgggmoadaa
open Go.ChangeShapes Go.WideShapes Go.ChangeAt Go.RowKit Go.Deep

theorem eq_pol (a b c d : Int) (w : World) : (Op.equalIn 10000 64 (.agg #[.int .i64 a, .int .i64 b]) (.agg #[.int .i64 c, .int .i64 d])).run Try.prog w = .ok (a == c && b == d) w := by
  have hS : Try.prog.underlying 64 = some (.struct (Try.prog.fieldsOf 64)) := by kernel_rfl
  have hp : Try.prog.stoodInHeld 64 = false := by kernel_rfl
  rw [show (10000 : Nat) = 9999 + 1 from rfl, run_equalIn_agg w 9999 64 _ _ hS hp]
  simp only [Program.fieldsOf, Try.underlying64]
  go_simp
  by_cases h1 : a = c <;> by_cases h2 : b = d <;> simp [h1, h2]

theorem neq_pol {a b c d : Int} {t : Bool} (h : (a == c && b == d) = t) (w : World) : (Go.binOp .neq 64 (.agg #[.int .i64 a, .int .i64 b]) (.agg #[.int .i64 c, .int .i64 d])).run Try.prog w = Result.ok (Value.bool (!t)) w := by
  rw [run_neq_struct, eq_pol, h]; rfl

theorem guard_pol : Try.prog.eqGuardType Try.prog.depth 64 = false := by kernel_rfl

/-- what keeps' policies leaves. -/
def KPolPost (m : Nat) (l : List (Int × Int)) (w : World) (e : Ending) (w' : World) : Prop :=
  ∃ pa ca, e = .returned (.slice pa m ca) ∧ PairRow w' pa m l ∧ New w w'

set_option maxHeartbeats 4000000 in
set_option maxRecDepth 100000 in
theorem kpolicies_any (w : World) (a : Option Addr) (len cap : Nat) (zs : List Int) (hz : IsRow .i64 w a len cap zs) (hlen : len ≤ 1048576) :
    Calls Try.prog 27 #[.slice a len cap] w (KPolPost (len / 2) (Sec.pairsOf (zs.take len)) w) := by
  obtain ⟨i0, hi, hz0, hz1, hz2⟩ := info_parts info_pol
  obtain ⟨l, hl⟩ : ∃ l, Sec.pairsOf (zs.take len) = l := ⟨_, rfl⟩
  have hlz := hz.len_le
  have HLL := Lib.hid (pairs_len hl hlz)
  have HL := Lib.hid hl
  rw [hl]
  clear hl
  go_enter Try.func27, Try.ntmps27
  go_wp2_with fail
  go_loopw [3, 4] (fun va c wr => ∃ i k ca : Nat, ∃ pa, Hid (k = i * 2) ∧ k ≤ len ∧ c = .int .i64 k ∧ va = .slice pa i ca ∧ wr.ownsRow w.heap.size 64 2 (.slice pa i ca) i (flat (l.take i)) ∧ New w wr) (fun _ c _ => len - (intOf c).toNat)
  case atStart => exact ⟨0, 0, 0, none, rfl, Nat.zero_le _, rfl, rfl, World.ownsRow_nil _ _ _ _, Below.refl _ _⟩
  case round =>
    obtain ⟨i, k, ca, pa, hk, hkl, rfl, rfl, hown, hnew⟩ := hrel
    by_cases hlt : k + 1 < len
    · obtain ⟨b, off, rfl, hb, hc⟩ := hz.get (by omega)
      have hb' : b < wr.heap.size := Nat.lt_of_lt_of_le hb hnew.size
      have ha1 : wr.cell? ⟨b, off + k, none⟩ = _ := (hnew.cell (p := ⟨b, off + k, none⟩) hb).trans (hc k (by omega))
      have ha2 : wr.cell? ⟨b, off + (k + 1), none⟩ = _ := (hnew.cell (p := ⟨b, off + (k + 1), none⟩) hb).trans (hc (k + 1) (by omega))
      have e1 := Lib.hid (pairs_step HL.out hlz hk.out hlt)
      obtain ⟨x, hx⟩ : ∃ x, zs.getD k 0 = x := ⟨_, rfl⟩
      obtain ⟨y, hy⟩ : ∃ y, zs.getD (k + 1) 0 = y := ⟨_, rfl⟩
      rw [hx] at ha1 e1
      rw [hy] at ha2 e1
      clear hx hy hc
      have hbo : some b ≠ (Value.slice pa i ca).ownBlock := fun e => by have := (hown.lt b e.symm).1; omega
      have HN := Lib.hid hnew
      clear hnew
      have hib : i < 1048576 := by have := hk.out; omega
      have q1 : (0 : Int) ≤ (k : Int) := by omega
      have q2 : (k : Int) < (len : Int) := by omega
      have q3 : (0 : Int) ≤ (k : Int) + 1 := by omega
      have q4 : (k : Int) + 1 < (len : Int) := by omega
      have q5 : IntKind.i64.wrap ((k : Int) + 1) = (k : Int) + 1 := IntWalk.i64_in _ (by omega)
      have q6 : ((k : Int) + 1).toNat = k + 1 := by omega
      go_wp2_with fail
      go_region_held3 (fun w' => w'.cell? ⟨b, off + k, none⟩ = some (.int .i64 x) ∧ w'.cell? ⟨b, off + (k + 1), none⟩ = some (.int .i64 y))
        (first
          | go_keep
          | (go_split_ands
             refine ⟨?_, ?_⟩
             · (rw [hgrow.cell_far _ (by simp; omega) hbo]; assumption)
             · (rw [hgrow.cell_far _ (by simp; omega) hbo]; assumption)))
        ((refine step_append_lies _ (by rfl) _ _ _ (by rfl) w.heap.size 64 i0 _ 2 16 Try.underlying37 hi hz0 hz1 hz2 rfl (by omega) (.slice pa i ca) i (flat (l.take i)) (by rfl) ((hown.alloc _).drew) ⟨wr.heap.size, 0, none⟩ 1 1 [.int .i64 x, .int .i64 y] (by rfl) (by rfl) (World.news_of_block (cs := #[.int .i64 x, .int .i64 y]) (t := 64) (fr := (0, 0)) (heap_alloc_new wr _)) (by simp [Value.oneCell']) (by omega) (by unfold maxLen; omega) (by omega) (by have := HN.out.size; simp; omega) (wr.heap.size + 1) (by simp) ?_; intro gg cap1 w1 hown1 hgrow hat hltg))
      have hw1 : New w w1 := Below.grown (Below.drew (HN.out.trans (New.alloc wr _))) hgrow (by have := HN.out.size; simp; omega) (fun j hj => (hown.lt j hj).1)
      rw [← e1.out] at hown1
      have ST := Lib.hid (And.intro hown1 hw1)
      have hkn : Hid (k + 2 = (i + 1) * 2) := by have := hk.out; show k + 2 = _; omega
      clear hown1 hw1 hgrow hat hown
      go_wp2_with fail
      go_roundw
      case rel => exact ⟨i + 1, k + 2, cap1, _, hkn, by omega, by go_num, rfl, ST.out.1, ST.out.2⟩
      case measure => simp [intOf]; omega
    · have hi2 : i = len / 2 := by have := hk.out; omega
      have el : l.take i = l := List.take_of_length_le (by have := HLL.out; omega)
      rw [el] at hown
      have fin : KPolPost (len / 2) l w (.returned (.slice pa i ca)) wr := ⟨pa, ca, by rw [hi2], by rw [← hi2]; exact pairRow_of hown (by omega), hnew⟩
      have FIN := Lib.hid fin
      clear fin hi2 el hk hown
      go_wp2_with fail
      go_ret
      exact FIN.out

set_option maxHeartbeats 2000000 in
theorem ksame_any {w : World} (p1 p2 : Option Addr) (n1 n2 c1 c2 : Nat) (l1 l2 : List (Int × Int)) (h1 : PairRow w p1 n1 l1) (h2 : PairRow w p2 n2 l2) :
    Calls Try.prog 28 #[.slice p1 n1 c1, .slice p2 n2 c2] w (QuietBool (decide (l1 = l2)) w) := by
  have m1 := h1.hm
  have m2 := h2.hm
  by_cases hn : n1 = n2
  · subst hn
    have g0 : ((n1 : Int) != (n1 : Int)) = false := by simp
    go_enter Try.func28, Try.ntmps28
    go_wp2_with fail
    go_loopw [5] (fun c wr => ∃ i q : Nat, i ≤ n1 ∧ c = .int .i64 i ∧ wr = w.drewN q ∧ Hid (∀ j, j < i → l1.getD j (0, 0) = l2.getD j (0, 0))) (fun c _ => n1 - (intOf c).toNat)
    case atStart => exact ⟨0, 0, Nat.zero_le _, rfl, rfl, fun j hj => by omega⟩
    case round =>
      obtain ⟨i, q, hi, rfl, rfl, hok⟩ := hrel
      by_cases hlt : i < n1
      · obtain ⟨g1, rfl, _, hc1⟩ := h1.at_ (by omega)
        obtain ⟨g2, rfl, _, hc2⟩ := h2.at_ (by omega)
        have a1 := (hc1 i hlt).1
        have a2 := (hc1 i hlt).2
        have b1 := (hc2 i hlt).1
        have b2 := (hc2 i hlt).2
        have q1 : (0 : Int) ≤ (i : Int) := by omega
        have q2 : (i : Int) < (n1 : Int) := by omega
        clear hc1 hc2
        obtain ⟨x, y, hxy⟩ : ∃ x y, l1.getD i (0, 0) = (x, y) := ⟨_, _, rfl⟩
        obtain ⟨u, v, huv⟩ : ∃ x y, l2.getD i (0, 0) = (x, y) := ⟨_, _, rfl⟩
        rw [hxy] at a1 a2
        rw [huv] at b1 b2
        simp only at a1 a2 b1 b2
        have NO : (x, y) ≠ (u, v) → Hid (decide (l1 = l2) = false) := fun k => by
          show _ = _
          apply decide_eq_false
          intro e
          subst e
          rw [hxy] at huv
          exact k huv
        have HNO := Lib.hid NO
        have HXY := Lib.hid (And.intro hxy huv)
        clear hxy huv NO
        have hG := guard_pol
        obtain ⟨t, ht⟩ : ∃ t, (x == u && y == v) = t := ⟨_, rfl⟩
        have hN := fun w => neq_pol ht w
        have HT := Lib.hid ht
        clear ht
        cases t with
        | true =>
          have OK2 : Hid (∀ j, j < i + 1 → l1.getD j (0, 0) = l2.getD j (0, 0)) := fun j hj => by
            by_cases e : j = i
            · subst e
              have := HT.out
              simp at this
              rw [HXY.out.1, HXY.out.2, this.1, this.2]
            · exact hok.out j (by omega)
          go_wp2_with fail
          go_quiet (fail)
          go_wp2
          go_roundw
          case rel => exact ⟨i + 1, q + nq, by omega, by go_num, by simp, OK2⟩
          case measure => simp [intOf]; omega
        | false =>
          have FN := HNO.out (by
            intro e
            have := HT.out
            simp at e this
            exact this e.1 e.2)
          clear HNO
          go_wp2_with fail
          go_quiet (fail)
          go_wp2
          go_ret
          exact ⟨_, ret_bool (by rw [FN.out]), World.drewN_drewN _ _ _⟩
      · have FN : Hid (decide (l1 = l2) = true) := by
          apply decide_eq_true
          exact getD_ext (by rw [h1.hl, h2.hl]) fun j hj => hok.out j (by rw [h1.hl] at hj; omega)
        go_wp2_with fail
        go_ret
        exact ⟨_, ret_bool (by rw [FN.out]), rfl⟩
  · have FN : Hid (decide (l1 = l2) = false) := by
      apply decide_eq_false
      intro e
      subst e
      exact hn (h1.hl.symm.trans h2.hl)
    have g0 : ((n1 : Int) != (n2 : Int)) = true := by simp; omega
    go_enter Try.func28, Try.ntmps28
    go_wp2_with fail
    go_ret
    exact ⟨0, ret_bool (by rw [FN.out]), rfl⟩

variable {p o b g n : Nat} {up : Nat → Nat}

theorem pover_nat {w : World} (h : POrd w p o b g n up) (x y : Nat) (hx : x < n) (hy : y < n) :
    Calls Try.prog 13 #[.pointer (some ⟨p, 0, none⟩), .int .i64 x, .int .i64 y] w fun e w' => e = .returned (.bool (Sec.rel up x y)) ∧ w = w' := by
  have k1 := h.cp
  have k2 := h.co
  go_enter Try.func13, Try.ntmps13
  go_wp2_with (first
    | (go_at_call 40; refine (over_gen h.lo x y hx hy).mono ?_; rintro e w1 ⟨rfl, rfl⟩)
    | go_in)
  go_ret
  exact ⟨rfl, rfl⟩

theorem pactors_any {w : World} (h : POrd w p o b g n up) :
    Calls Try.prog 12 #[.pointer (some ⟨p, 0, none⟩)] w fun e w' => e = .returned (.int .i64 (n : Nat)) ∧ w = w' := by
  have k1 := h.cp
  have k2 := h.co
  have k3 := h.lo.c0
  go_enter Try.func12, Try.ntmps12
  go_wp2
  go_ret
  exact ⟨rfl, rfl⟩

theorem one_row (w : World) (x y : Int) (T : TypeId) : PairRow (w.alloc (.cells #[.int .i64 x, .int .i64 y] T)) (some ⟨w.heap.size, 0, none⟩) 1 [(x, y)] := by
  refine ⟨rfl, by omega, fun _ => ⟨w.heap.size, rfl, by simp, fun j hj => ?_⟩⟩
  obtain rfl : j = 0 := by omega
  constructor
  · rw [World.cell?_alloc_at _ _ _ _ rfl]; rfl
  · rw [World.cell?_alloc_at _ _ _ _ rfl]; rfl

set_option maxHeartbeats 2000000 in
theorem alone_any {w : World} (h : POrd w p o b g n up) (H : Sec.Pre n (Sec.rel up)) :
    Calls Try.prog 29 #[.pointer (some ⟨p, 0, none⟩)] w fun e w' => e = .returned (.bool true) ∧ New w w' := by
  have n6 := h.lo.hn
  go_enter Try.func29, Try.ntmps29
  go_wp2_with fail
  refine (pactors_any h).mono ?_
  rintro e w1 ⟨rfl, rfl⟩
  go_wp2_with fail
  go_loopw [4] (fun c wr => ∃ k : Nat, k ≤ n ∧ c = .int .i64 k ∧ New w wr) (fun c _ => n - (intOf c).toNat)
  case atStart => exact ⟨0, Nat.zero_le _, rfl, Below.refl _ _⟩
  case round =>
    obtain ⟨k, hk, rfl, hnw⟩ := hrel
    by_cases hlt : k < n
    · have HN := Lib.hid (hnw.trans (New.alloc wr (.cells #[.int .i64 k, .int .i64 0] 64)))
      have R0 := one_row wr k 0 64
      clear hnw
      go_wp2_with fail
      obtain ⟨B, hB⟩ : ∃ B, wr.heap.size = B := ⟨_, rfl⟩
      obtain ⟨wo, hwo⟩ : ∃ wo : World, wr.alloc (.cells #[.int .i64 k, .int .i64 0] 64) = wo := ⟨_, rfl⟩
      rw [hwo] at HN R0 ⊢
      rw [hB] at R0 ⊢
      have L0 : New wo wo := Below.refl _ _
      clear hwo hB
      go_loopw [6] (fun c wq => ∃ j : Nat, j ≤ n ∧ c = .int .i64 j ∧ New wo wq) (fun c _ => n - (intOf c).toNat)
      case atStart => exact ⟨0, Nat.zero_le _, rfl, L0⟩
      case round =>
        clear L0
        obtain ⟨j, hj, rfl, hnq⟩ := hrel
        by_cases hjn : j < n
        · have s0 := h.below (HN.out.trans hnq)
          have r0 := R0.below hnq
          have e1 := Sec.reads_own H hlt hjn
          have e2 := Sec.flows_own H hlt hjn
          obtain ⟨t, ht⟩ : ∃ t, Sec.rel up j k = t := ⟨_, rfl⟩
          rw [ht] at e1 e2
          have HQ := Lib.hid hnq
          have HE := Lib.hid (And.intro e1 (And.intro e2 ht))
          clear e1 e2 ht hnq
          have C1 := pover_nat s0 j k hjn hlt
          rw [HE.out.2.2] at C1
          go_wp2_with fail
          refine C1.mono ?_
          clear C1
          rintro e w2 ⟨rfl, rfl⟩
          have C2 := preads_any s0 (j : Int) _ _ 1 _ r0
          rw [Sec.readsB_nat hjn, HE.out.1] at C2
          go_wp2_with fail
          refine C2.mono ?_
          clear C2
          rintro e w2 ⟨rfl, n2⟩
          have s2 := (s0.below n2).below (New.alloc w2 (.cells #[.int .i64 j, .int .i64 0] 64))
          have r2 := (r0.below n2).below (New.alloc w2 (.cells #[.int .i64 j, .int .i64 0] 64))
          have r3 := one_row w2 j 0 64
          have C3 := pflows_any s2 _ _ _ _ 1 1 _ _ r2 r3
          rw [HE.out.2.1] at C3
          go_wp2_with fail
          refine C3.mono ?_
          clear C3
          rintro e w3 ⟨rfl, n3⟩
          have HQ3 := Lib.hid (((HQ.out.trans n2).trans (New.alloc w2 _)).trans n3)
          clear n2 n3
          go_wp2_with fail
          go_roundw
          case rel => exact ⟨j + 1, by omega, by go_num, HQ3.out⟩
          case measure => simp [intOf]; omega
        · go_wp2_with fail
          go_roundw
          case rel => exact ⟨k + 1, by omega, by go_num, HN.out.trans hnq⟩
          case measure => simp [intOf]; omega
    · go_wp2_with fail
      go_ret
      exact ⟨rfl, hnw⟩
end Go.Proofs.Ytffmpkgggmoadaa
