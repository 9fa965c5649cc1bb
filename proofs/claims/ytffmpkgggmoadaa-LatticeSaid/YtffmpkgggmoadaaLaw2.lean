/-
  Proved: secretslaw.same, secretslaw.spoil. Conditions: rows of policies.
-/
import Derived.Test.YtffmpkgggmoadaaLaw1
namespace Go.Proofs.Ytffmpkgggmoadaa
open Go.ChangeShapes Go.WideShapes Go.ChangeAt Go.RowKit Go.Deep

theorem getD_ext {l m : List (Int × Int)} (hl : l.length = m.length) (h : ∀ i, i < l.length → l.getD i (0, 0) = m.getD i (0, 0)) : l = m := by
  apply List.ext_getElem hl
  intro i h1 h2
  have := h i h1
  simpa [List.getD, h1, h2] using this

/-- the answer, and the world drawn from at most. -/
def QuietBool (b : Bool) (w : World) (e : Ending) (w' : World) : Prop := ∃ k, e = .returned (.bool b) ∧ w' = w.drewN k

set_option maxHeartbeats 2000000 in
theorem same_any {w : World} (p1 p2 : Option Addr) (n1 n2 c1 c2 : Nat) (l1 l2 : List (Int × Int)) (h1 : PairRow w p1 n1 l1) (h2 : PairRow w p2 n2 l2) :
    Calls Try.prog 24 #[.slice p1 n1 c1, .slice p2 n2 c2] w (QuietBool (decide (l1 = l2)) w) := by
  have m1 := h1.hm
  have m2 := h2.hm
  by_cases hn : n1 = n2
  · subst hn
    have g0 : ((n1 : Int) != (n1 : Int)) = false := by simp
    go_enter Try.func24, Try.ntmps24
    go_wp2_with fail
    go_loopw [5] (fun c wr => ∃ i q : Nat, i ≤ n1 ∧ c = .int .i64 i ∧ wr = w.drewN q ∧ Hid (∀ j, j < i → l1.getD j (0, 0) = l2.getD j (0, 0))) (fun c _ => n1 - (intOf c).toNat)
    case atStart => exact ⟨0, 0, Nat.zero_le _, rfl, rfl, fun j hj => by omega⟩
    case round =>
      obtain ⟨i, q, hi, rfl, rfl, hok⟩ := hrel
      by_cases hlt : i < n1
      · obtain ⟨g1, rfl, _, hc1⟩ := h1.at_ (by omega)
        obtain ⟨g2, rfl, _, hc2⟩ := h2.at_ (by omega)
        have a1 := (hc1 i hlt).1
        have a2 := (hc1 i hlt).2
        have b1 := (hc2 i hlt).1
        have b2 := (hc2 i hlt).2
        have q1 : (0 : Int) ≤ (i : Int) := by omega
        have q2 : (i : Int) < (n1 : Int) := by omega
        clear hc1 hc2
        obtain ⟨x, y, hxy⟩ : ∃ x y, l1.getD i (0, 0) = (x, y) := ⟨_, _, rfl⟩
        obtain ⟨u, v, huv⟩ : ∃ x y, l2.getD i (0, 0) = (x, y) := ⟨_, _, rfl⟩
        rw [hxy] at a1 a2
        rw [huv] at b1 b2
        simp only at a1 a2 b1 b2
        have NO : (x, y) ≠ (u, v) → Hid (decide (l1 = l2) = false) := fun k => by
          show _ = _
          apply decide_eq_false
          intro e
          subst e
          rw [hxy] at huv
          exact k huv
        have HNO := Lib.hid NO
        have HXY := Lib.hid (And.intro hxy huv)
        clear hxy huv NO
        by_cases hx : x = u
        · subst hx
          by_cases hy : y = v
          · subst hy
            have OK2 : Hid (∀ j, j < i + 1 → l1.getD j (0, 0) = l2.getD j (0, 0)) := fun j hj => by
              by_cases e : j = i
              · subst e; rw [HXY.out.1, HXY.out.2]
              · exact hok.out j (by omega)
            have t1 : (x != x) = false := by simp
            have t2 : (y != y) = false := by simp
            go_wp2_with fail
            go_quiet (fail)
            go_wp2
            go_roundw
            case rel => exact ⟨i + 1, q + nq, by omega, by go_num, by simp, OK2⟩
            case measure => simp [intOf]; omega
          · have FN := HNO.out (by simp [hy])
            have t1 : (x != x) = false := by simp
            have t2 : (y != v) = true := by simp [hy]
            clear HNO
            go_wp2_with fail
            go_quiet (fail)
            go_wp2
            go_ret
            exact ⟨_, ret_bool (by rw [FN.out]), World.drewN_drewN _ _ _⟩
        · have FN := HNO.out (by simp [hx])
          have t1 : (x != u) = true := by simp [hx]
          clear HNO
          go_wp2_with fail
          go_quiet (fail)
          go_wp2
          go_ret
          exact ⟨_, ret_bool (by rw [FN.out]), World.drewN_drewN _ _ _⟩
      · have FN : Hid (decide (l1 = l2) = true) := by
          apply decide_eq_true
          exact getD_ext (by rw [h1.hl, h2.hl]) fun j hj => hok.out j (by rw [h1.hl] at hj; omega)
        go_wp2_with fail
        go_ret
        exact ⟨_, ret_bool (by rw [FN.out]), rfl⟩
  · have FN : Hid (decide (l1 = l2) = false) := by
      apply decide_eq_false
      intro e
      subst e
      exact hn (h1.hl.symm.trans h2.hl)
    have g0 : ((n1 : Int) != (n2 : Int)) = true := by simp; omega
    go_enter Try.func24, Try.ntmps24
    go_wp2_with fail
    go_ret
    exact ⟨0, ret_bool (by rw [FN.out]), rfl⟩

theorem grownBy_refl (w : World) (row : Option Nat) : w.grownBy w row := ⟨rfl, rfl, rfl, Nat.le_refl _, fun _ _ _ => rfl⟩

theorem grownBy_set {w w' : World} {g : Nat} (h : w.grownBy w' (some g)) (j : Nat) (v : Value) : w.grownBy (w'.setCell ⟨g, j, none⟩ v) (some g) :=
  ⟨h.os, h.tape, h.output, by simpa [World.setCell] using h.size, fun k hk hne => (Below.heap_setCell _ _ _ _ (fun e => hne (by rw [e]))).trans (h.block k hk hne)⟩

theorem ownsRow_new {w w' : World} {base : Nat} {e : TypeId} {size : Nat} {v : Value} {n : Nat} {xs : List Value} (h : w.ownsRow base e size v n xs) (k : New w w') : w'.ownsRow base e size v n xs := by
  obtain ⟨q1, q2⟩ := h
  refine ⟨q1, ?_⟩
  rcases q2 with q2 | ⟨g2, c2, cur, q3, q4, q5, q6⟩
  · exact .inl q2
  · have hb2 : g2 < w.heap.size := by rw [Array.getElem?_eq_some_iff] at q5; exact q5.1
    exact .inr ⟨g2, c2, cur, q3, q4, (k.block g2 hb2).trans q5, q6⟩

set_option maxHeartbeats 2000000 in
theorem spoil_any {w : World} {base : Nat} {p : Option Addr} {n c : Nat} {xs : List Value} (h : w.ownsRow base 64 2 (.slice p n c) n xs) :
    Calls Try.prog 25 #[.slice p n c] w fun e w' => e = .returned (.tuple #[]) ∧ w.grownBy w' (Value.slice p n c).ownBlock := by
  obtain ⟨_, h2⟩ := h
  rcases h2 with ⟨he, _⟩ | ⟨g, c', cur, he, hb, hg, hnc, hcm, hsz, _⟩
  · simp at he
    obtain ⟨rfl, rfl, rfl⟩ := he
    go_enter Try.func25, Try.ntmps25
    go_wp2
    refine wp_loop_rounds 1 ?_
    rw [rounds_succ]
    go_wp2
    go_end0
    exact ⟨rfl, grownBy_refl _ _⟩
  · simp at he
    obtain ⟨rfl, rfl⟩ := he
    unfold maxLen at hcm
    have hglt : g < w.heap.size := by rw [Array.getElem?_eq_some_iff] at hg; exact hg.1
    have f1 : Hid (∀ j, j < c * 2 → (∃ v, w.cell? ⟨g, j, none⟩ = some v) ∧ w.frozen? ⟨g, j, none⟩ = false) := fun j hj => by
      rw [cell_of_row _ _ _ _ _ _ hg]
      refine ⟨⟨cur[j]'(by omega), by simp [show j < cur.size by omega]⟩, ?_⟩
      simp [World.frozen?, hg]
    clear hg
    go_enter Try.func25, Try.ntmps25
    go_wp2_with fail
    go_loopw [3] (fun i wr => ∃ k : Nat, k ≤ c ∧ i = .int .i64 k ∧ w.grownBy wr (some g) ∧ Hid (∀ j, j < c * 2 → (∃ v, wr.cell? ⟨g, j, none⟩ = some v) ∧ wr.frozen? ⟨g, j, none⟩ = false)) (fun i _ => c - (intOf i).toNat)
    case atStart => exact ⟨0, Nat.zero_le _, rfl, grownBy_refl _ _, f1⟩
    case round =>
      obtain ⟨k, hk, rfl, bel, hf⟩ := hrel
      by_cases hlt : k < c
      · obtain ⟨⟨v0, d0⟩, z0⟩ := hf.out (k * 2) (by omega)
        obtain ⟨⟨v1, d1⟩, z1⟩ := hf.out (k * 2 + 1) (by omega)
        have HB := Lib.hid bel
        clear bel
        go_wp2_with fail
        go_roundw
        case rel =>
          refine ⟨k + 1, by omega, by go_num, grownBy_set (grownBy_set HB.out _ _) _ _, fun j hj => ?_⟩
          obtain ⟨⟨v, d⟩, z⟩ := hf.out j hj
          refine ⟨?_, by simpa [World.frozen?_setCell] using z⟩
          by_cases e1 : j = k * 2 + 1
          · subst e1
            exact ⟨_, World.cell?_setCell_same _ _ _ ((World.cell?_setCell_other _ _ _ _ (by simp)).trans d)⟩
          · by_cases e0 : j = k * 2
            · subst e0
              exact ⟨_, (World.cell?_setCell_other _ _ _ _ (by simp)).trans (World.cell?_setCell_same _ _ _ d)⟩
            · exact ⟨v, (World.cell?_setCell_other _ _ _ _ (by simp only [ne_eq, Addr.mk.injEq]; omega)).trans ((World.cell?_setCell_other _ _ _ _ (by simp only [ne_eq, Addr.mk.injEq]; omega)).trans d)⟩
        case measure => simp [intOf]; omega
      · go_wp2_with fail
        go_end0
        exact ⟨rfl, bel⟩
end Go.Proofs.Ytffmpkgggmoadaa
