/-
  Proved: slices.Repeat of one number, slices.Grow of nil. Conditions: small counts.
-/
import Derived.Test.YtffmpkgggmoadaaBase
import Derived.Laws.CopyOwn
import Derived.Lib.AppendZerosOnto
import Derived.Deep.Upon
import Derived.Test.YtffmpkgggmoadaaOrd
namespace Go.Proofs.Ytffmpkgggmoadaa
open Go.ChangeShapes Go.WideShapes Go.ChangeAt Go.RowKit Go.Deep

theorem mul_small (n : Nat) (hn : n ≤ 6) (w : World) :
    Calls Try.prog 54 #[.int .u64 1, .int .u64 n] w fun e w' => e = .returned (.tuple #[.int .u64 0, .int .u64 n]) ∧ w = w' := by
  have h : n = 0 ∨ n = 1 ∨ n = 2 ∨ n = 3 ∨ n = 4 ∨ n = 5 ∨ n = 6 := by omega
  rcases h with rfl | rfl | rfl | rfl | rfl | rfl | rfl
  all_goals
    go_enter Try.func54, Try.ntmps54
    go_wp2
    go_ret2
    exact ⟨rfl, rfl⟩

/-- what slices.Repeat of one number leaves. -/
def RepPost (n : Nat) (x : Int) (w : World) (e : Ending) (w' : World) : Prop :=
  ∃ g, e = .returned (.slice (some ⟨g, 0, none⟩) n n) ∧ w.heap.size ≤ g ∧ w'.heap[g]? = some (.cells (List.replicate n (.int .i64 x)).toArray 3 (0, 0)) ∧ New w w'

theorem info_int1 : (Try.prog.info? 3).map (·.size) = some 1 := by kernel_rfl

theorem made_list (z : Value) (n : Nat) : madeCells #[z] n = (List.replicate n z).toArray := by
  rw [← toList_madeCells_one]

theorem splice_rep {α : Type} (a z : α) (k m n : Nat) (h : k + m ≤ n) : splice (List.replicate k a ++ List.replicate (n - k) z) k (List.replicate m a) = List.replicate (k + m) a ++ List.replicate (n - (k + m)) z := by
  unfold splice
  rw [List.take_append_of_le_length (by simp), List.take_of_length_le (by simp), List.length_replicate]
  rw [List.drop_append, List.drop_of_length_le (by simp), List.nil_append, List.drop_replicate, List.length_replicate]
  rw [← List.append_assoc, List.replicate_append_replicate]
  congr 2
  omega

theorem one_cell {w : World} {b : Nat} {v : Value} (h : w.cell? ⟨b, 0, none⟩ = some v) : ∀ j u, [v][j]? = some u → w.cell? ((⟨b, 0, none⟩ : Addr).add j) = some u := by
  intro j u hj
  match j, hj with
  | 0, hj => simp at hj; subst hj; simpa [Addr.add] using h

set_option maxHeartbeats 1000000 in
theorem repeat_any (n : Nat) (hn : n ≤ 6) (x : Int) (b : Nat) (w : World) (hc : w.cell? ⟨b, 0, none⟩ = some (.int .i64 x)) :
    Calls Try.prog 50 #[.slice (some ⟨b, 0, none⟩) 1 1, .int .i64 n] w (RepPost n x w) := by
  have hmk := run_make_row' (P := Try.prog) 74 3 (.int .i64 0) 8 Try.underlying74 info_int rfl .i64 .i64 n (by omega) (by omega)
  have hlt := World.block_lt_of_cell? w _ hc
  by_cases h0 : n = 0
  · subst h0
    have hmk0 : ∀ w, (Instr.makeSlice 74 (.int .i64 0) (.int .i64 0)).run Try.prog w = .ok (.slice (some ⟨w.heap.size, 0, none⟩) 0 0) (w.alloc (.cells (madeCells #[.int .i64 0] 0) 3)) := hmk
    clear hmk
    have fin : RepPost 0 x w (.returned (.slice (some ⟨w.heap.size, 0, none⟩) 0 0)) (w.alloc (.cells (madeCells #[.int .i64 0] 0) 3)) :=
      ⟨w.heap.size, rfl, Nat.le_refl _, by rw [made_list]; exact heap_new' _ _ _ rfl, (Below.refl _ _).alloc (Nat.le_refl _) _⟩
    have FIN := Lib.hid fin
    clear fin
    go_enter Try.func50, Try.ntmps50
    go_wp2_with (first
      | (go_at_call 54; refine (mul_small 0 (by omega) _).mono ?_; rintro e w1 ⟨rfl, rfl⟩)
      | (refine wpList_copy_nothing rfl (.tmp 31) (.tmp 32) _ _ rfl 3 Try.underlying74 info_int1 (some ⟨w.heap.size, 0, none⟩) (some ⟨b, 0, none⟩) 0 0 1 1 (by rfl) (by rfl) (by rfl) ?_))
    refine wp_loop_rounds 1 ?_
    rw [rounds_succ]
    go_wp2
    go_ret
    exact FIN.out
  · have hn0 : 0 < n := by omega
    have HG : Hid ((w.alloc (.cells (madeCells #[.int .i64 0] n) 3)).heap[w.heap.size]? = some (.cells (List.replicate n (Value.int .i64 0)).toArray 3 (0, 0))) := by rw [made_list]; exact heap_new' _ _ _ rfl
    have HC : Hid ((w.alloc (.cells (madeCells #[.int .i64 0] n) 3)).cell? ⟨b, 0, none⟩ = some (.int .i64 x)) := (World.cell?_alloc_past _ _ _ hlt).trans hc
    go_enter Try.func50, Try.ntmps50
    go_wp2_with (first
      | (go_at_call 54; refine (mul_small n hn _).mono ?_; rintro e w1 ⟨rfl, rfl⟩)
      | (refine wpList_copy_splice rfl (.tmp 31) (.tmp 32) _ _ rfl 3 Try.underlying74 info_int1 (some ⟨w.heap.size, 0, none⟩) (some ⟨b, 0, none⟩) n n 1 1 (by rfl) (by rfl) w.heap.size 0 (List.replicate n (.int .i64 0)) 3 HG.out [.int .i64 x] (show 1 = Nat.min 1 n from (Nat.min_eq_left hn0).symm) (fun _ => ⟨rfl, _, rfl, one_cell HC.out⟩) (by simp; omega) (by simp [Value.oneCell']) w.heap.size w ((Below.refl _ _).alloc (Nat.le_refl _) _) (Nat.le_refl _) ?_; intro w1 hg1 hb1))
    have HB := Lib.hid hb1
    have HG1 : Hid (w1.heap[w.heap.size]? = some (.cells (List.replicate 1 (Value.int .i64 x) ++ List.replicate (n - 1) (Value.int .i64 0)).toArray 3 (0, 0))) := by
      have h := hg1.out
      have e : splice (List.replicate n (Value.int .i64 0)) 0 [Value.int .i64 x] = List.replicate 1 (Value.int .i64 x) ++ List.replicate (n - 1) (Value.int .i64 0) := by
        have := splice_rep (Value.int .i64 x) (Value.int .i64 0) 0 1 n (by omega)
        simpa using this
      rw [e] at h
      exact h
    clear hb1 hg1 HG HC hmk hc
    go_loopw [8] (fun c wr => ∃ k : Nat, 1 ≤ k ∧ k ≤ n ∧ c = .int .i64 k ∧ Hid (wr.heap[w.heap.size]? = some (.cells (List.replicate k (Value.int .i64 x) ++ List.replicate (n - k) (Value.int .i64 0)).toArray 3 (0, 0))) ∧ Hid (New w wr)) (fun c _ => n - (intOf c).toNat)
    case atStart => exact ⟨1, Nat.le_refl _, hn0, rfl, HG1, HB⟩
    case round =>
      clear HG1 HB
      obtain ⟨k, hk1, hkn, rfl, HG, HB⟩ := hrel
      by_cases hlt : k < n
      · obtain ⟨m, hm⟩ : ∃ m, min k (n - k) = m := ⟨_, rfl⟩
        have hm1 : 1 ≤ m := by omega
        have hm2 : k + m ≤ n := by omega
        have HM := Lib.hid hm
        have q1 : (0 : Int) ≤ (k : Int) := by omega
        have q2 : (k : Int) ≤ (n : Int) := by omega
        have q3 : IntKind.i64.wrap ((k : Int) + (m : Int)) = (k : Int) + (m : Int) := IntWalk.i64_in _ (by omega)
        have hcs : Hid (∀ j v, (List.replicate m (Value.int .i64 x))[j]? = some v → wr.cell? ((⟨w.heap.size, 0, none⟩ : Addr).add j) = some v) := by
          intro j v hj
          have ea : (⟨w.heap.size, 0, none⟩ : Addr).add j = ⟨w.heap.size, j, none⟩ := by unfold Addr.add; split <;> simp_all
          rw [List.getElem?_replicate] at hj
          split at hj
          · cases hj
            rw [ea, cell_of_row _ _ _ _ _ _ HG.out]
            simp only [List.getElem?_toArray]
            rw [List.getElem?_append_left (by simp; omega), List.getElem?_replicate, if_pos (by omega)]
          · cases hj
        have hcsl : Hid ((List.replicate m (Value.int .i64 x)).length = Nat.min k (n - k)) := by
          show _ = min k (n - k)
          rw [hm]; simp
        clear hm
        have hnk : ¬ n = k := by omega
        have hrun := run_copy_row (P := Try.prog) wr.drew 74 74 3 3 w.heap.size k (n - k) (n - k) ⟨w.heap.size, 0, none⟩ k n (List.replicate k (Value.int .i64 x) ++ List.replicate (n - k) (Value.int .i64 0)).toArray 3 (List.replicate m (.int .i64 x)) Try.underlying74 info_int1 HG.out hcsl.out hcs.out (by simp; omega) (by simp [Value.oneCell'])
        have e1 : (List.take k (List.replicate k (Value.int .i64 x) ++ List.replicate (n - k) (Value.int .i64 0)).toArray.toList ++ List.replicate m (Value.int .i64 x) ++ List.drop (k + (List.replicate m (Value.int .i64 x)).length) (List.replicate k (Value.int .i64 x) ++ List.replicate (n - k) (Value.int .i64 0)).toArray.toList) = List.replicate (k + m) (Value.int .i64 x) ++ List.replicate (n - (k + m)) (Value.int .i64 0) := by
          have := splice_rep (Value.int .i64 x) (Value.int .i64 0) k m n hm2
          unfold splice at this
          rw [← List.append_assoc] at this
          exact this
        rw [e1] at hrun
        have HR : Hid ((wr.drew.setRow w.heap.size (List.replicate (k + m) (Value.int .i64 x) ++ List.replicate (n - (k + m)) (Value.int .i64 0)).toArray).heap[w.heap.size]? = some (.cells (List.replicate (k + m) (Value.int .i64 x) ++ List.replicate (n - (k + m)) (Value.int .i64 0)).toArray 3 (0, 0))) := setRow_heap _ _ _ _ _ _ HG.out
        have HB2 : Hid (New w (wr.drew.setRow w.heap.size (List.replicate (k + m) (Value.int .i64 x) ++ List.replicate (n - (k + m)) (Value.int .i64 0)).toArray)) := below_setRow HB.out.drew (Nat.le_refl _) _
        have hlm : (List.replicate m (Value.int .i64 x)).length = m := by simp
        rw [hlm] at hrun
        clear e1 hlm
        obtain ⟨A, hA⟩ : ∃ A, A = (List.replicate (k + m) (Value.int .i64 x) ++ List.replicate (n - (k + m)) (Value.int .i64 0)).toArray := ⟨_, rfl⟩
        rw [← hA] at hrun HR HB2
        have HA := Lib.hid hA
        clear hA
        go_wp2_with fail
        go_region
        go_wp2
        go_roundw
        case rel => exact ⟨k + m, by omega, hm2, by go_num, by rw [← HA.out]; exact HR, HB2⟩
        case measure => simp [intOf]; omega
      · have hkn2 : k = n := by omega
        subst hkn2
        have fin : RepPost k x w (.returned (.slice (some ⟨w.heap.size, 0, none⟩) k k)) wr := ⟨_, rfl, Nat.le_refl _, by have := HG.out; simpa using this, HB.out⟩
        have FIN := Lib.hid fin
        clear fin
        go_wp2
        go_ret
        exact FIN.out

theorem info_pol : (Try.prog.info? 64).map (fun i => (i.zero, i.size, i.bytes)) = some (some (.agg #[.int .i64 0, .int .i64 0]), 2, 16) := by kernel_rfl

/-- an append whose run is known. -/
theorem wpList_append_run {P : Program} {w : World} {ops : Array Oper} {rest : List Oper} {o : Oper} {a : Act} {Q : Exit → Act → World → Prop} (hgd : o.guard = none) (s x : Operand) (t1 t2 : TypeId)
    (ho : o.op = .call { callee := .builtin .append, args := #[s, x], argTypes := #[t1, t2] }) (vs vx v' : Value) (w' : World) (hs : a.eval s = vs) (hx : a.eval x = vx)
    (hrun : ∀ ty, (Builtin.append_ #[t1, t2] ty #[vs, vx]).run P w = .ok v' w')
    (h : wpList P ops Q rest (a.put o.dst v') w') : wpList P ops Q (o :: rest) a w := by
  refine wpList_plain hgd fun K hK => ?_
  unfold Oper.wp
  simp [execOp, ho, resolve, invoke, builtin, hs, hx, hrun, Result.andThen]
  exact hK _ _ h

/-- what slices.Grow of nil leaves. -/
def GrowPost (w : World) (e : Ending) (w' : World) : Prop :=
  ∃ pt cp, e = .returned (.slice pt 0 cp) ∧ w'.ownsRow w.heap.size 64 2 (.slice pt 0 cp) 0 [] ∧ New w w'

set_option maxHeartbeats 1000000 in
theorem grow_nil (n : Nat) (hn : n ≤ 2097152) (w : World) :
    Calls Try.prog 53 #[.slice none 0 0, .int .i64 n] w (GrowPost w) := by
  by_cases h0 : n = 0
  · subst h0
    have fin : GrowPost w (.returned (.slice none 0 0)) w := ⟨none, 0, rfl, World.ownsRow_nil _ _ _ _, Below.refl _ _⟩
    have FIN := Lib.hid fin
    clear fin
    go_enter Try.func53, Try.ntmps53
    go_wp2
    go_ret
    exact FIN.out
  · obtain ⟨i0, hi, hz0, hz1, hz2⟩ := info_parts info_pol
    have hn0 : (0 : Int) < n := by omega
    have hfit : Builtin.nextslicecap (0 + n) 0 * i0.bytes ≤ 281474976710656 := by
      rw [hz2]
      have : Builtin.nextslicecap (0 + n) 0 = n := by unfold Builtin.nextslicecap; rw [if_pos (by omega)]; omega
      rw [this]; omega
    have hrun : ∀ ty, _ := fun ty => Lib.run_append_grow_zeros (P := Try.prog) w 37 3 ty 64 i0 _ .i64 .i64 Try.underlying37 Try.underlying3 hi hz0 none 0 0 [] (run_firstCells_none w.drew i0.size 0 0 0) n (by omega) (by omega) (by omega) (by omega) (by rw [hz2]; omega) hfit
    have hge : n ≤ grownCap w (0 + n) 0 64 := by have := grownCap_ge w (0 + n) 0 64; omega
    have hle : grownCap w (0 + n) 0 64 ≤ maxLen := grownCap_le_maxLen _ _ _ _ (by unfold maxLen; omega)
    obtain ⟨G, hG⟩ : ∃ G, grownCap w (0 + n) 0 64 = G := ⟨_, rfl⟩
    rw [hG] at hrun hge hle
    clear hG hfit
    obtain ⟨cells, hcells⟩ : ∃ cells, cells = (([] : List Value).toArray ++ Builtin.zeroCells (Value.agg #[.int .i64 0, .int .i64 0]).cells n ++ Builtin.zeroCells (Value.agg #[.int .i64 0, .int .i64 0]).cells (G - (0 + n))) := ⟨_, rfl⟩
    have hsz : cells.size = G * 2 := by
      rw [hcells]
      simp only [Array.size_append, size_zeroCells]
      simp [Value.cells]; omega
    rw [← hcells] at hrun
    clear hcells
    rw [Nat.zero_add] at hrun
    have fin : GrowPost w (.returned (.slice (some ⟨w.heap.size, 0, none⟩) 0 G)) (w.drew.alloc (.cells cells 64)) :=
      ⟨_, G, rfl, World.ownsRow_made w.drew cells G (Nat.le_refl _) hle hsz, ((Below.refl _ _).drew).alloc (Nat.le_refl _) _⟩
    have FIN := Lib.hid fin
    clear fin
    unfold maxLen at hle
    have HR := Lib.hid hrun
    clear hrun
    go_enter Try.func53, Try.ntmps53
    go_wp2_with (at_builtin; go_must (refine wpList_append_run rfl (.tmp 20) (.tmp 21) 37 3 rfl (.slice none 0 0) (.int .i64 n) _ _ (by rfl) (by rfl) HR.out ?_))
    go_ret
    exact FIN.out
end Go.Proofs.Ytffmpkgggmoadaa
