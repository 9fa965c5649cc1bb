/-
  Proved: secretsref.Order.Flows, Reads, Norm, Join. Conditions: as for Under.
-/
import Derived.Test.YtffmpkgggmoadaaRNorm
namespace Go.Proofs.Ytffmpkgggmoadaa
open Go.ChangeShapes Go.WideShapes Go.ChangeAt Go.RowKit Go.Deep

variable {w : World} {q h n cp : Nat} {pt : Option Addr} {r : Nat → Nat} {R : Nat → Nat → Bool}

theorem rflow_test (R : Nat → Nat → Bool) (n : Nat) (hn : n ≤ 6) (l m : List (Int × Int)) (a : Nat) {t : Bool} (h : Sec.rowOk R n l m a = t) : (bits .or .i64 (Sec.under R n l a : Nat) (Sec.under R n m a : Nat) != (Sec.under R n l a : Nat)) = !t := by
  unfold Sec.under
  have b1 := mask_le n hn (Sec.underP R n l a)
  have b2 := mask_le n hn (Sec.underP R n m a)
  rw [or_nat _ _ (by omega) (by omega), Sec.mask_or, bne_cast, Sec.mask_sub]
  rw [← h]; rfl

set_option maxHeartbeats 1000000 in
theorem rflows_any (o : ROrd w q h n cp pt r R) (p1 p2 : Option Addr) (n1 n2 c1 c2 : Nat) (l1 l2 : List (Int × Int)) (h1 : PairRow w p1 n1 l1) (h2 : PairRow w p2 n2 l2) :
    Calls Try.prog 22 #[.pointer (some ⟨q, 0, none⟩), .slice p1 n1 c1, .slice p2 n2 c2] w fun e w' => e = .returned (.bool (Sec.flows R n l1 l2)) ∧ New w w' := by
  have hn := o.hn
  have FR := Lib.hid (Sec.flows_rows R n l1 l2)
  go_enter Try.func22, Try.ntmps22
  go_wp2_with fail
  go_loopw [7] (fun c wr => ∃ k : Nat, k ≤ n ∧ c = .int .i64 k ∧ New w wr ∧ Hid (∀ a, a < k → Sec.rowOk R n l1 l2 a = true)) (fun c _ => n - (intOf c).toNat)
  case atStart => exact ⟨0, Nat.zero_le _, rfl, Below.refl _ _, fun a ha => by omega⟩
  case round =>
    obtain ⟨k, hk, rfl, hnw, hok⟩ := hrel
    have o2 := o.below hnw
    have c0 := o2.c0
    by_cases hlt : k < n
    · obtain ⟨t, ht⟩ : ∃ t, Sec.rowOk R n l1 l2 k = t := ⟨_, rfl⟩
      have hT := rflow_test R n hn l1 l2 k ht
      have r1 := h1.below hnw
      have r2 := h2.below hnw
      have HT := Lib.hid ht
      have HW := Lib.hid hnw
      clear ht hnw
      go_wp2_with fail
      refine (under_any o2 _ _ _ l1 r1 k hlt).mono ?_
      rintro e w1 ⟨rfl, hn1⟩
      go_wp2_with fail
      refine (under_any (o2.below hn1) _ _ _ l2 (r2.below hn1) k hlt).mono ?_
      rintro e w2 ⟨rfl, hn2⟩
      have HW2 := Lib.hid ((HW.out.trans hn1).trans hn2)
      clear hn1 hn2
      cases t with
      | true =>
        have OK2 : Hid (∀ a, a < k + 1 → Sec.rowOk R n l1 l2 a = true) := fun a ha => by
          by_cases e : a = k
          · subst e; exact HT.out
          · exact hok.out a (by omega)
        go_wp2_with fail
        go_roundw
        case rel => exact ⟨k + 1, by omega, by go_num, HW2.out, OK2⟩
        case measure => simp [intOf]; omega
      | false =>
        have FN : Hid (Sec.flows R n l1 l2 = false) := by
          show _ = _
          rw [FR.out, Bool.eq_false_iff]
          intro hh
          rw [List.all_eq_true] at hh
          have := hh k (List.mem_range.2 hlt)
          rw [HT.out] at this
          cases this
        go_wp2_with fail
        go_ret
        exact ⟨ret_bool (by rw [FN.out]), HW2.out⟩
    · have FN : Hid (Sec.flows R n l1 l2 = true) := by
        show _ = _
        rw [FR.out, List.all_eq_true]
        intro a ha
        exact hok.out a (by have := List.mem_range.1 ha; omega)
      go_wp2_with fail
      go_ret
      exact ⟨ret_bool (by rw [FN.out]), hnw⟩

set_option maxHeartbeats 1000000 in
theorem rreads_any (o : ROrd w q h n cp pt r R) (who : Int) (p1 : Option Addr) (n1 c1 : Nat) (l1 : List (Int × Int)) (h1 : PairRow w p1 n1 l1) :
    Calls Try.prog 23 #[.pointer (some ⟨q, 0, none⟩), .int .i64 who, .slice p1 n1 c1] w fun e w' => e = .returned (.bool (Sec.readsB R n who l1)) ∧ New w w' := by
  have hn := o.hn
  have c0 := o.c0
  by_cases hv : 0 ≤ who ∧ who < n
  · obtain ⟨hv0, hv1⟩ := hv
    obtain ⟨W, rfl⟩ := Int.eq_ofNat_of_zero_le hv0
    have hW : W < n := by omega
    have E : Hid (Sec.readsB R n (W : Int) l1 = (List.range n).all fun a => Sec.underP R n l1 a W) := by
      show _ = _
      unfold Sec.readsB Sec.reads
      rw [decide_eq_true (by omega)]; simp
    have g1 : decide ((W : Int) < 0) = false := decide_eq_false (by omega)
    have g2 : decide (n ≤ W) = false := decide_eq_false (by omega)
    go_enter Try.func23, Try.ntmps23
    go_wp2_with fail
    go_loopw [7] (fun c wr => ∃ k : Nat, k ≤ n ∧ c = .int .i64 k ∧ New w wr ∧ Hid (∀ a, a < k → Sec.underP R n l1 a W = true)) (fun c _ => n - (intOf c).toNat)
    case atStart => exact ⟨0, Nat.zero_le _, rfl, Below.refl _ _, fun a ha => by omega⟩
    case round =>
      clear c0
      obtain ⟨k, hk, rfl, hnw, hok⟩ := hrel
      have o2 := o.below hnw
      have c0 := o2.c0
      by_cases hlt : k < n
      · have r1 := h1.below hnw
        have HW := Lib.hid hnw
        obtain ⟨t, ht⟩ : ∃ t, Sec.underP R n l1 k W = t := ⟨_, rfl⟩
        have hb : (Sec.under R n l1 k).testBit W = t := by unfold Sec.under; rw [Sec.testBit_mask, ht, decide_eq_true hW, Bool.true_and]
        have hT := bit_zero _ _ hb
        have HT := Lib.hid ht
        clear ht hb hnw
        go_wp2_with fail
        refine (under_any o2 _ _ _ l1 r1 k hlt).mono ?_
        rintro e w1 ⟨rfl, hn1⟩
        have HW2 := Lib.hid (HW.out.trans hn1)
        clear hn1
        cases t with
        | true =>
          have OK2 : Hid (∀ a, a < k + 1 → Sec.underP R n l1 a W = true) := fun a ha => by
            by_cases e : a = k
            · subst e; exact HT.out
            · exact hok.out a (by omega)
          go_wp2_with fail
          go_roundw
          case rel => exact ⟨k + 1, by omega, by go_num, HW2.out, OK2⟩
          case measure => simp [intOf]; omega
        | false =>
          have FN : Hid (Sec.readsB R n (W : Int) l1 = false) := by
            show _ = _
            rw [E.out, Bool.eq_false_iff]
            intro hh
            rw [List.all_eq_true] at hh
            have := hh k (List.mem_range.2 hlt)
            rw [HT.out] at this
            cases this
          go_wp2_with fail
          go_ret
          exact ⟨ret_bool (by rw [FN.out]), HW2.out⟩
      · have FN : Hid (Sec.readsB R n (W : Int) l1 = true) := by
          show _ = _
          rw [E.out, List.all_eq_true]
          intro a ha
          exact hok.out a (by have := List.mem_range.1 ha; omega)
        go_wp2_with fail
        go_ret
        exact ⟨ret_bool (by rw [FN.out]), hnw⟩
  · have E : Hid (Sec.readsB R n who l1 = false) := by
      show _ = _
      unfold Sec.readsB
      rw [decide_eq_false hv]; rfl
    rcases Int.lt_or_le who 0 with k1 | k1
    · have g1 : decide (who < 0) = true := decide_eq_true k1
      go_enter Try.func23, Try.ntmps23
      go_wp2_with fail
      go_ret
      exact ⟨ret_bool (by rw [E.out]), Below.refl _ _⟩
    · have g1 : decide (who < 0) = false := decide_eq_false (by omega)
      have g2 : decide ((n : Int) ≤ who) = true := decide_eq_true (by omega)
      go_enter Try.func23, Try.ntmps23
      go_wp2_with fail
      go_ret
      exact ⟨ret_bool (by rw [E.out]), Below.refl _ _⟩

theorem info_rpol : (Try.prog.info? 65).map (fun i => (i.zero, i.size, i.bytes)) = some (some (.agg #[.int .i64 0, .int .i64 0]), 2, 16) := by kernel_rfl

/-- what the reference's Norm leaves. -/
def RNormPost (l : List (Int × Int)) (w : World) (e : Ending) (w' : World) : Prop :=
  ∃ pt cp, e = .returned (.slice pt l.length cp) ∧ w'.ownsRow w.heap.size 65 2 (.slice pt l.length cp) l.length (flat l) ∧ New w w'

set_option maxHeartbeats 4000000 in
set_option maxRecDepth 100000 in
theorem rnorm_any (o : ROrd w q h n cp pt r R) (pl : Option Addr) (len cl : Nat) (l : List (Int × Int)) (hl : PairRow w pl len l) :
    Calls Try.prog 20 #[.pointer (some ⟨q, 0, none⟩), .slice pl len cl] w (RNormPost (Sec.norm R n l) w) := by
  have hn := o.hn
  have p64 := pow_le n hn
  obtain ⟨i0, hi, hz0, hz1, hz2⟩ := info_parts info_rpol
  go_enter Try.func20, Try.ntmps20
  go_wp2_with fail
  go_loopw [5, 6] (fun s c wr => ∃ k cq : Nat, ∃ po, k ≤ n ∧ c = .int .i64 k ∧ s = .slice po (Sec.normTo R n l k).length cq ∧ wr.ownsRow w.heap.size 65 2 (.slice po (Sec.normTo R n l k).length cq) (Sec.normTo R n l k).length (flat (Sec.normTo R n l k)) ∧ New w wr) (fun _ c _ => n - (intOf c).toNat)
  case atStart => exact ⟨0, 0, none, Nat.zero_le _, rfl, rfl, World.ownsRow_nil _ _ _ _, Below.refl _ _⟩
  case round =>
    obtain ⟨k, cq, po, hk, rfl, rfl, hown, hnw⟩ := hrel
    have o2 := o.below hnw
    have c0 := o2.c0
    by_cases hlt : k < n
    · have SU := Lib.hid (Sec.normTo_succ R n l k)
      have LN := Sec.normTo_len R n l k
      obtain ⟨L, hL⟩ : ∃ L, Sec.normTo R n l k = L := ⟨_, rfl⟩
      rw [hL] at hown SU LN ⊢
      have HL := Lib.hid hL
      have HO := Lib.hid hown
      have HW := Lib.hid hnw
      have z := Lib.hid (Sec.aboveTo_zero R n l k)
      have z2 : Hid (((2 ^ n - 1 : Nat) : Int) = wrap64 (wrap64 (2 ^ n) - 1)) := by
        show _ = _
        rw [wrap64_pow n hn]
        have h2 := Nat.two_pow_pos n
        rw [IntWalk.wrap64_in _ (by omega)]
        omega
      clear hL hown hnw
      go_wp2_with fail
      obtain ⟨wo, hwo⟩ : ∃ wo : World, wo = wr := ⟨_, rfl⟩
      have LW : New wr wr := Below.refl _ _
      rw [← hwo] at HO HW
      have LW2 : New wo wr := by rw [hwo]; exact LW
      clear LW hwo c0 o2
      go_loopw [7, 8, 9] (fun f s c wr => ∃ b : Nat, b ≤ n ∧ c = .int .i64 b ∧ f = .bool (Sec.firstTo R k b) ∧ s = .int .i64 (Sec.aboveTo R n l k b : Nat) ∧ New wo wr) (fun _ _ c _ => n - (intOf c).toNat)
      case atStart => exact ⟨0, Nat.zero_le _, rfl, rfl, by rw [z.out, z2.out], LW2⟩
      case round =>
        clear LW2
        obtain ⟨b, hb, rfl, rfl, rfl, hnw⟩ := hrel
        have o2 := o.below (HW.out.trans hnw)
        have c0 := o2.c0
        by_cases hbn : b < n
        · have c1 := o2.c1' (by omega)
          have ra := o2.rows b hbn
          have rb := o2.rows k hlt
          have cab := o2.cell b k hbn hlt
          have cba := o2.cell k b hlt hbn
          have FS := Lib.hid (Sec.firstTo_succ R k b)
          have AS := Lib.hid (Sec.aboveTo_succ R n l k b)
          have lr := hl.below (HW.out.trans hnw)
          obtain ⟨t1, h1⟩ : ∃ t, R b k = t := ⟨_, rfl⟩
          obtain ⟨t2, h2⟩ : ∃ t, R k b = t := ⟨_, rfl⟩
          obtain ⟨f, hf⟩ : ∃ t, Sec.firstTo R k b = t := ⟨_, rfl⟩
          have va := Nat.lt_of_lt_of_le (Sec.aboveTo_lt R n l k b) (pow_le n hn)
          have vu := Nat.lt_of_lt_of_le (Sec.under_lt R n l b) (pow_le n hn)
          obtain ⟨A, hA⟩ : ∃ t, Sec.aboveTo R n l k b = t := ⟨_, rfl⟩
          rw [h1] at cab FS AS
          rw [h2] at cba FS AS
          rw [hf] at FS ⊢
          rw [hA] at AS va ⊢
          have HN2 := Lib.hid hnw
          clear h1 h2 hf hA hnw
          cases t1 <;> cases t2
          · go_wp2_with fail
            go_roundw
            case rel => exact ⟨b + 1, by omega, by go_num, by rw [FS.out]; simp, by rw [AS.out]; simp, HN2.out⟩
            case measure => simp [intOf]; omega
          · go_wp2_with fail
            go_roundw
            case rel => exact ⟨b + 1, by omega, by go_num, by rw [FS.out]; simp, by rw [AS.out]; simp, HN2.out⟩
            case measure => simp [intOf]; omega
          · go_wp2_with fail
            refine (under_any o2 _ _ _ l lr b hbn).mono ?_
            rintro e w1 ⟨rfl, hn1⟩
            have HN3 := Lib.hid (HN2.out.trans hn1)
            clear hn1
            go_wp2_with fail
            go_roundw
            case rel => exact ⟨b + 1, by omega, by go_num, by rw [FS.out]; simp, by rw [AS.out, and_nat _ _ (by omega) (by omega)]; simp, HN3.out⟩
            case measure => simp [intOf]; omega
          · by_cases hbk : b < k
            · go_wp2_with fail
              go_roundw
              case rel => exact ⟨b + 1, by omega, by go_num, by rw [FS.out]; simp [hbk], by rw [AS.out]; simp, HN2.out⟩
              case measure => simp [intOf]; omega
            · go_wp2_with fail
              go_roundw
              case rel => exact ⟨b + 1, by omega, by go_num, by rw [FS.out]; simp [hbk], by rw [AS.out]; simp, HN2.out⟩
              case measure => simp [intOf]; omega
        · have hbn2 : b = n := by omega
          subst hbn2
          have FE := Lib.hid (Sec.firstTo_end (R := R) hk)
          have lr := hl.below (HW.out.trans hnw)
          obtain ⟨f, hf⟩ : ∃ t, Sec.firstTo R k b = t := ⟨_, rfl⟩
          obtain ⟨A, hA⟩ : ∃ t, Sec.aboveTo R b l k b = t := ⟨_, rfl⟩
          obtain ⟨U, hU⟩ : ∃ t, Sec.under R b l k = t := ⟨_, rfl⟩
          obtain ⟨t, ht⟩ : ∃ t, (U == A) = t := ⟨_, rfl⟩
          have KP : Hid (Sec.kept R b l k = (f && !t)) := by
            show _ = _
            unfold Sec.kept
            rw [← FE.out, hf, hU, show Sec.above R b l k = A from hA, ht]
          have e1 := (bne_cast U A).trans (by rw [ht])
          have HU := Lib.hid hU
          have CU : ∀ W, ROrd W q h b cp pt r R → PairRow W pl len l → Calls Try.prog 37 #[.pointer (some ⟨q, 0, none⟩), .slice pl len cl, .int .i64 k] W fun e w' => e = .returned (.int .i64 (U : Nat)) ∧ New W w' := fun W oW lW => by rw [← hU]; exact under_any oW _ _ _ l lW k hlt
          have HCU := Lib.hid CU
          rw [hf, hA]
          have HN2 := Lib.hid hnw
          clear hf hA hU ht CU hnw
          go_wp2_with fail
          refine (HCU.out _ o2 lr).mono ?_
          rintro e w1 ⟨rfl, hn1⟩
          have HN3 := Lib.hid (HN2.out.trans hn1)
          have HO3 : Hid (w1.ownsRow w.heap.size 65 2 (.slice po L.length cq) L.length (flat L)) := by
            obtain ⟨q1, q2⟩ := HO.out
            refine ⟨q1, ?_⟩
            rcases q2 with q2 | ⟨g2, c2, cur, q3, q4, q5, q6⟩
            · exact .inl q2
            · have hb2 : g2 < wo.heap.size := by rw [Array.getElem?_eq_some_iff] at q5; exact q5.1
              exact .inr ⟨g2, c2, cur, q3, q4, (HN3.out.block g2 hb2).trans q5, q6⟩
          clear hn1
          have HW3 := Lib.hid (HW.out.trans HN3.out)
          cases f with
          | false =>
            have EQ : Hid (Sec.normTo R b l (k + 1) = L) := by show _ = _; rw [SU.out, KP.out]; simp
            go_wp2_with fail
            go_roundw
            case rel => exact ⟨k + 1, cq, po, by omega, by go_num, by rw [EQ.out], by rw [EQ.out]; exact HO3.out, HW3.out⟩
            case measure => simp [intOf]; omega
          | true =>
            cases t with
            | true =>
              have EQ : Hid (Sec.normTo R b l (k + 1) = L) := by show _ = _; rw [SU.out, KP.out]; simp
              go_wp2_with fail
              go_roundw
              case rel => exact ⟨k + 1, cq, po, by omega, by go_num, by rw [EQ.out], by rw [EQ.out]; exact HO3.out, HW3.out⟩
              case measure => simp [intOf]; omega
            | false =>
              have EQ : Hid (Sec.normTo R b l (k + 1) = L ++ [((k : Int), (U : Int))]) := by show _ = _; rw [SU.out, KP.out, HU.out]; simp
              have EL : Hid ((Sec.normTo R b l (k + 1)).length = L.length + 1) := by show _ = _; rw [EQ.out]; simp
              go_wp2_with (at_builtin; go_must (refine wpList_append_lies _ rfl _ _ _ rfl w.heap.size 65 i0 _ 2 16 Try.underlying38 hi hz0 hz1 hz2 rfl (by omega) (.slice po L.length cq) L.length (flat L) (by rfl) (HO3.out.alloc _) ⟨w1.heap.size, 0, none⟩ 1 1 [.int .i64 k, .int .i64 U] (by rfl) (by rfl) (World.news_of_block (cs := #[.int .i64 k, .int .i64 U]) (t := 65) (fr := (0, 0)) (heap_new' _ _ _ rfl)) (by simp [Value.oneCell']) (by omega) (by unfold maxLen; omega) (by omega) (by have := HW3.out.size; simp; omega) (w1.heap.size + 1) (by simp) ?_); intro gg cap1 w3 hown1 hgrow _ _)
              have HO1 := Lib.hid hown1
              have HN4 : Hid (New w w3) := ((HW3.out.trans (New.alloc w1 _))).grown hgrow (by have := HW3.out.size; simp; omega) (fun j hj => (HO3.out.lt j hj).1)
              clear hown1 hgrow
              go_roundw
              case rel => exact ⟨k + 1, cap1, _, by omega, by go_num, by rw [EL.out], by rw [EL.out, EQ.out, flat_snoc]; exact HO1.out, HN4.out⟩
              case measure => simp [intOf]; omega
    · have hkn : k = n := by omega
      subst hkn
      have fin : RNormPost (Sec.norm R k l) w (.returned (.slice po (Sec.normTo R k l k).length cq)) wr := ⟨po, cq, rfl, hown, hnw⟩
      have FIN := Lib.hid fin
      clear fin
      go_wp2_with fail
      go_ret
      exact FIN.out

theorem append_rpols {w : World} {base : Nat} {pt p : Option Addr} {m cp n c : Nat} {L l : List (Int × Int)} (hown : w.ownsRow base 65 2 (.slice pt m cp) m (flat L)) (hp : PairRow w p n l) (hmn : m + n ≤ 2097152) (hb : base ≤ w.heap.size) :
    ∃ pt' cp' w', (∀ ty, (Builtin.append_ #[38, 38] ty #[.slice pt m cp, .slice p n c]).run Try.prog w = .ok (.slice pt' (m + n) cp') w') ∧ w'.ownsRow base 65 2 (.slice pt' (m + n) cp') (m + n) (flat (L ++ l)) ∧ w.grownBy w' (Value.slice pt m cp).ownBlock := by
  obtain ⟨i0, hi, hz0, hz1, hz2⟩ := info_parts info_rpol
  by_cases h0 : n = 0
  · subst h0
    have hl : l = [] := List.eq_nil_of_length_eq_zero hp.hl
    subst hl
    have hle : m ≤ cp := by
      rcases hown.2 with ⟨e, h⟩ | ⟨g, c, cur, e, _, _, h, _⟩
      · omega
      · simp at e; omega
    have hsrc : Src Try.prog i0.size 38 (.slice p 0 c) 0 [] w := by
      refine ⟨.inl ⟨_, Try.underlying38⟩, fun _ => rfl, ?_, ?_, by simp, fun _ h => by cases h⟩
      · cases p with
        | none => exact run_firstCells_none w i0.size 0 0 c
        | some a => exact run_firstCells_some w i0.size 0 a 0 c [] (by simp) (by simp)
      · cases p with
        | none => exact run_firstCells_none w.drew i0.size 0 0 c
        | some a => exact run_firstCells_some w.drew i0.size 0 a 0 c [] (by simp) (by simp)
    refine ⟨pt, cp, w, fun ty => run_append_nothing w _ _ ty 65 i0 Try.underlying38 hi pt m cp hle _ hsrc, by simpa using hown, ⟨rfl, rfl, rfl, Nat.le_refl _, fun _ _ _ => rfl⟩⟩
  · obtain ⟨g, rfl, hg, _⟩ := hp.at_ (by omega)
    obtain ⟨g', cap, w', hrun, h1, h2, h3, h4⟩ := run_append_lies w 38 0 base 65 i0 _ 2 16 Try.underlying38 hi hz0 hz1 hz2 rfl (by omega) (.slice pt m cp) m (flat L) hown ⟨g, 0, none⟩ n c (flat l) (by rw [flat_len, hp.hl]) hp.news (flat_one l) (by omega) (by unfold maxLen; omega) (by omega) hb w.heap.size rfl
    exact ⟨_, cap, w', fun ty => hrun, by rw [flat_append]; exact h1, h2⟩

set_option maxHeartbeats 1000000 in
theorem rjoin_any (o : ROrd w q h n cp pt r R) (p1 p2 : Option Addr) (n1 n2 c1 c2 : Nat) (l1 l2 : List (Int × Int)) (h1 : PairRow w p1 n1 l1) (h2 : PairRow w p2 n2 l2) (hs : n1 + n2 ≤ 1048576) :
    Calls Try.prog 21 #[.pointer (some ⟨q, 0, none⟩), .slice p1 n1 c1, .slice p2 n2 c2] w (RNormPost (Sec.norm R n (l1 ++ l2)) w) := by
  obtain ⟨pa, ca, wa, hruna, howna, hga⟩ := append_rpols (pt := none) (m := 0) (cp := 0) (L := []) (c := c1) (World.ownsRow_nil w w.heap.size 65 2) h1 (by omega) (Nat.le_refl _)
  rw [Nat.zero_add, List.nil_append] at howna
  rw [Nat.zero_add] at hruna
  have na : New w wa := (Below.refl _ _).grown hga (Nat.le_refl _) (fun j hj => by cases hj)
  obtain ⟨pb, cb, wb, hrunb, hownb, hgb⟩ := append_rpols (c := c2) howna (h2.below na) (by omega) na.size
  have nb : New w wb := na.grown hgb na.size (fun j hj => (howna.lt j hj).1)
  have row := pairRow_of hownb hs
  have HA := Lib.hid hruna
  have HB := Lib.hid hrunb
  have HN := Lib.hid nb
  have ob := o.below nb
  clear hruna hrunb howna hownb hga hgb na nb
  go_enter Try.func21, Try.ntmps21
  go_wp2_with (first
    | (at_builtin; refine wpList_append_run rfl (.tmp 8) (.tmp 9) 38 38 rfl _ _ _ _ (by rfl) (by rfl) HA.out ?_)
    | (at_builtin; refine wpList_append_run rfl (.tmp 11) (.tmp 12) 38 38 rfl _ _ _ _ (by rfl) (by rfl) HB.out ?_))
  refine (rnorm_any ob _ _ _ _ row).mono ?_
  rintro e w2 ⟨pq, cq, rfl, hown, hn2⟩
  have HF : Hid (RNormPost (Sec.norm R n (l1 ++ l2)) w (.returned (.slice pq (Sec.norm R n (l1 ++ l2)).length cq)) w2) := by
    refine ⟨pq, cq, rfl, ?_, HN.out.trans hn2⟩
    obtain ⟨q1, q2⟩ := hown
    refine ⟨q1, ?_⟩
    rcases q2 with q2 | ⟨g2, c2, cur, q3, q4, q5⟩
    · exact .inl q2
    · exact .inr ⟨g2, c2, cur, q3, Nat.le_trans HN.out.size q4, q5⟩
  clear hown
  go_wp2_with fail
  go_ret
  exact HF.out
end Go.Proofs.Ytffmpkgggmoadaa
