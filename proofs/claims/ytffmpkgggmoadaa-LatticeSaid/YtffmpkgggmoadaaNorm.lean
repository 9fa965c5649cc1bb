/-
  Proved: label.Order.first, above, Norm. Conditions: as for of.
-/
import Derived.Test.YtffmpkgggmoadaaLabel
namespace Go.Proofs.Ytffmpkgggmoadaa
open Go.ChangeShapes Go.WideShapes Go.ChangeAt Go.RowKit Go.Deep

theorem over_gen {w : World} {bb g n : Nat} {up : Nat → Nat} (h : LOrd w bb g n up) (a b : Nat) (ha : a < n) (hb : b < n) :
    Calls Try.prog 40 #[.pointer (some ⟨bb, 0, none⟩), .int .i64 a, .int .i64 b] w fun e w' => e = .returned (.bool (Sec.rel up a b)) ∧ w = w' := over_nat h a b ha hb

set_option maxHeartbeats 1000000 in
theorem first_any {w : World} {bb g n : Nat} {up : Nat → Nat} (h : LOrd w bb g n up) (a : Nat) (ha : a < n) :
    Calls Try.prog 47 #[.pointer (some ⟨bb, 0, none⟩), .int .i64 a] w fun e w' => e = .returned (.int .i64 (Sec.firstN (Sec.rel up) a : Nat)) ∧ w = w' := by
  have hn := h.hn
  go_enter Try.func47, Try.ntmps47
  go_wp2_with fail
  go_loop [7] (fun c => ∃ b : Nat, b ≤ a ∧ c = .int .i64 b ∧ Hid (∀ x, x < b → (Sec.rel up a x && Sec.rel up x a) = false)) (fun c => a - (intOf c).toNat)
  case atStart => exact ⟨0, Nat.zero_le _, rfl, fun x hx => by omega⟩
  case round =>
    obtain ⟨b, hb, rfl, hno⟩ := hrel
    by_cases hlt : b < a
    · obtain ⟨t1, h1⟩ : ∃ t, Sec.rel up a b = t := ⟨_, rfl⟩
      obtain ⟨t2, h2⟩ : ∃ t, Sec.rel up b a = t := ⟨_, rfl⟩
      have H12 := Lib.hid (And.intro h1 h2)
      have NX : (t1 && t2) = false → Hid (∀ x, x < b + 1 → (Sec.rel up a x && Sec.rel up x a) = false) := fun k x hx => by
        by_cases e : x = b
        · subst e; rw [H12.out.1, H12.out.2]; exact k
        · exact hno.out x (by omega)
      cases t1 <;> cases t2
      · have N := NX rfl
        clear NX
        go_wp2_with (go_at_call 40; refine (over_gen h _ _ (by omega) (by omega)).mono ?_; rintro e w3 ⟨rfl, rfl⟩)
        go_round
        case rel => exact ⟨b + 1, by omega, by go_num, N⟩
        case measure => simp [intOf]; omega
      · have N := NX rfl
        clear NX
        go_wp2_with (go_at_call 40; refine (over_gen h _ _ (by omega) (by omega)).mono ?_; rintro e w3 ⟨rfl, rfl⟩)
        go_round
        case rel => exact ⟨b + 1, by omega, by go_num, N⟩
        case measure => simp [intOf]; omega
      · have N := NX rfl
        clear NX
        go_wp2_with (go_at_call 40; refine (over_gen h _ _ (by omega) (by omega)).mono ?_; rintro e w3 ⟨rfl, rfl⟩)
        go_round
        case rel => exact ⟨b + 1, by omega, by go_num, N⟩
        case measure => simp [intOf]; omega
      · clear NX
        go_wp2_with (go_at_call 40; refine (over_gen h _ _ (by omega) (by omega)).mono ?_; rintro e w3 ⟨rfl, rfl⟩)
        go_ret
        exact ⟨ret_int (by rw [Sec.firstN_hit hlt hno.out (by rw [H12.out.1, H12.out.2]; rfl)]), rfl⟩
    · have hba : b = a := by omega
      subst hba
      go_wp2_with fail
      go_ret
      exact ⟨ret_int (by rw [Sec.firstN_none hno.out]), rfl⟩

set_option maxHeartbeats 1000000 in
theorem above_any {w : World} {bb g n : Nat} {up : Nat → Nat} (h : LOrd w bb g n up) (l : List (Int × Int)) (gx : Nat) (hx : ∀ a, a < n → w.cell? ⟨gx, a, none⟩ = some (.int .i64 (Sec.under (Sec.rel up) n l a : Nat))) (a : Nat) (ha : a < n) :
    Calls Try.prog 48 #[.pointer (some ⟨bb, 0, none⟩), .slice (some ⟨gx, 0, none⟩) n n, .int .i64 a] w fun e w' => e = .returned (.int .i64 (Sec.above (Sec.rel up) n l a : Nat)) ∧ w = w' := by
  have hn := h.hn
  have z := Lib.hid (Sec.aboveTo_zero (Sec.rel up) n l a)
  go_enter Try.func48, Try.ntmps48
  go_wp2_with (go_at_call 51; refine (all_any h).mono ?_; rintro e w3 ⟨rfl, rfl⟩)
  go_loop [7, 13] (fun s c => ∃ b : Nat, b ≤ n ∧ c = .int .i64 b ∧ s = .int .i64 (Sec.aboveTo (Sec.rel up) n l a b : Nat)) (fun _ c => n - (intOf c).toNat)
  case atStart => exact ⟨0, Nat.zero_le _, rfl, by rw [z.out]⟩
  case round =>
    obtain ⟨b, hb, rfl, rfl⟩ := hrel
    by_cases hlt : b < n
    · obtain ⟨t1, h1⟩ : ∃ t, Sec.rel up b a = t := ⟨_, rfl⟩
      obtain ⟨t2, h2⟩ : ∃ t, Sec.rel up a b = t := ⟨_, rfl⟩
      have hr := hx b hlt
      have v1 := Nat.lt_of_lt_of_le (Sec.aboveTo_lt (Sec.rel up) n l a b) (pow_le n hn)
      have v2 := Nat.lt_of_lt_of_le (Sec.under_lt (Sec.rel up) n l b) (pow_le n hn)
      have NX := Lib.hid (Sec.aboveTo_succ (Sec.rel up) n l a b)
      rw [h1, h2] at NX
      cases t1 <;> cases t2
      all_goals
        go_wp2_with (go_at_call 40; refine (over_gen h _ _ (by omega) (by omega)).mono ?_; rintro e w3 ⟨rfl, rfl⟩)
        go_round
        case rel => exact ⟨b + 1, by omega, by go_num, by rw [NX.out]; first | rfl | (rw [and_nat _ _ (by omega) (by omega)]; rfl)⟩
        case measure => simp [intOf]; omega
    · have hbn : b = n := by omega
      subst hbn
      go_wp2_with fail
      go_ret
      exact ⟨rfl, rfl⟩

theorem beq_cast (x y : Nat) : ((x : Int) == (y : Int)) = (x == y) := by rw [Bool.eq_iff_iff]; simp; omega
theorem bne_cast (x y : Nat) : ((x : Int) != (y : Int)) = !(x == y) := by rw [bne, beq_cast]

/-- what Norm leaves: a fresh slice of the normal form. -/
def NormPost (l : List (Int × Int)) (w : World) (e : Ending) (w' : World) : Prop :=
  ∃ pt cp, e = .returned (.slice pt l.length cp) ∧ w'.ownsRow w.heap.size 64 2 (.slice pt l.length cp) l.length (flat l) ∧ New w w'

theorem NormPost.row {l : List (Int × Int)} {w w' : World} {pt : Option Addr} {cp : Nat} (h : w'.ownsRow w.heap.size 64 2 (.slice pt l.length cp) l.length (flat l)) (hl : l.length ≤ 1048576) : PairRow w' pt l.length l := pairRow_of h hl

theorem norm_len (R : Nat → Nat → Bool) (n : Nat) (l : List (Int × Int)) : (Sec.norm R n l).length ≤ n := Sec.normTo_len R n l n

set_option maxHeartbeats 1000000 in
set_option maxRecDepth 100000 in
theorem norm_any {w : World} {bb g n : Nat} {up : Nat → Nat} (h : LOrd w bb g n up) (pt : Option Addr) (len cap : Nat) (l : List (Int × Int)) (hl : PairRow w pt len l) :
    Calls Try.prog 41 #[.pointer (some ⟨bb, 0, none⟩), .slice pt len cap] w (NormPost (Sec.norm (Sec.rel up) n l) w) := by
  have hn := h.hn
  obtain ⟨i0, hi, hz0, hz1, hz2⟩ := info_parts info_pol
  go_enter Try.func41, Try.ntmps41
  go_wp2_with (go_at_call 46; refine (of_any h _ _ _ l hl).mono ?_; rintro e w1 ⟨gx, rfl, hg1, hg2, hx, hn1⟩)
  have H1 := h.below hn1
  have HN1 := Lib.hid hn1
  clear hn1
  go_loopw [6, 14] (fun s c wr => ∃ k cp : Nat, ∃ po, k ≤ n ∧ c = .int .i64 k ∧ s = .slice po (Sec.normTo (Sec.rel up) n l k).length cp ∧ wr.ownsRow w1.heap.size 64 2 (.slice po (Sec.normTo (Sec.rel up) n l k).length cp) (Sec.normTo (Sec.rel up) n l k).length (flat (Sec.normTo (Sec.rel up) n l k)) ∧ New w1 wr) (fun _ c _ => n - (intOf c).toNat)
  case atStart => exact ⟨0, 0, none, Nat.zero_le _, rfl, rfl, World.ownsRow_nil _ _ _ _, Below.refl _ _⟩
  case round =>
    obtain ⟨k, cp, po, hk, rfl, rfl, hown, hnw⟩ := hrel
    by_cases hlt : k < n
    · have H2 := H1.below hnw
      have hx2 : ∀ a, a < n → wr.cell? ⟨gx, a, none⟩ = some (.int .i64 (Sec.under (Sec.rel up) n l a : Nat)) := fun a ha => (hnw.cell (p := ⟨gx, a, none⟩) hg2).trans (hx a ha)
      have hc := hx2 k hlt
      have HX := Lib.hid hx2
      have HO := Lib.hid hown
      have HW := Lib.hid hnw
      have SU := Lib.hid (Sec.normTo_succ (Sec.rel up) n l k)
      have LN := Sec.normTo_len (Sec.rel up) n l k
      clear hx2 hown hnw
      obtain ⟨L, hL⟩ : ∃ L, Sec.normTo (Sec.rel up) n l k = L := ⟨_, rfl⟩
      rw [hL] at HO SU LN ⊢
      obtain ⟨f1, hf1⟩ : ∃ f, Sec.firstN (Sec.rel up) k = f := ⟨_, rfl⟩
      obtain ⟨u1, hu1⟩ : ∃ f, Sec.under (Sec.rel up) n l k = f := ⟨_, rfl⟩
      obtain ⟨a1, ha1⟩ : ∃ f, Sec.above (Sec.rel up) n l k = f := ⟨_, rfl⟩
      obtain ⟨t1, h1⟩ : ∃ t, (f1 == k) = t := ⟨_, rfl⟩
      obtain ⟨t2, h2⟩ : ∃ t, (u1 == a1) = t := ⟨_, rfl⟩
      have KP : Hid (Sec.kept (Sec.rel up) n l k = (t1 && !t2)) := by
        show _ = _
        unfold Sec.kept
        rw [← Sec.firstN_eq, hf1, hu1, ha1, h1, h2]
      have e1 := (beq_cast f1 k).trans h1
      have e2 := (bne_cast u1 a1).trans (by rw [h2])
      have HU := Lib.hid hu1
      have HL := Lib.hid hL
      rw [hu1] at hc
      have C1 : ∀ W, LOrd W bb g n up → Calls Try.prog 47 #[.pointer (some ⟨bb, 0, none⟩), .int .i64 k] W fun e w' => e = .returned (.int .i64 (f1 : Nat)) ∧ W = w' := fun W hW => by rw [← hf1]; exact first_any hW k hlt
      have C2 : ∀ W, LOrd W bb g n up → (∀ a, a < n → W.cell? ⟨gx, a, none⟩ = some (.int .i64 (Sec.under (Sec.rel up) n l a : Nat))) → Calls Try.prog 48 #[.pointer (some ⟨bb, 0, none⟩), .slice (some ⟨gx, 0, none⟩) n n, .int .i64 k] W fun e w' => e = .returned (.int .i64 (a1 : Nat)) ∧ W = w' := fun W hW hX => by rw [← ha1]; exact above_any hW l gx hX k hlt
      have HC1 := Lib.hid C1
      have HC2 := Lib.hid C2
      clear C1 C2 hf1 hu1 ha1 h1 h2 hL
      cases t1 with
      | false =>
        go_wp2_with (go_at_call 47; refine (HC1.out _ H2).mono ?_; rintro e w3 ⟨rfl, rfl⟩)
        have EQ : Hid (Sec.normTo (Sec.rel up) n l (k + 1) = L) := by show _ = _; rw [SU.out, KP.out]; simp
        go_roundw
        case rel => exact ⟨k + 1, cp, po, by omega, by go_num, by rw [EQ.out], by rw [EQ.out]; exact HO.out, HW.out⟩
        case measure => simp [intOf]; omega
      | true =>
        cases t2 with
        | true =>
          have EQ : Hid (Sec.normTo (Sec.rel up) n l (k + 1) = L) := by show _ = _; rw [SU.out, KP.out]; simp
          go_wp2_with (first
            | (go_at_call 47; refine (HC1.out _ H2).mono ?_; rintro e w3 ⟨rfl, rfl⟩)
            | (go_at_call 48; refine (HC2.out _ H2 HX.out).mono ?_; rintro e w3 ⟨rfl, rfl⟩))
          go_roundw
          case rel => exact ⟨k + 1, cp, po, by omega, by go_num, by rw [EQ.out], by rw [EQ.out]; exact HO.out, HW.out⟩
          case measure => simp [intOf]; omega
        | false =>
          have EQ : Hid (Sec.normTo (Sec.rel up) n l (k + 1) = L ++ [((k : Int), (u1 : Int))]) := by show _ = _; rw [SU.out, KP.out, HU.out]; simp
          have EL : Hid ((Sec.normTo (Sec.rel up) n l (k + 1)).length = L.length + 1) := by show _ = _; rw [EQ.out]; simp
          go_wp2_with (first
            | (go_at_call 47; refine (HC1.out _ H2).mono ?_; rintro e w3 ⟨rfl, rfl⟩)
            | (go_at_call 48; refine (HC2.out _ H2 HX.out).mono ?_; rintro e w3 ⟨rfl, rfl⟩)
            | (at_builtin; go_must (refine wpList_append_lies _ rfl _ _ _ rfl w1.heap.size 64 i0 _ 2 16 Try.underlying37 hi hz0 hz1 hz2 rfl (by omega) (.slice po L.length cp) L.length (flat L) (by rfl) (HO.out.alloc _) ⟨wr.heap.size, 0, none⟩ 1 1 [.int .i64 k, .int .i64 u1] (by rfl) (by rfl) (World.news_of_block (cs := #[.int .i64 k, .int .i64 u1]) (t := 64) (fr := (0, 0)) (heap_new' _ _ _ rfl)) (by simp [Value.oneCell']) (by omega) (by unfold maxLen; omega) (by omega) (by have := HW.out.size; simp; omega) (wr.heap.size + 1) (by simp) ?_); intro gg cap1 w3 hown1 hgrow _ _))
          have HO1 := Lib.hid hown1
          have HN2 : Hid (New w1 w3) := ((HW.out.trans (New.alloc wr _))).grown hgrow (by have := HW.out.size; simp; omega) (fun j hj => (HO.out.lt j hj).1)
          clear hown1 hgrow
          go_roundw
          case rel => exact ⟨k + 1, cap1, _, by omega, by go_num, by rw [EL.out], by rw [EL.out, EQ.out, flat_snoc]; exact HO1.out, HN2.out⟩
          case measure => simp [intOf]; omega
    · have hkn : k = n := by omega
      subst hkn
      have hbase : ∀ {v : Value} {m : Nat} {xs : List Value}, wr.ownsRow w1.heap.size 64 2 v m xs → wr.ownsRow w.heap.size 64 2 v m xs := fun ho => by
        obtain ⟨q1, q2⟩ := ho
        refine ⟨q1, ?_⟩
        rcases q2 with q2 | ⟨g2, c2, cur, q3, q4, q5⟩
        · exact .inl q2
        · exact .inr ⟨g2, c2, cur, q3, Nat.le_trans HN1.out.size q4, q5⟩
      have fin : NormPost (Sec.norm (Sec.rel up) k l) w (.returned (.slice po (Sec.normTo (Sec.rel up) k l k).length cp)) wr := ⟨po, cp, rfl, hbase hown, HN1.out.trans hnw⟩
      have FIN := Lib.hid fin
      clear fin
      go_wp2
      go_ret
      exact FIN.out
end Go.Proofs.Ytffmpkgggmoadaa
