/-
  Proved: label.Order.all, wide, of. Conditions: an order lies in memory; the policies are a row of at most 2^20.
-/
import Derived.Test.YtffmpkgggmoadaaOver
import Derived.Test.YtffmpkgggmoadaaConcat
import Derived.Test.YtffmpkgggmoadaaPlain2
namespace Go.Proofs.Ytffmpkgggmoadaa
open Go.ChangeShapes Go.WideShapes Go.ChangeAt Go.RowKit Go.Deep

theorem ret_int {k : IntKind} {a b : Int} (h : a = b) : Ending.returned (.int k a) = .returned (.int k b) := by rw [h]

theorem over_rel {w : World} {bb g n : Nat} {up : Nat → Nat} (h : LOrd w bb g n up) (a b : Nat) (ha : a < n) (hb : b < n) (v : Bool) (hv : Sec.rel up a b = v) :
    Calls Try.prog 40 #[.pointer (some ⟨bb, 0, none⟩), .int .i64 a, .int .i64 b] w fun e w' => e = .returned (.bool v) ∧ w = w' := by
  subst hv
  exact over_nat h a b ha hb

theorem all_any {w : World} {bb g n : Nat} {up : Nat → Nat} (h : LOrd w bb g n up) :
    Calls Try.prog 51 #[.pointer (some ⟨bb, 0, none⟩)] w fun e w' => e = .returned (.int .i64 (2 ^ n - 1 : Nat)) ∧ w = w' := by
  have c0 := h.c0
  have hn := h.hn
  go_enter Try.func51, Try.ntmps51
  go_wp2
  go_ret
  refine ⟨ret_int ?_, rfl⟩
  rw [wrap64_pow n hn]
  have h1 := pow_le n hn
  have h2 := Nat.two_pow_pos n
  rw [IntWalk.wrap64_in _ (by omega)]
  omega

theorem bit_int_t {x : Int} {a : Nat} {b : Bool} (h : Sec.rbit x a = b) : (bits .and .i64 (x / 2 ^ a) 1 == 1) = b := (bit_int x a).trans h

set_option maxHeartbeats 1000000 in
theorem wide_any {w : World} {bb g n : Nat} {up : Nat → Nat} (h : LOrd w bb g n up) (o : Nat) (rd : Int) (ho : o < n) :
    Calls Try.prog 52 #[.pointer (some ⟨bb, 0, none⟩), .agg #[.int .i64 o, .int .i64 rd]] w fun e w' => e = .returned (.int .i64 (Sec.mask n (Sec.letsP (Sec.rel up) n ((o : Int), rd)) : Nat)) ∧ New w w' := by
  have E := Lib.hid (Sec.wideTo_eq (p := ((o : Int), rd)) h.hup (by simpa using ho))
  simp only [Int.toNat_natCast] at E
  have c0 := h.c0
  have c1 := h.c1
  have r0 := h.row o ho
  have hn := h.hn
  have q1 : (0 : Int) ≤ (o : Int) := by omega
  have q2 : (o : Int) < (n : Int) := by omega
  have hbb := World.block_lt_of_cell? w _ c0
  have hg := h.hg
  go_enter Try.func52, Try.ntmps52
  go_wp2_with fail
  go_quiet (fail)
  go_wp2
  go_loop [5, 19] (fun s c => ∃ k : Nat, k ≤ n ∧ c = .int .i64 k ∧ s = .int .i64 (Sec.wideTo up o rd k : Nat)) (fun _ c => n - (intOf c).toNat)
  case atStart => exact ⟨0, Nat.zero_le _, rfl, rfl⟩
  case round =>
    obtain ⟨k, hk, rfl, rfl⟩ := hrel
    by_cases hlt : k < n
    · have rk := h.row k hlt
      have b1 := Nat.lt_of_lt_of_le (h.hup k hlt) (pow_le n hn)
      have b2 := Nat.lt_of_lt_of_le (Sec.wideTo_lt (rd := rd) h.hup ho k hk) (pow_le n hn)
      obtain ⟨t, ht⟩ : ∃ t, Sec.rbit rd k = t := ⟨_, rfl⟩
      have ht2 := bit_int_t ht
      have HT := Lib.hid ht
      clear ht
      cases t with
      | true =>
        go_wp2
        go_round
        case rel => exact ⟨k + 1, by omega, by go_num, by rw [or_nat _ _ (by omega) (by omega), Sec.wideTo, if_pos HT.out]⟩
        case measure => simp [intOf]; omega
      | false =>
        go_wp2
        go_round
        case rel => exact ⟨k + 1, by omega, by go_num, by rw [Sec.wideTo, if_neg (by rw [HT.out]; simp)]⟩
        case measure => simp [intOf]; omega
    · have hkn : k = n := by omega
      subst hkn
      go_wp2
      go_ret
      exact ⟨ret_int (by rw [E.out]), ((Below.refl _ _).alloc (Nat.le_refl _) _).trans (New.drewN _ _ |>.mono (by simp))⟩
theorem LOrd.drew {w : World} {b g n : Nat} {up : Nat → Nat} (h : LOrd w b g n up) : LOrd w.drew b g n up := ⟨h.hn, h.hup, h.c0, h.c1, h.row, h.hg⟩

/-- what label.of leaves: by actor, whom the policies let read. -/
def OfPost (n : Nat) (f : Nat → Nat) (w : World) (e : Ending) (w' : World) : Prop :=
  ∃ g, e = .returned (.slice (some ⟨g, 0, none⟩) n n) ∧ w.heap.size ≤ g ∧ g < w'.heap.size ∧ (∀ a, a < n → w'.cell? ⟨g, a, none⟩ = some (.int .i64 (f a : Nat))) ∧ New w w'

/-- while label.of runs: its row at block gx. -/
structure OfSt (w wr : World) (gx n : Nat) (f : Nat → Nat) : Prop where
  row : ∀ a, a < n → wr.cell? ⟨gx, a, none⟩ = some (.int .i64 (f a : Nat))
  fr : ∀ a, a < n → wr.frozen? ⟨gx, a, none⟩ = false
  bel : New w wr
  lo : w.heap.size ≤ gx
  hi : gx < wr.heap.size

theorem OfSt.congr {w wr : World} {gx n : Nat} {f f' : Nat → Nat} (h : OfSt w wr gx n f) (e : ∀ a, a < n → f a = f' a) : OfSt w wr gx n f' := ⟨fun a ha => by rw [← e a ha]; exact h.row a ha, h.fr, h.bel, h.lo, h.hi⟩

theorem OfSt.new {w wr w' : World} {gx n : Nat} {f : Nat → Nat} (h : OfSt w wr gx n f) (k : New wr w') : OfSt w w' gx n f :=
  ⟨fun a ha => (k.cell (p := ⟨gx, a, none⟩) h.hi).trans (h.row a ha), fun a ha => (k.frozen (p := ⟨gx, a, none⟩) h.hi).trans (h.fr a ha), h.bel.trans k, h.lo, Nat.lt_of_lt_of_le h.hi k.size⟩

theorem New.alloc (w : World) (o : Obj) : New w (w.alloc o) := (Below.refl _ _).alloc (Nat.le_refl _) _

theorem OfSt.set {w wr : World} {gx n : Nat} {f : Nat → Nat} (h : OfSt w wr gx n f) (a v : Nat) (ha : a < n) : OfSt w (wr.setCell ⟨gx, a, none⟩ (.int .i64 (v : Nat))) gx n (fun b => if b = a then v else f b) := by
  refine ⟨fun b hb => ?_, fun b hb => (World.frozen?_setCell _ _ _ _).trans (h.fr b hb), h.bel.setCell h.lo _, h.lo, by simpa [World.setCell] using h.hi⟩
  by_cases e : b = a
  · subst e; rw [if_pos rfl]; exact World.cell?_setCell_same _ _ _ (h.row b hb)
  · rw [if_neg e]; exact (World.cell?_setCell_other _ _ _ _ (by simp only [ne_eq, Addr.mk.injEq]; omega)).trans (h.row b hb)

set_option maxHeartbeats 1000000 in
set_option maxRecDepth 100000 in
theorem of_any {w : World} {bb g n : Nat} {up : Nat → Nat} (h : LOrd w bb g n up) (pt : Option Addr) (len cap : Nat) (l : List (Int × Int)) (hl : PairRow w pt len l) :
    Calls Try.prog 46 #[.pointer (some ⟨bb, 0, none⟩), .slice pt len cap] w (OfPost n (Sec.under (Sec.rel up) n l) w) := by
  have c0 := h.c0
  have hn := h.hn
  have hbb := World.block_lt_of_cell? w _ c0
  have hlm := hl.hm
  go_enter Try.func46, Try.ntmps46
  go_wp2_with fail
  go_region_held3 (fun w' => w'.cell? ⟨bb, 0, none⟩ = some (.int .i64 n))
    (first
      | go_keep
      | (go_split_ands
         exact (hn1.cell (by simp; omega)).trans (by assumption)))
    (first
      | (go_at_call 51; refine (all_any h.drew).mono ?_; rintro e w1 ⟨rfl, rfl⟩)
      | (go_at_call 50; refine (repeat_any n hn ((2 ^ n - 1 : Nat) : Int) w.heap.size _ ?_).mono ?_; (simp); rintro e w1 ⟨gx, rfl, hgx, hx, hn1⟩))
  have st0 : OfSt w w1 gx n (Sec.under (Sec.rel up) n (l.take 0)) := by
    have k : New w w1 := ((New.alloc w _).trans (New.drewN _ 1)).trans hn1
    have hlt : gx < w1.heap.size := by rw [Array.getElem?_eq_some_iff] at hx; exact hx.1
    have e : ∀ a, a < n → w1.cell? ⟨gx, a, none⟩ = some (.int .i64 ((2 ^ n - 1 : Nat) : Int)) := fun a ha => by
      rw [cell_of_row _ _ _ _ _ _ hx]; simp [ha]
    refine ⟨fun a ha => by rw [List.take_zero, Sec.under_nil]; exact e a ha, fun a ha => ?_, k, by simp at hgx; first | exact hgx | omega, hlt⟩
    simp [World.frozen?, hx]
  clear hgx hx hn1
  go_wp2_with fail
  go_loopw [20] (fun c wr => ∃ i : Nat, i ≤ len ∧ c = .int .i64 i ∧ OfSt w wr gx n (Sec.under (Sec.rel up) n (l.take i))) (fun c _ => len - (intOf c).toNat)
  case atStart => exact ⟨0, Nat.zero_le _, rfl, st0⟩
  case round =>
    clear st0
    obtain ⟨i, hi, rfl, st⟩ := hrel
    by_cases hil : i < len
    · obtain ⟨g', rfl, hg', hcs⟩ := hl.at_ (by omega)
      have ha1 : wr.cell? ⟨g', i * 2, none⟩ = _ := (st.bel.cell (p := ⟨g', i * 2, none⟩) hg').trans (hcs i hil).1
      have ha2 : wr.cell? ⟨g', i * 2 + 1, none⟩ = _ := (st.bel.cell (p := ⟨g', i * 2 + 1, none⟩) hg').trans (hcs i hil).2
      have hsn := Sec.under_snoc (R := Sec.rel up) (n := n) (l := l) (i := i) (by rw [hl.hl]; exact hil)
      obtain ⟨x, y, hxy⟩ : ∃ x y, l.getD i (0, 0) = (x, y) := ⟨_, _, rfl⟩
      rw [hxy] at ha1 ha2 hsn
      have HS := Lib.hid hsn
      clear hcs hxy hsn
      simp only at ha1 ha2
      have d0 : wr.cell? ⟨bb, 0, none⟩ = _ := (st.bel.cell (p := ⟨bb, 0, none⟩) hbb).trans c0
      have hbr : bb < wr.heap.size := Nat.lt_of_lt_of_le hbb st.bel.size
      by_cases hv : 0 ≤ x ∧ x < n
      · obtain ⟨hx0, hx1⟩ := hv
        obtain ⟨X, rfl⟩ := Int.eq_ofNat_of_zero_le hx0
        have hX : X < n := by omega
        have g1 : decide ((X : Int) < 0) = false := decide_eq_false (by omega)
        have g2 : decide ((n : Int) ≤ (X : Int)) = false := by simp; omega
        have LB := Lib.hid (h.below st.bel)
        go_wp2_with fail
        go_quiet (fail)
        go_wp2_with (go_at_call 52; refine (wide_any (LB.out.below ((New.alloc _ _).trans (New.drewN _ _))) X y hX).mono ?_; rintro e w2 ⟨rfl, hn2⟩)
        obtain ⟨B, hB⟩ : ∃ B, wr.heap.size = B := ⟨_, rfl⟩
        have hbx : w2.cell? ⟨wr.heap.size, 0, none⟩ = some (.int .i64 X) := by
          refine (hn2.cell (p := ⟨wr.heap.size, 0, none⟩) (by simp)).trans ?_
          simp
        have hgxB := st.hi
        have st2 := st.new (((New.alloc wr _).trans (New.drewN _ _)).trans hn2)
        have wd := Sec.mask_lt n (Sec.letsP (Sec.rel up) n ((X : Int), y))
        obtain ⟨M, hM⟩ : ∃ M, Sec.mask n (Sec.letsP (Sec.rel up) n ((X : Int), y)) = M := ⟨_, rfl⟩
        rw [hM] at wd ⊢
        have HM := Lib.hid hM
        have wd64 := Nat.lt_of_lt_of_le wd (pow_le n hn)
        rw [hB] at hbx hgxB ⊢
        clear st hn2 LB hM wd ha1 ha2 d0 hbr hB
        go_loopw [41] (fun c wq => ∃ a : Nat, a ≤ n ∧ c = .int .i64 a ∧ wq.cell? ⟨B, 0, none⟩ = some (.int .i64 X) ∧ OfSt w wq gx n (fun b => if b < a then Sec.under (Sec.rel up) n (l.take (i + 1)) b else Sec.under (Sec.rel up) n (l.take i) b)) (fun c _ => n - (intOf c).toNat)
        case atStart => exact ⟨0, Nat.zero_le _, rfl, hbx, st2.congr fun b _ => by simp⟩
        case round =>
          clear st2 hbx
          obtain ⟨a, ha, rfl, hbx, st⟩ := hrel
          by_cases han : a < n
          · have LB := Lib.hid (h.below st.bel)
            obtain ⟨t, ht⟩ : ∃ t, Sec.rel up X a = t := ⟨_, rfl⟩
            have HT := Lib.hid ht
            have hr := st.row a han
            rw [if_neg (Nat.lt_irrefl a)] at hr
            have hf := st.fr a han
            have hu := Nat.lt_of_lt_of_le (Sec.under_lt (Sec.rel up) n (l.take i) a) (pow_le n hn)
            have HC : Hid (Sec.counts (Sec.rel up) n ((X : Int), y) a = t) := by
              show _ = _
              unfold Sec.counts
              rw [decide_eq_true (by omega)]
              simpa using ht
            have hsn := Lib.hid (HS.out a)
            clear ht
            obtain ⟨V, hV⟩ : ∃ V, Sec.under (Sec.rel up) n (l.take i) a = V := ⟨_, rfl⟩
            rw [hV] at hr hu
            have HV := Lib.hid hV
            clear hV
            cases t with
            | true =>
              go_wp2_with (go_at_call 40; refine (over_rel LB.out X a hX han true HT.out).mono ?_; rintro e w3 ⟨rfl, rfl⟩)
              go_roundw
              case rel =>
                refine ⟨a + 1, by omega, by go_num, (World.cell?_setCell_other _ _ _ _ (by simp only [ne_eq, Addr.mk.injEq]; omega)).trans hbx, ?_⟩
                rw [and_nat _ _ (by omega) (by omega)]
                refine (st.set a _ han).congr fun b hb => ?_
                by_cases e : b = a
                · subst e
                  rw [if_pos rfl, if_pos (Nat.lt_succ_self b), hsn.out, if_pos HC.out, HV.out, HM.out]
                · rw [if_neg e]
                  by_cases e2 : b < a
                  · rw [if_pos e2, if_pos (by omega)]
                  · rw [if_neg e2, if_neg (by omega)]
              case measure => simp [intOf]; omega
            | false =>
              go_wp2_with (go_at_call 40; refine (over_rel LB.out X a hX han false HT.out).mono ?_; rintro e w3 ⟨rfl, rfl⟩)
              go_roundw
              case rel =>
                refine ⟨a + 1, by omega, by go_num, hbx, st.congr fun b hb => ?_⟩
                by_cases e : b = a
                · subst e
                  rw [if_neg (Nat.lt_irrefl b), if_pos (Nat.lt_succ_self b), hsn.out, if_neg (by rw [HC.out]; simp)]
                · by_cases e2 : b < a
                  · rw [if_pos e2, if_pos (by omega)]
                  · rw [if_neg e2, if_neg (by omega)]
              case measure => simp [intOf]; omega
          · have han2 : a = n := by omega
            subst han2
            go_wp2_with fail
            go_roundw
            case rel => exact ⟨i + 1, by omega, by go_num, st.congr fun b hb => by rw [if_pos hb]⟩
            case measure => simp [intOf]; omega
      · have NO : Hid (∀ a, Sec.under (Sec.rel up) n (l.take i) a = Sec.under (Sec.rel up) n (l.take (i + 1)) a) := fun a => by
          rw [HS.out a, if_neg]
          unfold Sec.counts
          rw [decide_eq_false hv]; simp
        rcases Int.lt_or_le x 0 with h1 | h1
        · have g1 : decide (x < 0) = true := by simpa using h1
          go_wp2_with fail
          go_quiet (fail)
          go_wp2
          go_roundw
          case rel => exact ⟨i + 1, by omega, by go_num, (st.new ((New.alloc wr _).trans (New.drewN _ _))).congr fun a _ => NO.out a⟩
          case measure => simp [intOf]; omega
        · have g1 : decide (x < 0) = false := by simp; omega
          have g2 : decide ((n : Int) ≤ x) = true := by simp; omega
          go_wp2_with fail
          go_quiet (fail)
          go_wp2
          go_roundw
          case rel => exact ⟨i + 1, by omega, by go_num, (st.new ((New.alloc wr _).trans (New.drewN _ _))).congr fun a _ => NO.out a⟩
          case measure => simp [intOf]; omega
    · have hil2 : i = len := by omega
      subst hil2
      have el : l.take i = l := List.take_of_length_le (by rw [hl.hl]; omega)
      rw [el] at st
      have fin : OfPost n (Sec.under (Sec.rel up) n l) w (.returned (.slice (some ⟨gx, 0, none⟩) n n)) wr := ⟨gx, rfl, st.lo, st.hi, st.row, st.bel⟩
      have FIN := Lib.hid fin
      clear fin el
      go_wp2
      go_ret
      exact FIN.out
end Go.Proofs.Ytffmpkgggmoadaa
