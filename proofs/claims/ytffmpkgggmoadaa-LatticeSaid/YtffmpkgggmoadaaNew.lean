/-
  Proved: what label.New leaves in memory: an order whose sets are the closure of the pairs. Conditions: at most 6 actors; the pairs a row of at most 2^20.
-/
import Derived.Test.YtffmpkgggmoadaaBase
namespace Go.Proofs.Ytffmpkgggmoadaa
open Go.ChangeShapes Go.WideShapes Go.ChangeAt Go.RowKit Go.Deep

/-- while label.New runs: its order at block S + 1, the row of sets at block S. -/
structure NewSt (w wr : World) (S n : Nat) (up : Nat → Nat) : Prop where
  c0 : wr.cell? ⟨S + 1, 0, none⟩ = some (.int .i64 n)
  c1 : wr.cell? ⟨S + 1, 1, none⟩ = some (.slice (some ⟨S, 0, none⟩) n n)
  row : ∀ j, j < n → wr.cell? ⟨S, j, none⟩ = some (.int .i64 (up j : Int))
  fr : ∀ j, j < n → wr.frozen? ⟨S, j, none⟩ = false
  bel : Below S w wr
  hS : w.heap.size = S
  sz : S + 1 < wr.heap.size

theorem NewSt.drew {w wr : World} {S n : Nat} {up : Nat → Nat} (h : NewSt w wr S n up) : NewSt w wr.drew S n up := ⟨h.c0, h.c1, h.row, h.fr, h.bel.drew, h.hS, h.sz⟩

theorem NewSt.set {w wr : World} {S n : Nat} {up : Nat → Nat} (h : NewSt w wr S n up) (a v : Nat) (ha : a < n) :
    NewSt w (wr.setCell ⟨S, a, none⟩ (.int .i64 (v : Int))) S n (fun j => if j = a then v else up j) := by
  have hS := h.hS
  refine ⟨(World.cell?_setCell_other _ _ _ _ (by simp)).trans h.c0, (World.cell?_setCell_other _ _ _ _ (by simp)).trans h.c1, fun j hj => ?_, fun j hj => (World.frozen?_setCell _ _ _ _).trans (h.fr j hj), h.bel.setCell (by simp) _, h.hS, by simpa [World.setCell] using h.sz⟩
  by_cases e : j = a
  · subst e; rw [if_pos rfl]; exact World.cell?_setCell_same _ _ _ (h.row j hj)
  · rw [if_neg e]; exact (World.cell?_setCell_other _ _ _ _ (by simp only [ne_eq, Addr.mk.injEq]; omega)).trans (h.row j hj)

theorem NewSt.congr {w wr : World} {S n : Nat} {up up' : Nat → Nat} (h : NewSt w wr S n up) (e : ∀ j, j < n → up j = up' j) : NewSt w wr S n up' := ⟨h.c0, h.c1, fun j hj => by rw [← e j hj]; exact h.row j hj, h.fr, h.bel, h.hS, h.sz⟩

theorem NewSt.alloc {w wr : World} {S n : Nat} {up : Nat → Nat} (h : NewSt w wr S n up) (o : Obj) : NewSt w (wr.alloc o) S n up := by
  have hsz := h.sz
  have a : ∀ b j, b < wr.heap.size → (wr.alloc o).cell? ⟨b, j, none⟩ = wr.cell? ⟨b, j, none⟩ := fun b j hb => World.cell?_alloc_past o b j hb
  exact ⟨(a _ _ (by omega)).trans h.c0, (a _ _ (by omega)).trans h.c1, fun j hj => (a _ _ (by omega)).trans (h.row j hj), fun j hj => (World.frozen?_alloc_past o _ _ (by omega)).trans (h.fr j hj), h.bel.alloc (by omega) _, h.hS, by simp; omega⟩

theorem wrap64_pow (k : Nat) (h : k ≤ 6) : wrap64 (2 ^ k) = ((2 ^ k : Nat) : Int) := by
  have := pow_le k h
  have e : ((2 : Int) ^ k) = ((2 ^ k : Nat) : Int) := by simp
  rw [e]
  generalize 2 ^ k = p at *
  exact IntWalk.wrap64_in _ ⟨by omega, by omega⟩

/-- a slice of pairs of ints. -/
structure PairRow (w : World) (pt : Option Addr) (len : Nat) (l : List (Int × Int)) : Prop where
  hl : l.length = len
  hm : len ≤ 1048576
  at_ : 0 < len → ∃ g, pt = some ⟨g, 0, none⟩ ∧ g < w.heap.size ∧ ∀ j, j < len → w.cell? ⟨g, j * 2, none⟩ = some (.int .i64 (l.getD j (0, 0)).1) ∧ w.cell? ⟨g, j * 2 + 1, none⟩ = some (.int .i64 (l.getD j (0, 0)).2)

theorem bit_nat_t {x a : Nat} {b : Bool} (h : x.testBit a = b) : (bits .and .i64 ((x : Int) / 2 ^ a) 1 == 1) = b := (bit_nat x a).trans h

theorem NewSt.toL {w wr : World} {S n : Nat} {up : Nat → Nat} (h : NewSt w wr S n up) (hn : n ≤ 6) (hup : ∀ j, j < n → up j < 2 ^ n) : LOrd wr (S + 1) S n up := ⟨hn, hup, h.c0, h.c1, h.row, by have := h.sz; omega⟩

/-- what label.New leaves. -/
def NewPost (n : Nat) (l : List (Int × Int)) (w : World) (e : Ending) (w' : World) : Prop :=
  ∃ b g up, e = .returned (.pointer (some ⟨b, 0, none⟩)) ∧ LOrd w' b g n up ∧ Sec.Closed n (Sec.baseOf n l) (fun x y => (up y).testBit x) ∧ New w w'

set_option maxHeartbeats 1000000 in
set_option maxRecDepth 100000 in
theorem new_any (n : Nat) (hn : n ≤ 6) (w : World) (pt : Option Addr) (len cap : Nat) (l : List (Int × Int)) (hl : PairRow w pt len l) :
    Calls Try.prog 38 #[.int .i64 n, .slice pt len cap] w (NewPost n l w) := by
  have hmk := run_make_row' (P := Try.prog) 25 3 (.int .i64 0) 8 Try.underlying25 info_int rfl .i64 .i64 n (by omega) (by omega)
  have hlm := hl.hm
  have hll := Lib.hid hl.hl
  go_enter Try.func38, Try.ntmps38
  go_wp2
  go_loopw [17] (fun c wr => ∃ k : Nat, k ≤ n ∧ c = .int .i64 k ∧ NewSt w wr w.heap.size n (fun j => if j < k then 2 ^ j else 0)) (fun c _ => n - (intOf c).toNat)
  case atStart =>
    refine ⟨0, Nat.zero_le _, rfl, ⟨?_, ?_, fun j hj => ?_, fun j hj => ?_, ?_, rfl, ?_⟩⟩
    · go_simp
    · go_simp
    · rw [World.cell?_alloc_past _ _ _ (by simp), cell_made w _ _ _ _ hj]; simp
    · rw [World.frozen?_alloc_past _ _ _ (by simp), World.frozen?_alloc_at _ _ _ _ rfl]
    · exact ((Below.refl _ _).alloc (Nat.le_refl _) _).alloc (by simp) _
    · simp
  case round =>
    obtain ⟨k, hk, rfl, st⟩ := hrel
    by_cases hlt : k < n
    · have c0 := st.c0
      have c1 := st.c1
      have r := st.row k hlt
      have f := st.fr k hlt
      go_wp2
      go_region
      go_wp2
      go_roundw
      case rel =>
        refine ⟨k + 1, by omega, by go_num, ?_⟩
        rw [wrap64_pow k (by omega)]
        refine ((st.set k _ hlt).drew).congr fun j hj => ?_
        by_cases e : j = k
        · subst e; simp
        · simp only [e, if_false]; by_cases h2 : j < k <;> simp [h2, show j < k + 1 ↔ j < k by omega]
      case measure => simp [intOf]; omega
    · have hkn : k = n := by omega
      subst hkn
      go_wp2
      have st1 : NewSt w wr w.heap.size k (fun j => 2 ^ j) := st.congr fun j hj => by simp [hj]
      clear st
      go_loopw [31] (fun c wr => ∃ i : Nat, ∃ up : Nat → Nat, i ≤ len ∧ c = .int .i64 i ∧ NewSt w wr w.heap.size k up ∧ Sec.Ups k up (Sec.baseOf k (l.take i))) (fun c _ => len - (intOf c).toNat)
      case atStart => exact ⟨0, _, Nat.zero_le _, rfl, st1, Sec.Ups.start k⟩
      case round =>
        clear st1
        obtain ⟨i, up, hi, rfl, st, ups⟩ := hrel
        by_cases hil : i < len
        · obtain ⟨g, rfl, hg, hcs⟩ := hl.at_ (by omega)
          have ha : wr.cell? ⟨g, i * 2, none⟩ = _ := (st.bel.cell (p := ⟨g, i * 2, none⟩) hg).trans (hcs i hil).1
          have hb : wr.cell? ⟨g, i * 2 + 1, none⟩ = _ := (st.bel.cell (p := ⟨g, i * 2 + 1, none⟩) hg).trans (hcs i hil).2
          obtain ⟨x, y, hxy⟩ : ∃ x y, l.getD i (0, 0) = (x, y) := ⟨_, _, rfl⟩
          rw [hxy] at ha hb
          have HXY := Lib.hid hxy
          clear hcs hxy
          simp only at ha hb
          by_cases hv : (0 ≤ x ∧ x < k) ∧ (0 ≤ y ∧ y < k)
          · obtain ⟨⟨hx0, hx1⟩, hy0, hy1⟩ := hv
            obtain ⟨X, rfl⟩ := Int.eq_ofNat_of_zero_le hx0
            obtain ⟨Y, rfl⟩ := Int.eq_ofNat_of_zero_le hy0
            have hX : X < k := by omega
            have hY : Y < k := by omega
            have st2 := st.alloc (.cells #[.int .i64 X, .int .i64 Y] 57)
            have c0 := st2.c0
            have c1 := st2.c1
            have r := st2.row Y hY
            have f := st2.fr Y hY
            have u64 := Nat.lt_of_lt_of_le (ups.lt Y hY) (pow_le k hn)
            go_wp2
            go_region
            go_wp2
            go_roundw
            case rel =>
              have pX := pow_le X (by omega)
              refine ⟨i + 1, _, by omega, by go_num, ?_, ups.pair (by rw [hll.out]; exact hil) hX hY HXY.out⟩
              rw [wrap64_pow X (by omega), or_nat _ _ (by omega) (by omega)]
              exact (st2.set Y _ hY).drew
            case measure => simp [intOf]; omega
          · have NP := Lib.hid (ups.nopair (by rw [hll.out]; exact hil) hv HXY.out)
            go_wp2
            all_goals
              go_roundw
              case rel => exact ⟨i + 1, up, by omega, by go_num, st.alloc _, NP.out⟩
              case measure => simp [intOf]; omega
        · have hin : i = len := by omega
          subst hin
          rw [← hll.out, List.take_length] at ups
          go_wp2
          go_loopw [70] (fun c wr => ∃ m : Nat, ∃ up : Nat → Nat, ∃ R : Nat → Nat → Bool, m ≤ k ∧ c = .int .i64 m ∧ NewSt w wr w.heap.size k up ∧ Sec.Ups k up R ∧ Sec.War k m (Sec.baseOf k l) R) (fun c _ => k - (intOf c).toNat)
          case atStart => exact ⟨0, up, _, Nat.zero_le _, rfl, st, ups, Sec.War.zero⟩
          case round =>
            clear st ups
            obtain ⟨m, up, R, hm, rfl, st, ups, war⟩ := hrel
            by_cases hmk2 : m < k
            · go_wp2
              obtain ⟨wo, rfl⟩ : ∃ wo : World, wo = wr := ⟨_, rfl⟩
              go_loopw [74] (fun c wr => ∃ a : Nat, ∃ up : Nat → Nat, a ≤ k ∧ c = .int .i64 a ∧ NewSt w wr w.heap.size k up ∧ Sec.Ups k up (Sec.warA m a R)) (fun c _ => k - (intOf c).toNat)
              case atStart => exact ⟨0, up, Nat.zero_le _, rfl, st, ups.congr fun x b _ _ => by simp [Sec.warA]⟩
              case round =>
                clear st ups
                obtain ⟨a, up, ha, rfl, st, ups⟩ := hrel
                by_cases hak : a < k
                · have c0 := st.c0
                  have c1 := st.c1
                  have r := st.row a hak
                  have r2 := st.row m hmk2
                  have f := st.fr a hak
                  have u64 := Nat.lt_of_lt_of_le (ups.lt a hak) (pow_le k hn)
                  have u642 := Nat.lt_of_lt_of_le (ups.lt m hmk2) (pow_le k hn)
                  obtain ⟨t, ht⟩ : ∃ t, (up a).testBit m = t := ⟨_, rfl⟩
                  have hb := bit_nat_t ht
                  have HT := Lib.hid ht
                  clear ht
                  cases t with
                  | true =>
                    go_wp2
                    go_region
                    go_wp2
                    go_roundw
                    case rel =>
                      refine ⟨a + 1, _, by omega, by go_num, ?_, ups.war_yes hak hmk2 HT.out⟩
                      rw [or_nat _ _ (by omega) (by omega)]
                      exact (st.set a _ hak).drew
                    case measure => simp [intOf]; omega
                  | false =>
                    go_wp2
                    go_roundw
                    case rel => exact ⟨a + 1, up, by omega, by go_num, st, ups.war_no hak hmk2 HT.out⟩
                    case measure => simp [intOf]; omega
                · have hak2 : a = k := by omega
                  subst hak2
                  go_wp2
                  go_roundw
                  case rel => exact ⟨m + 1, up, _, by omega, by go_num, st, ups, war.succ hmk2⟩
                  case measure => simp [intOf]; omega
            · have hmk3 : m = k := by omega
              subst hmk3
              have fin : NewPost m l w (.returned (.pointer (some ⟨w.heap.size + 1, 0, none⟩))) wr := ⟨_, _, up, rfl, st.toL hn ups.lt, war.done.congr fun x y hx hy => (ups.bit x y hx hy).symm, st.bel⟩
              have FIN := Lib.hid fin
              clear fin
              go_wp2
              go_ret
              exact FIN.out
end Go.Proofs.Ytffmpkgggmoadaa
