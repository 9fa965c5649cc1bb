/-
  Proved: slices.Concat of two rows of policies. Conditions: together at most 2^20.
-/
import Derived.Test.YtffmpkgggmoadaaLib
namespace Go.Proofs.Ytffmpkgggmoadaa
open Go.ChangeShapes Go.WideShapes Go.ChangeAt Go.RowKit Go.Deep

theorem PairRow.below {w w' : World} {pt : Option Addr} {n : Nat} {l : List (Int × Int)} (h : PairRow w pt n l) (k : New w w') : PairRow w' pt n l := by
  refine ⟨h.hl, h.hm, fun hp => ?_⟩
  obtain ⟨g, e, hg, hc⟩ := h.at_ hp
  exact ⟨g, e, Nat.lt_of_lt_of_le hg k.size, fun j hj => ⟨(k.cell (p := ⟨g, j * 2, none⟩) hg).trans (hc j hj).1, (k.cell (p := ⟨g, j * 2 + 1, none⟩) hg).trans (hc j hj).2⟩⟩

theorem flat_append (l m : List (Int × Int)) : flat (l ++ m) = flat l ++ flat m := by simp [flat]

theorem flat_one (l : List (Int × Int)) : ∀ u ∈ flat l, u.oneCell' = true := by
  intro u hu
  simp only [flat, List.mem_flatMap] at hu
  obtain ⟨p, _, hp⟩ := hu
  simp at hp
  rcases hp with rfl | rfl <;> rfl

/-- a row of pairs as cells at an address. -/
theorem PairRow.news {w : World} {g n : Nat} {l : List (Int × Int)} (h : PairRow w (some ⟨g, 0, none⟩) n l) : ∀ j u, (flat l)[j]? = some u → w.cell? ((⟨g, 0, none⟩ : Addr).add j) = some u := by
  intro j u hu
  have hlt : j < (flat l).length := by rw [List.getElem?_eq_some_iff] at hu; exact hu.1
  rw [flat_len, h.hl] at hlt
  obtain ⟨g', e, _, hc⟩ := h.at_ (by omega)
  simp at e
  subst e
  have ea : (⟨g, 0, none⟩ : Addr).add j = ⟨g, j, none⟩ := by unfold Addr.add; split <;> simp_all
  rw [ea]
  have q := flat_get l (j / 2) (by rw [h.hl]; omega)
  have c := hc (j / 2) (by omega)
  rcases Nat.mod_two_eq_zero_or_one j with e2 | e2
  · have : j = j / 2 * 2 := by omega
    rw [this] at hu ⊢
    rw [q.1] at hu
    exact c.1.trans hu
  · have : j = j / 2 * 2 + 1 := by omega
    rw [this] at hu ⊢
    rw [q.2] at hu
    exact c.2.trans hu

theorem append_pols {w : World} {base : Nat} {pt p : Option Addr} {m cp n c : Nat} {L l : List (Int × Int)} (hown : w.ownsRow base 64 2 (.slice pt m cp) m (flat L)) (hp : PairRow w p n l) (hmn : m + n ≤ 2097152) (hb : base ≤ w.heap.size) :
    ∃ pt' cp' w', (∀ ty, (Builtin.append_ #[37, 37] ty #[.slice pt m cp, .slice p n c]).run Try.prog w = .ok (.slice pt' (m + n) cp') w') ∧ w'.ownsRow base 64 2 (.slice pt' (m + n) cp') (m + n) (flat (L ++ l)) ∧ w.grownBy w' (Value.slice pt m cp).ownBlock := by
  obtain ⟨i0, hi, hz0, hz1, hz2⟩ := info_parts info_pol
  by_cases h0 : n = 0
  · subst h0
    have hl : l = [] := List.eq_nil_of_length_eq_zero hp.hl
    subst hl
    have hle : m ≤ cp := by
      rcases hown.2 with ⟨e, h⟩ | ⟨g, c, cur, e, _, _, h, _⟩
      · omega
      · simp at e; omega
    have hsrc : Src Try.prog i0.size 37 (.slice p 0 c) 0 [] w := by
      refine ⟨.inl ⟨_, Try.underlying37⟩, fun _ => rfl, ?_, ?_, by simp, fun _ h => by cases h⟩
      · cases p with
        | none => exact run_firstCells_none w i0.size 0 0 c
        | some a => exact run_firstCells_some w i0.size 0 a 0 c [] (by simp) (by simp)
      · cases p with
        | none => exact run_firstCells_none w.drew i0.size 0 0 c
        | some a => exact run_firstCells_some w.drew i0.size 0 a 0 c [] (by simp) (by simp)
    refine ⟨pt, cp, w, fun ty => run_append_nothing w _ _ ty 64 i0 Try.underlying37 hi pt m cp hle _ hsrc, by simpa using hown, ⟨rfl, rfl, rfl, Nat.le_refl _, fun _ _ _ => rfl⟩⟩
  · obtain ⟨g, rfl, hg, _⟩ := hp.at_ (by omega)
    obtain ⟨g', cap, w', hrun, h1, h2, h3, h4⟩ := run_append_lies w 37 0 base 64 i0 _ 2 16 Try.underlying37 hi hz0 hz1 hz2 rfl (by omega) (.slice pt m cp) m (flat L) hown ⟨g, 0, none⟩ n c (flat l) (by rw [flat_len, hp.hl]) hp.news (flat_one l) (by omega) (by unfold maxLen; omega) (by omega) hb w.heap.size rfl
    exact ⟨_, cap, w', fun ty => hrun, by rw [flat_append]; exact h1, h2⟩

/-- what slices.Concat of two leaves. -/
def ConcatPost (m : Nat) (l : List (Int × Int)) (w : World) (e : Ending) (w' : World) : Prop :=
  ∃ pt cp, e = .returned (.slice pt m cp) ∧ PairRow w' pt m l ∧ New w w'

set_option maxHeartbeats 1000000 in
set_option maxRecDepth 100000 in
theorem concat_any (B : Nat) (p1 p2 : Option Addr) (n1 n2 c1 c2 : Nat) (l1 l2 : List (Int × Int)) (w : World)
    (hc1 : w.cell? ⟨B, 0, none⟩ = some (.slice p1 n1 c1)) (hc2 : w.cell? ⟨B, 1, none⟩ = some (.slice p2 n2 c2)) (h1 : PairRow w p1 n1 l1) (h2 : PairRow w p2 n2 l2) (hs : n1 + n2 ≤ 1048576) :
    Calls Try.prog 49 #[.slice (some ⟨B, 0, none⟩) 2 2] w (ConcatPost (n1 + n2) (l1 ++ l2) w) := by
  obtain ⟨i0, hi, hz0, hz1, hz2⟩ := info_parts info_pol
  go_enter Try.func49, Try.ntmps49
  go_wp2_with fail
  go_loop [3, 11] (fun s c => (s = .int .i64 0 ∧ c = .int .i64 0) ∨ (s = .int .i64 n1 ∧ c = .int .i64 1) ∨ (s = .int .i64 (n1 + n2 : Nat) ∧ c = .int .i64 2)) (fun _ c => 2 - (intOf c).toNat)
  case atStart => exact .inl ⟨rfl, rfl⟩
  case round =>
    rcases hrel with ⟨rfl, rfl⟩ | ⟨rfl, rfl⟩ | ⟨rfl, rfl⟩
    · go_wp2_with fail
      go_round
      case rel => exact .inr (.inl ⟨rfl, rfl⟩)
      case measure => simp [intOf]
    · go_wp2_with fail
      go_round
      case rel => exact .inr (.inr ⟨by go_num, rfl⟩)
      case measure => simp [intOf]
    · go_wp2_with (go_at_call 53; refine (grow_nil (n1 + n2) (by omega) _).mono ?_; rintro e w1 ⟨pt, cp, rfl, hown, hn⟩)
      have hB := World.block_lt_of_cell? w _ hc1
      have HO := Lib.hid hown
      have HN := Lib.hid hn
      clear hown hn
      go_loopw [6, 27] (fun s c wr => ∃ pt cp m L, s = .slice pt m cp ∧ wr.ownsRow w.heap.size 64 2 (.slice pt m cp) m (flat L) ∧ New w wr ∧ ((L = [] ∧ m = 0 ∧ c = .int .i64 0) ∨ (L = l1 ∧ m = n1 ∧ c = .int .i64 1) ∨ (L = l1 ++ l2 ∧ m = n1 + n2 ∧ c = .int .i64 2))) (fun _ c _ => 2 - (intOf c).toNat)
      case atStart => exact ⟨pt, cp, 0, [], rfl, HO.out, HN.out, .inl ⟨rfl, rfl, rfl⟩⟩
      case round =>
        clear HO HN
        obtain ⟨pt, cp, m, L, rfl, hown, hn, hc⟩ := hrel
        have b1 : wr.cell? ⟨B, 0, none⟩ = _ := (hn.cell (p := ⟨B, 0, none⟩) hB).trans hc1
        have b2 : wr.cell? ⟨B, 1, none⟩ = _ := (hn.cell (p := ⟨B, 1, none⟩) hB).trans hc2
        rcases hc with ⟨rfl, rfl, rfl⟩ | ⟨rfl, rfl, rfl⟩ | ⟨rfl, rfl, rfl⟩
        · obtain ⟨pt', cp', w2, hrun, hown2, hg⟩ := append_pols (c := c1) hown (h1.below hn) (by omega) hn.size
          rw [Nat.zero_add] at hrun hown2
          have HR := Lib.hid hrun
          have HF := Lib.hid (And.intro hown2 (hn.grown hg hn.size (fun j hj => (hown.lt j hj).1)))
          clear hrun hown2 hg
          go_wp2_with (at_builtin; go_must (refine wpList_append_run rfl (.tmp 31) (.tmp 32) 37 37 rfl _ _ _ _ (by rfl) (by rfl) HR.out ?_))
          go_roundw
          case rel => exact ⟨pt', cp', _, _, rfl, HF.out.1, HF.out.2, .inr (.inl ⟨by simp, rfl, rfl⟩)⟩
          case measure => simp [intOf]
        · obtain ⟨pt', cp', w2, hrun, hown2, hg⟩ := append_pols (c := c2) hown (h2.below hn) (by omega) hn.size
          have HR := Lib.hid hrun
          have HF := Lib.hid (And.intro hown2 (hn.grown hg hn.size (fun j hj => (hown.lt j hj).1)))
          clear hrun hown2 hg
          go_wp2_with (at_builtin; go_must (refine wpList_append_run rfl (.tmp 31) (.tmp 32) 37 37 rfl _ _ _ _ (by rfl) (by rfl) HR.out ?_))
          go_roundw
          case rel => exact ⟨pt', cp', _, _, rfl, HF.out.1, HF.out.2, .inr (.inr ⟨rfl, rfl, rfl⟩)⟩
          case measure => simp [intOf]
        · have fin : ConcatPost (n1 + n2) (l1 ++ l2) w (.returned (.slice pt (n1 + n2) cp)) wr := ⟨pt, cp, rfl, pairRow_of hown hs, hn⟩
          have FIN := Lib.hid fin
          clear fin
          go_wp2
          go_ret
          exact FIN.out
end Go.Proofs.Ytffmpkgggmoadaa
