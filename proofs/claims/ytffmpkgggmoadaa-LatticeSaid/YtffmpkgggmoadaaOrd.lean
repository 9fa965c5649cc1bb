/-
  Proved: what plain.NewOrder leaves, over secrets.NewOrder and label.New. Conditions: the slice of ints reads as a row of at most 2^20.
-/
import Derived.Test.YtffmpkgggmoadaaNew
namespace Go.Proofs.Ytffmpkgggmoadaa
open Go.ChangeShapes Go.WideShapes Go.ChangeAt Go.RowKit Go.Deep

theorem info_pair : (Try.prog.info? 57).map (fun i => (i.zero, i.size, i.bytes)) = some (some (.agg #[.int .i64 0, .int .i64 0]), 2, 16) := by kernel_rfl

/-- the cells of pairs. -/
def flat (l : List (Int × Int)) : List Value := l.flatMap fun p => [.int .i64 p.1, .int .i64 p.2]

theorem flat_snoc (l : List (Int × Int)) (p : Int × Int) : flat (l ++ [p]) = flat l ++ [.int .i64 p.1, .int .i64 p.2] := by simp [flat]

theorem flat_len (l : List (Int × Int)) : (flat l).length = l.length * 2 := by induction l with
  | nil => rfl
  | cons p r ih => simp [flat] at ih ⊢; omega

theorem flat_get (l : List (Int × Int)) (j : Nat) (h : j < l.length) : (flat l)[j * 2]? = some (.int .i64 (l.getD j (0, 0)).1) ∧ (flat l)[j * 2 + 1]? = some (.int .i64 (l.getD j (0, 0)).2) := by
  induction l generalizing j with
  | nil => simp at h
  | cons p r ih =>
    cases j with
    | zero => simp [flat]
    | succ j =>
      have := ih j (by simp at h; omega)
      rw [show (j + 1) * 2 + 1 = (j * 2 + 1) + 2 by omega, show (j + 1) * 2 = j * 2 + 2 by omega]
      simpa [flat] using this

theorem pairRow_of {w : World} {base : Nat} {e : TypeId} {pt : Option Addr} {n cap : Nat} {l : List (Int × Int)} (h : w.ownsRow base e 2 (.slice pt n cap) n (flat l)) (hn : n ≤ 1048576) : PairRow w pt n l := by
  obtain ⟨h1, h2⟩ := h
  rw [flat_len] at h1
  have hl : l.length = n := by omega
  refine ⟨hl, hn, fun hp => ?_⟩
  rcases h2 with ⟨_, h3⟩ | ⟨g, c, cur, h3, _, h4, h5, h6, h7, h8⟩
  · omega
  · simp at h3
    obtain ⟨rfl, rfl⟩ := h3
    refine ⟨g, rfl, ?_, fun j hj => ?_⟩
    · rw [Array.getElem?_eq_some_iff] at h4; exact h4.1
    · have q := flat_get l j (by omega)
      rw [← h8] at q
      have cc : ∀ i, i < n * 2 → w.cell? ⟨g, i, none⟩ = (cur.toList.take (n * 2))[i]? := fun i hi => by
        rw [cell_of_row w g i cur e (0, 0) h4, List.getElem?_take_of_lt hi]; simp
      exact ⟨(cc _ (by omega)).trans q.1, (cc _ (by omega)).trans q.2⟩

/-- an order of package plain at block p, over one of package secrets at o. -/
structure POrd (w : World) (p o b g n : Nat) (up : Nat → Nat) : Prop where
  cp : w.cell? ⟨p, 0, none⟩ = some (.pointer (some ⟨o, 0, none⟩))
  co : w.cell? ⟨o, 0, none⟩ = some (.pointer (some ⟨b, 0, none⟩))
  lo : LOrd w b g n up

theorem POrd.below {w w' : World} {p o b g n : Nat} {up : Nat → Nat} (h : POrd w p o b g n up) (k : New w w') : POrd w' p o b g n up :=
  ⟨(k.cell (World.block_lt_of_cell? w _ h.cp)).trans h.cp, (k.cell (World.block_lt_of_cell? w _ h.co)).trans h.co, h.lo.below k⟩

def clamp (n : Int) : Nat := (min (max n 0) 6).toNat

theorem clamp_le (n : Int) : clamp n ≤ 6 := by unfold clamp; omega

/-- what secrets.NewOrder leaves. -/
def SecPost (n : Nat) (l : List (Int × Int)) (w : World) (e : Ending) (w' : World) : Prop :=
  ∃ o b g up, e = .returned (.pointer (some ⟨o, 0, none⟩)) ∧ w'.cell? ⟨o, 0, none⟩ = some (.pointer (some ⟨b, 0, none⟩)) ∧ LOrd w' b g n up ∧ Sec.Closed n (Sec.baseOf n l) (fun x y => (up y).testBit x) ∧ New w w'

theorem sec_fin {n : Nat} {l : List (Int × Int)} {w w1 : World} {b g : Nat} {up : Nat → Nat} (T : TypeId) (hL : LOrd w1 b g n up) (hc : Sec.Closed n (Sec.baseOf n l) (fun x y => (up y).testBit x)) (hn : New w w1) :
    SecPost n l w (.returned (.pointer (some ⟨w1.heap.size, 0, none⟩))) (w1.alloc (.cells #[.pointer (some ⟨b, 0, none⟩)] T)) :=
  ⟨w1.heap.size, b, g, up, rfl, by rw [World.cell?_alloc_at _ _ _ _ rfl]; rfl, hL.below ((Below.refl _ _).alloc (Nat.le_refl _) _), hc, hn.trans ((Below.refl _ _).alloc (Nat.le_refl _) _)⟩

set_option maxHeartbeats 1000000 in
theorem secNew_any (n : Int) (w : World) (pt : Option Addr) (len cap : Nat) (l : List (Int × Int)) (hl : PairRow w pt len l) :
    Calls Try.prog 30 #[.int .i64 n, .slice pt len cap] w (SecPost (clamp n) l w) := by
  rcases Int.lt_or_le n 0 with h | h
  · have e : clamp n = 0 := by unfold clamp; omega
    rw [e]
    go_enter Try.func30, Try.ntmps30
    go_wp2_with (go_at_call 38; refine (new_any 0 (by omega) _ _ _ _ l hl).mono ?_; rintro e w1 ⟨b, g, up, rfl, hL, hc, hn⟩)
    go_ret
    exact sec_fin _ hL hc hn
  · obtain ⟨m, rfl⟩ := Int.eq_ofNat_of_zero_le h
    by_cases h6 : m ≤ 6
    · have e : clamp m = m := by unfold clamp; omega
      rw [e]
      go_enter Try.func30, Try.ntmps30
      go_wp2_with (go_at_call 38; refine (new_any m h6 _ _ _ _ l hl).mono ?_; rintro e w1 ⟨b, g, up, rfl, hL, hc, hn⟩)
      go_ret
      exact sec_fin _ hL hc hn
    · have e : clamp m = 6 := by unfold clamp; omega
      rw [e]
      go_enter Try.func30, Try.ntmps30
      go_wp2_with (go_at_call 38; refine (new_any 6 (by omega) _ _ _ _ l hl).mono ?_; rintro e w1 ⟨b, g, up, rfl, hL, hc, hn⟩)
      go_ret
      exact sec_fin _ hL hc hn

/-- what plain.NewOrder leaves. -/
def PlainPost (n : Nat) (l : List (Int × Int)) (w : World) (e : Ending) (w' : World) : Prop :=
  ∃ p o b g up, e = .returned (.pointer (some ⟨p, 0, none⟩)) ∧ POrd w' p o b g n up ∧ Sec.Closed n (Sec.baseOf n l) (fun x y => (up y).testBit x) ∧ New w w'

theorem plain_fin {n : Nat} {l : List (Int × Int)} {w w1 : World} {o b g : Nat} {up : Nat → Nat} (T : TypeId) (ho : w1.cell? ⟨o, 0, none⟩ = some (.pointer (some ⟨b, 0, none⟩))) (hL : LOrd w1 b g n up) (hc : Sec.Closed n (Sec.baseOf n l) (fun x y => (up y).testBit x)) (hn : New w w1) :
    PlainPost n l w (.returned (.pointer (some ⟨w1.heap.size, 0, none⟩))) (w1.alloc (.cells #[.pointer (some ⟨o, 0, none⟩)] T)) :=
  have k : New w1 (w1.alloc (.cells #[.pointer (some ⟨o, 0, none⟩)] T)) := (Below.refl _ _).alloc (Nat.le_refl _) _
  ⟨w1.heap.size, o, b, g, up, rfl, ⟨by rw [World.cell?_alloc_at _ _ _ _ rfl]; rfl, (k.cell (World.block_lt_of_cell? w1 _ ho)).trans ho, hL.below k⟩, hc, hn.trans k⟩

set_option maxHeartbeats 1000000 in
set_option maxRecDepth 100000 in
theorem plainNew_any (n : Int) (w : World) (a : Option Addr) (len cap : Nat) (zs : List Int) (hz : IsRow .i64 w a len cap zs) (hlen : len ≤ 1048576) :
    Calls Try.prog 10 #[.int .i64 n, .slice a len cap] w (PlainPost (clamp n) (Sec.pairsOf (zs.take len)) w) := by
  obtain ⟨i0, hi, hz0, hz1, hz2⟩ := info_parts info_pair
  obtain ⟨l, hl⟩ : ∃ l, Sec.pairsOf (zs.take len) = l := ⟨_, rfl⟩
  go_enter Try.func10, Try.ntmps10
  go_wp2
  go_loopw [5, 6] (fun v c wr => ∃ i k cp : Nat, ∃ pt, Hid (k = i * 2) ∧ k ≤ len ∧ c = .int .i64 k ∧ v = .slice pt i cp ∧ wr.ownsRow w.heap.size 57 2 (.slice pt i cp) i (flat (l.take i)) ∧ New w wr) (fun _ c _ => len - (intOf c).toNat)
  case atStart => exact ⟨0, 0, 0, none, rfl, Nat.zero_le _, rfl, rfl, World.ownsRow_nil _ _ _ _, Below.refl _ _⟩
  case round =>
    obtain ⟨i, k, cp, pt, hk, hkl, rfl, rfl, hown, hnew⟩ := hrel
    by_cases hlt : k + 1 < len
    · obtain ⟨b, off, rfl, hb, hc⟩ := hz.get (by omega)
      have hb' : b < wr.heap.size := Nat.lt_of_lt_of_le hb hnew.size
      have ha1 : wr.cell? ⟨b, off + k, none⟩ = _ := (hnew.cell (p := ⟨b, off + k, none⟩) hb).trans (hc k (by omega))
      have ha2 : wr.cell? ⟨b, off + (k + 1), none⟩ = _ := (hnew.cell (p := ⟨b, off + (k + 1), none⟩) hb).trans (hc (k + 1) (by omega))
      obtain ⟨x, hx⟩ : ∃ x, zs.getD k 0 = x := ⟨_, rfl⟩
      obtain ⟨y, hy⟩ : ∃ y, zs.getD (k + 1) 0 = y := ⟨_, rfl⟩
      rw [hx] at ha1
      rw [hy] at ha2
      have HX := Lib.hid hx
      have HY := Lib.hid hy
      clear hx hy hc
      have hbo : some b ≠ (Value.slice pt i cp).ownBlock := fun e => by have := (hown.lt b e.symm).1; omega
      have HN := Lib.hid hnew
      clear hnew
      have hib : i < 1048576 := by have := hk.out; omega
      have q1 : (0 : Int) ≤ (k : Int) := by omega
      have q2 : (k : Int) < (len : Int) := by omega
      have q3 : (0 : Int) ≤ (k : Int) + 1 := by omega
      have q4 : (k : Int) + 1 < (len : Int) := by omega
      have q5 : IntKind.i64.wrap ((k : Int) + 1) = (k : Int) + 1 := IntWalk.i64_in _ (by omega)
      have q6 : ((k : Int) + 1).toNat = k + 1 := by omega
      go_wp2_with fail
      go_region_held3 (fun w' => w'.cell? ⟨b, off + k, none⟩ = some (.int .i64 x) ∧ w'.cell? ⟨b, off + (k + 1), none⟩ = some (.int .i64 y))
        (first
          | go_keep
          | (go_split_ands
             refine ⟨?_, ?_⟩
             · (rw [hgrow.cell_far _ (by simp; omega) hbo]; assumption)
             · (rw [hgrow.cell_far _ (by simp; omega) hbo]; assumption)))
        ((refine step_append_lies _ (by rfl) _ _ _ (by rfl) w.heap.size 57 i0 _ 2 16 Try.underlying56 hi hz0 hz1 hz2 rfl (by omega) (.slice pt i cp) i (flat (l.take i)) (by rfl) ((hown.alloc _).drew) ⟨wr.heap.size, 0, none⟩ 1 1 [.int .i64 x, .int .i64 y] (by rfl) (by rfl) (World.news_of_block (cs := #[.int .i64 x, .int .i64 y]) (t := 57) (fr := (0, 0)) (heap_alloc_new wr _)) (by simp [Value.oneCell']) (by omega) (by unfold maxLen; omega) (by omega) (by have := HN.out.size; simp; omega) (wr.heap.size + 1) (by simp) ?_; intro gg cap1 w1 hown1 hgrow hat hltg))
      have e1 : flat (l.take (i + 1)) = flat (l.take i) ++ [.int .i64 x, .int .i64 y] := by
        have hki := hk.out
        have hlz := hz.len_le
        have hll : (zs.take len).length = len := by rw [List.length_take]; omega
        have hl2 := Sec.pairsOf_len len (zs.take len) (by omega)
        have hg2 := Sec.pairsOf_get len (zs.take len) i (by omega) (by omega)
        rw [hl, hll] at hl2
        rw [hl] at hg2
        rw [Sec.take_snoc l i (0, 0) (by omega), flat_snoc, hg2]
        have t1 : (zs.take len).getD (i * 2) 0 = x := by rw [← HX.out, hki]; simp [List.getD, show i * 2 < len by omega]
        have t2 : (zs.take len).getD (i * 2 + 1) 0 = y := by rw [← HY.out, hki]; simp [List.getD, show i * 2 + 1 < len by omega]
        rw [t1, t2]
      rw [← e1] at hown1
      have hn2 : New w w1 := ((HN.out.alloc (by exact HN.out.size) _).drew).grown hgrow (by have := HN.out.size; simp; omega) (fun j hj => (hown.lt j hj).1)
      have HE := Lib.hid (And.intro hown1 hn2)
      have hkn : Hid (k + 2 = (i + 1) * 2) := by have := hk.out; show k + 2 = _; omega
      clear hown1 hn2 hgrow e1 hown
      go_wp2
      go_roundw
      case rel => exact ⟨i + 1, k + 2, cap1, _, hkn, by omega, by go_num, rfl, HE.out.1, HE.out.2⟩
      case measure => simp [intOf]; omega
    · have hkb : (k : Int) + 1 = wrap64 ((k : Int) + 1) := (IntWalk.wrap64_in _ (by omega)).symm
      have hi : i = len / 2 := by have := hk.out; omega
      have hlz := hz.len_le
      have hll : l.length = i := by
        have := Sec.pairsOf_len len (zs.take len) (by rw [List.length_take]; omega)
        rw [hl, List.length_take] at this
        omega
      rw [← hll, List.take_length, hll] at hown
      have pr := pairRow_of hown (by omega)
      clear hown hll hi hkb hk
      subst hl
      go_wp2_with (go_at_call 30; refine (secNew_any n _ _ _ _ _ pr).mono ?_; rintro e w1 ⟨o, b, g, up, rfl, ho, hL, hc, hn⟩)
      go_ret
      exact plain_fin _ ho hL hc (hnew.trans hn)
end Go.Proofs.Ytffmpkgggmoadaa
