/-
  Proved: what secretsref.NewOrder leaves: rows of bools that are the closure of the pairs. Conditions: as for plain.NewOrder.
-/
import Derived.Test.YtffmpkgggmoadaaOrd
namespace Go.Proofs.Ytffmpkgggmoadaa
open Go.ChangeShapes Go.WideShapes Go.ChangeAt Go.RowKit Go.Deep

theorem info_bool : (Try.prog.info? 4).map (fun i => (i.zero, i.size, i.bytes)) = some (some (.bool false), 1, 1) := by kernel_rfl
theorem info_bools : (Try.prog.info? 62).map (fun i => (i.zero, i.size, i.bytes)) = some (some (.slice none 0 0), 1, 24) := by kernel_rfl

def rowVals (r : Nat → Nat) (n k : Nat) : List Value := (List.range k).map fun a => Value.slice (some ⟨r a, 0, none⟩) n n

theorem rowVals_succ (r : Nat → Nat) (n k : Nat) : rowVals r n (k + 1) = rowVals r n k ++ [Value.slice (some ⟨r k, 0, none⟩) n n] := by
  unfold rowVals; rw [List.range_succ, List.map_append]; rfl

/-- while secretsref.NewOrder lays its rows. -/
structure RefA (w wr : World) (S n k cp : Nat) (pt : Option Addr) (r : Nat → Nat) : Prop where
  c0 : wr.cell? ⟨S, 0, none⟩ = some (.int .i64 n)
  c1 : wr.cell? ⟨S, 1, none⟩ = some (.slice pt k cp)
  f1 : wr.frozen? ⟨S, 1, none⟩ = false
  own : wr.ownsRow (S + 1) 62 1 (.slice pt k cp) k (rowVals r n k)
  at_ : ∀ a, a < k → S < r a ∧ r a < wr.heap.size ∧ (Value.slice pt k cp).ownBlock ≠ some (r a)
  row : ∀ a b, a < k → b < n → wr.cell? ⟨r a, b, none⟩ = some (.bool (decide (a = b))) ∧ wr.frozen? ⟨r a, b, none⟩ = false
  inj : ∀ a b, a < k → b < k → r a = r b → a = b
  bel : Below S w wr
  hS : w.heap.size = S
  sz : S < wr.heap.size

theorem rowVals_congr {r r' : Nat → Nat} {n k : Nat} (h : ∀ a, a < k → r a = r' a) : rowVals r n k = rowVals r' n k := by
  unfold rowVals
  apply List.map_congr_left
  intro a ha
  rw [h a (by simpa using ha)]

theorem made_set (n k b : Nat) (hb : b < n) : ((madeCells #[Value.bool false] n).setIfInBounds k (Value.bool true))[b]? = some (.bool (decide (k = b))) := by
  have hs : (madeCells #[Value.bool false] n).size = n := size_madeCells _ _
  rw [Array.getElem?_setIfInBounds, hs]
  by_cases e : k = b
  · subst e; simp [hb]
  · rw [if_neg e, ← Array.getElem?_toList, toList_madeCells_one]; simp [hb, e]

theorem RefA.step {w wr : World} {S m k cp : Nat} {pt : Option Addr} {r : Nat → Nat} (st : RefA w wr S m k cp pt r) {g cap1 : Nat} {w1 : World}
    (hown : w1.ownsRow (S + 1) 62 1 (.slice (some ⟨g, 0, none⟩) (k + 1) cap1) (k + 1) (rowVals r m k ++ [.slice (some ⟨wr.heap.size, 0, none⟩) m m]))
    (hgrow : ((wr.alloc (.cells ((madeCells #[.bool false] m).setIfInBounds k (.bool true)) 4)).alloc (.cells #[.slice (some ⟨wr.heap.size, 0, none⟩) m m] 62)).grownBy w1 (Value.slice pt k cp).ownBlock)
    (hat : (Value.slice pt k cp).ownBlock = some g ∨ g = wr.heap.size + 2) :
    w1.frozen? ⟨S, 1, none⟩ = false ∧ (∃ v, w1.cell? ⟨S, 1, none⟩ = some v) ∧
    RefA w (w1.setCell ⟨S, 1, none⟩ (.slice (some ⟨g, 0, none⟩) (k + 1) cap1)) S m (k + 1) cap1 (some ⟨g, 0, none⟩) (fun j => if j = k then wr.heap.size else r j) := by
  have sz := st.sz
  have lt := st.own.lt
  have hg : S < g := by
    rcases hat with h | h
    · have := (lt g h).1; omega
    · omega
  have hsz1 : wr.heap.size + 2 ≤ w1.heap.size := by have := hgrow.size; simpa using this
  have far : ∀ b j, b < wr.heap.size + 2 → (Value.slice pt k cp).ownBlock ≠ some b → w1.cell? ⟨b, j, none⟩ = ((wr.alloc (.cells ((madeCells #[.bool false] m).setIfInBounds k (.bool true)) 4)).alloc (.cells #[.slice (some ⟨wr.heap.size, 0, none⟩) m m] 62)).cell? ⟨b, j, none⟩ :=
    fun b j hb hne => hgrow.cell_far ⟨b, j, none⟩ (by simpa using hb) (Ne.symm hne)
  have farF : ∀ b j, b < wr.heap.size + 2 → (Value.slice pt k cp).ownBlock ≠ some b → w1.frozen? ⟨b, j, none⟩ = ((wr.alloc (.cells ((madeCells #[.bool false] m).setIfInBounds k (.bool true)) 4)).alloc (.cells #[.slice (some ⟨wr.heap.size, 0, none⟩) m m] 62)).frozen? ⟨b, j, none⟩ :=
    fun b j hb hne => hgrow.frozen_far ⟨b, j, none⟩ (by simpa using hb) (Ne.symm hne)
  have old : ∀ b j, b < wr.heap.size → (Value.slice pt k cp).ownBlock ≠ some b → w1.cell? ⟨b, j, none⟩ = wr.cell? ⟨b, j, none⟩ ∧ w1.frozen? ⟨b, j, none⟩ = wr.frozen? ⟨b, j, none⟩ := fun b j hb hne => by
    rw [far b j (by omega) hne, farF b j (by omega) hne, World.cell?_alloc_past _ _ _ (by simp; omega), World.cell?_alloc_past _ _ _ hb, World.frozen?_alloc_past _ _ _ (by simp; omega), World.frozen?_alloc_past _ _ _ hb]; exact ⟨rfl, rfl⟩
  have hSo : (Value.slice pt k cp).ownBlock ≠ some S := fun e => by have := (lt S e).1; omega
  have hHo : (Value.slice pt k cp).ownBlock ≠ some wr.heap.size := fun e => by have := (lt _ e).2; omega
  have setO : ∀ b j, b ≠ S → (w1.setCell ⟨S, 1, none⟩ (.slice (some ⟨g, 0, none⟩) (k + 1) cap1)).cell? ⟨b, j, none⟩ = w1.cell? ⟨b, j, none⟩ := fun b j hb => World.cell?_setCell_other _ _ _ _ (by simp only [ne_eq, Addr.mk.injEq]; omega)
  refine ⟨(old S 1 sz hSo).2.trans st.f1, ⟨_, (old S 1 sz hSo).1.trans st.c1⟩, ?_⟩
  refine ⟨?_, ?_, ?_, ?_, fun a ha => ?_, fun a b ha hb => ?_, fun a b ha hb e => ?_, ?_, st.hS, ?_⟩
  · rw [World.cell?_setCell_other _ _ _ _ (by simp)]; exact (old S 0 sz hSo).1.trans st.c0
  · exact World.cell?_setCell_same _ _ _ ((old S 1 sz hSo).1.trans st.c1)
  · rw [World.frozen?_setCell]; exact (old S 1 sz hSo).2.trans st.f1
  · refine ownsRow_setCell_below ?_ (by simp) _
    rw [rowVals_succ, rowVals_congr (r' := r) (fun a ha => by simp [show a ≠ k by omega])]
    simpa using hown
  · by_cases e : a = k
    · subst e
      refine ⟨by simpa using sz, by simp [World.setCell]; omega, ?_⟩
      simp only [Value.ownBlock, if_true, ne_eq, Option.some.injEq]
      rcases hat with h | h
      · have := (lt g h).2; omega
      · omega
    · have q := st.at_ a (by omega)
      simp only [e, if_false]
      refine ⟨q.1, by simp [World.setCell]; omega, ?_⟩
      simp only [Value.ownBlock, ne_eq, Option.some.injEq]
      rcases hat with h | h
      · intro e2; rw [e2] at h; exact q.2.2 h
      · omega
  · by_cases e : a = k
    · subst e
      simp only [if_true]
      rw [setO _ _ (by omega), World.frozen?_setCell, far _ _ (by omega) hHo, farF _ _ (by omega) hHo, World.cell?_alloc_past _ _ _ (by simp), World.frozen?_alloc_past _ _ _ (by simp), World.cell?_alloc_at _ _ _ _ rfl, World.frozen?_alloc_at _ _ _ _ rfl, made_set _ _ _ hb]
      exact ⟨rfl, rfl⟩
    · have q := st.at_ a (by omega)
      simp only [e, if_false]
      rw [setO _ _ (by omega), World.frozen?_setCell, (old _ _ q.2.1 q.2.2).1, (old _ _ q.2.1 q.2.2).2]
      exact st.row a b (by omega) hb
  · by_cases ea : a = k <;> by_cases eb : b = k
    · omega
    · simp only [ea, eb, if_true, if_false] at e
      have := (st.at_ b (by omega)).2.1
      omega
    · simp only [ea, eb, if_true, if_false] at e
      have := (st.at_ a (by omega)).2.1
      omega
    · simp only [ea, eb, if_false] at e
      exact st.inj a b (by omega) (by omega) e
  · refine Below.setCell ?_ (by simp) _
    refine ((st.bel.alloc (by omega) _).alloc (by simp; omega) _).grown hgrow (by simp; omega) fun j hj => ?_
    have := (lt j hj).1; omega
  · simp [World.setCell]; omega

/-- an order of package secretsref at block q: its rows' values at block h, row a at block r a. -/
structure ROrd (w : World) (q h n cp : Nat) (pt : Option Addr) (r : Nat → Nat) (R : Nat → Nat → Bool) : Prop where
  hn : n ≤ 6
  c0 : w.cell? ⟨q, 0, none⟩ = some (.int .i64 n)
  c1 : w.cell? ⟨q, 1, none⟩ = some (.slice pt n cp)
  hpt : 0 < n → pt = some ⟨h, 0, none⟩
  rows : ∀ a, a < n → w.cell? ⟨h, a, none⟩ = some (.slice (some ⟨r a, 0, none⟩) n n)
  cell : ∀ a b, a < n → b < n → w.cell? ⟨r a, b, none⟩ = some (.bool (R a b))

theorem ROrd.below {w w' : World} {q h n cp : Nat} {pt : Option Addr} {r : Nat → Nat} {R : Nat → Nat → Bool} (o : ROrd w q h n cp pt r R) (k : New w w') : ROrd w' q h n cp pt r R := by
  have f : ∀ {a : Addr} {v : Value}, w.cell? a = some v → w'.cell? a = some v := fun hc => (k.cell (World.block_lt_of_cell? w _ hc)).trans hc
  exact ⟨o.hn, f o.c0, f o.c1, o.hpt, fun a ha => f (o.rows a ha), fun a b ha hb => f (o.cell a b ha hb)⟩

/-- while it runs: what may be written, and that nothing else is. -/
structure RefB (w wr : World) (S n h cp : Nat) (pt : Option Addr) (r : Nat → Nat) (R : Nat → Nat → Bool) : Prop where
  ord : ROrd wr S h n cp pt r R
  fr : ∀ a b, a < n → b < n → wr.frozen? ⟨r a, b, none⟩ = false
  at_ : ∀ a, a < n → S < r a ∧ r a ≠ h
  inj : ∀ a b, a < n → b < n → r a = r b → a = b
  bel : Below S w wr
  hS : w.heap.size = S

theorem RefB.set {w wr : World} {S n h cp : Nat} {pt : Option Addr} {r : Nat → Nat} {R : Nat → Nat → Bool} (st : RefB w wr S n h cp pt r R) (a b : Nat) (ha : a < n) (hb : b < n) :
    RefB w (wr.setCell ⟨r a, b, none⟩ (.bool true)) S n h cp pt r (Sec.setR R a b) := by
  have q := st.at_ a ha
  have hS := st.hS
  refine ⟨⟨st.ord.hn, ?_, ?_, st.ord.hpt, fun x hx => ?_, fun x y hx hy => ?_⟩, fun x y hx hy => (World.frozen?_setCell _ _ _ _).trans (st.fr x y hx hy), st.at_, st.inj, st.bel.setCell (by simp; omega) _, st.hS⟩
  · exact (World.cell?_setCell_other _ _ _ _ (by simp only [ne_eq, Addr.mk.injEq]; omega)).trans st.ord.c0
  · exact (World.cell?_setCell_other _ _ _ _ (by simp only [ne_eq, Addr.mk.injEq]; omega)).trans st.ord.c1
  · exact (World.cell?_setCell_other _ _ _ _ (by simp only [ne_eq, Addr.mk.injEq]; omega)).trans (st.ord.rows x hx)
  · unfold Sec.setR
    by_cases e : x = a ∧ y = b
    · obtain ⟨rfl, rfl⟩ := e
      rw [if_pos ⟨rfl, rfl⟩]
      exact World.cell?_setCell_same _ _ _ (st.ord.cell x y hx hy)
    · rw [if_neg e]
      refine (World.cell?_setCell_other _ _ _ _ ?_).trans (st.ord.cell x y hx hy)
      simp only [ne_eq, Addr.mk.injEq, and_true, not_and]
      intro e1 e2
      have := st.inj a x ha hx e1
      omega

theorem RefB.congr {w wr : World} {S n h cp : Nat} {pt : Option Addr} {r : Nat → Nat} {R R' : Nat → Nat → Bool} (st : RefB w wr S n h cp pt r R) (e : ∀ a b, a < n → b < n → R a b = R' a b) : RefB w wr S n h cp pt r R' :=
  ⟨⟨st.ord.hn, st.ord.c0, st.ord.c1, st.ord.hpt, st.ord.rows, fun a b ha hb => by rw [← e a b ha hb]; exact st.ord.cell a b ha hb⟩, st.fr, st.at_, st.inj, st.bel, st.hS⟩

theorem RefA.done {w wr : World} {S m cp : Nat} {pt : Option Addr} {r : Nat → Nat} (st : RefA w wr S m m cp pt r) (hm : m ≤ 6) : ∃ h, RefB w wr S m h cp pt r (fun a b => decide (a = b)) := by
  obtain ⟨h1, h2⟩ := st.own
  have key : ∃ h, (0 < m → pt = some ⟨h, 0, none⟩) ∧ (∀ a, a < m → wr.cell? ⟨h, a, none⟩ = some (.slice (some ⟨r a, 0, none⟩) m m)) ∧ ∀ a, a < m → r a ≠ h := by
    rcases h2 with ⟨_, h3⟩ | ⟨g, c, cur, h3, _, h4, h5, h6, h7, h8⟩
    · exact ⟨0, fun _ => by omega, fun a ha => by omega, fun a ha => by omega⟩
    · simp at h3
      obtain ⟨rfl, rfl⟩ := h3
      refine ⟨g, fun _ => rfl, fun a ha => ?_, fun a ha e => (st.at_ a ha).2.2 (by simp [Value.ownBlock, e])⟩
      have q : (rowVals r m m)[a]? = some (.slice (some ⟨r a, 0, none⟩) m m) := by simp [rowVals, ha]
      rw [← h8, Nat.mul_one, List.getElem?_take_of_lt ha] at q
      rw [cell_of_row wr g a cur _ (0, 0) h4]
      simpa using q
  obtain ⟨h, k1, k2, k3⟩ := key
  exact ⟨h, ⟨hm, st.c0, st.c1, k1, k2, fun a b ha hb => (st.row a b ha hb).1⟩, fun a b ha hb => (st.row a b ha hb).2, fun a ha => ⟨(st.at_ a ha).1, k3 a ha⟩, st.inj, st.bel, st.hS⟩

/-- what secretsref.NewOrder leaves. -/
def RefPost (n : Nat) (l : List (Int × Int)) (w : World) (e : Ending) (w' : World) : Prop :=
  ∃ q h cp pt r R, e = .returned (.pointer (some ⟨q, 0, none⟩)) ∧ ROrd w' q h n cp pt r R ∧ Sec.Closed n (Sec.baseOf n l) R ∧ New w w'

set_option maxHeartbeats 1000000 in
set_option maxRecDepth 100000 in
theorem refNew_any (n : Int) (w : World) (a : Option Addr) (len cap : Nat) (zs : List Int) (hz : IsRow .i64 w a len cap zs) (hlen : len ≤ 1048576) :
    Calls Try.prog 11 #[.int .i64 n, .slice a len cap] w (RefPost (clamp n) (Sec.pairsOf (zs.take len)) w) := by
  obtain ⟨i0, hi, hz0, hz1, hz2⟩ := info_parts info_bools
  obtain ⟨m, hm⟩ : ∃ m, clamp n = m := ⟨_, rfl⟩
  have hm6 : m ≤ 6 := by rw [← hm]; exact clamp_le n
  have HM := Lib.hid hm
  rw [hm]
  clear hm
  obtain ⟨l, hl⟩ : ∃ l, Sec.pairsOf (zs.take len) = l := ⟨_, rfl⟩
  rw [hl]
  have HL := Lib.hid hl
  clear hl
  have hmk := run_make_row' (P := Try.prog) 62 4 (.bool false) 1 Try.underlying62 info_bool rfl .i64 .i64 m (by omega) (by omega)
  go_enter Try.func11, Try.ntmps11
  go_upto_if 16 with (fail)
  go_cut [0] from 15 to 16 (fun v wx => ∃ m1 : Int, v = .int .i64 m1 ∧ Hid (m1 = max n 0) ∧ 0 ≤ m1 ∧ w = wx)
  case first =>
    go_wp2_with fail
    all_goals go_meet
    · exact ⟨0, rfl, (show (0 : Int) = max n 0 by omega), by omega, rfl⟩
    · exact ⟨n, rfl, (show n = max n 0 by omega), by omega, rfl⟩
  case rest =>
  obtain ⟨m1, rfl, hm1, hm0, rfl⟩ := hcut
  go_upto_if 18 with (fail)
  go_cut [0] from 17 to 18 (fun v wx => v = .int .i64 m ∧ w = wx)
  case first =>
    go_wp2_with fail
    all_goals go_meet
    · exact ⟨by have := HM.out; have := hm1.out; unfold clamp at *; congr 1; omega, rfl⟩
    · exact ⟨by have := HM.out; have := hm1.out; unfold clamp at *; congr 1; omega, rfl⟩
  case rest =>
  clear hm1 hm0
  obtain ⟨rfl, rfl⟩ := hcut
  go_wp2_with fail
  go_loopw [6] (fun c wr => ∃ k cp : Nat, ∃ pt r, k ≤ m ∧ c = .int .i64 k ∧ RefA w wr w.heap.size m k cp pt r) (fun c _ => m - (intOf c).toNat)
  case atStart =>
    refine ⟨0, 0, none, fun _ => 0, Nat.zero_le _, rfl, ⟨?_, ?_, ?_, World.ownsRow_nil _ _ _ _, fun a ha => by omega, fun a b ha _ => by omega, fun a b ha _ _ => by omega, ?_, rfl, ?_⟩⟩
    · rw [World.cell?_alloc_at _ _ _ _ rfl]; rfl
    · rw [World.cell?_alloc_at _ _ _ _ rfl]; rfl
    · rw [World.frozen?_alloc_at _ _ _ _ rfl]
    · exact (Below.refl _ _).alloc (Nat.le_refl _) _
    · simp
  case round =>
    obtain ⟨k, cp, pt, r, hk, rfl, st⟩ := hrel
    by_cases hlt : k < m
    · have c1 := st.c1
      have f1 := st.f1
      have sz := st.sz
      have own := Lib.hid st.own
      have hmc : (madeCells #[Value.bool false] m)[k]? = some (.bool false) := by rw [← Array.getElem?_toList, toList_madeCells_one]; simp [hlt]
      go_wp2_with (first
        | (at_builtin; go_must (refine wpList_append_lies _ rfl _ _ _ rfl (w.heap.size + 1) 62 i0 (.slice none 0 0) 1 24 Try.underlying33 hi hz0 hz1 hz2 rfl (by omega) (.slice pt k cp) k (rowVals r m k) rfl ((own.out.alloc _).alloc _) ⟨wr.heap.size + 1, 0, none⟩ 1 1 [.slice (some ⟨wr.heap.size, 0, none⟩) m m] rfl rfl (World.news_of_block (cs := #[.slice (some ⟨wr.heap.size, 0, none⟩) m m]) (t := 62) (fr := (0, 0)) (heap_new' _ _ _ (by simp))) (by simp [Value.oneCell']) (by omega) (by unfold maxLen; omega) (by omega) (by simp; omega) (wr.heap.size + 2) (by simp) ?_); intro g cap1 w1 hown1 hgrow hat _; obtain ⟨q1, ⟨v1, q2⟩, q3⟩ := st.step hown1 hgrow hat; clear hown1 hgrow hat c1 f1 st))
      go_roundw
      case rel => exact ⟨k + 1, cap1, _, _, by omega, by go_num, q3⟩
      case measure => simp [intOf]; omega
    · have hkm : k = m := by omega
      subst hkm
      obtain ⟨h, sb⟩ := st.done hm6
      clear st
      go_wp2_with fail
      go_loopw [8] (fun c wr => ∃ i j : Nat, Hid (j = i * 2) ∧ j ≤ len ∧ c = .int .i64 j ∧ RefB w wr w.heap.size k h cp pt r (Sec.baseOf k (l.take i))) (fun c _ => len - (intOf c).toNat)
      case atStart => exact ⟨0, 0, rfl, Nat.zero_le _, rfl, sb.congr fun a b _ _ => by simp [Sec.baseOf_nil]⟩
      case round =>
        clear sb
        obtain ⟨i, j, hj, hjl, rfl, st⟩ := hrel
        have hlz := hz.len_le
        by_cases hlt : j + 1 < len
        · have F : i < l.length ∧ l.getD i (0, 0) = (zs.getD j 0, zs.getD (j + 1) 0) := by
            have hji := hj.out
            have hll : (zs.take len).length = len := by rw [List.length_take]; omega
            have hl2 := Sec.pairsOf_len len (zs.take len) (by omega)
            have hg2 := Sec.pairsOf_get len (zs.take len) i (by omega) (by omega)
            rw [HL.out, hll] at hl2
            rw [HL.out] at hg2
            refine ⟨by omega, ?_⟩
            rw [hg2, hji]
            simp [List.getD, show i * 2 < len by omega, show i * 2 + 1 < len by omega]
          obtain ⟨b, off, rfl, hb, hc⟩ := hz.get (by omega)
          have ha1 : wr.cell? ⟨b, off + j, none⟩ = _ := (st.bel.cell (p := ⟨b, off + j, none⟩) hb).trans (hc j (by omega))
          have ha2 : wr.cell? ⟨b, off + (j + 1), none⟩ = _ := (st.bel.cell (p := ⟨b, off + (j + 1), none⟩) hb).trans (hc (j + 1) (by omega))
          have hj2 : Hid (j + 2 = (i + 1) * 2) := by have := hj.out; show j + 2 = _; omega
          obtain ⟨x, hx⟩ : ∃ x, zs.getD j 0 = x := ⟨_, rfl⟩
          obtain ⟨y, hy⟩ : ∃ y, zs.getD (j + 1) 0 = y := ⟨_, rfl⟩
          rw [hx] at ha1
          rw [hy] at ha2
          rw [hx, hy] at F
          have FF := Lib.hid F
          clear hx hy hc F hlz
          by_cases hv : (0 ≤ x ∧ x < k) ∧ (0 ≤ y ∧ y < k)
          · obtain ⟨⟨hx0, hx1⟩, hy0, hy1⟩ := hv
            obtain ⟨X, rfl⟩ := Int.eq_ofNat_of_zero_le hx0
            obtain ⟨Y, rfl⟩ := Int.eq_ofNat_of_zero_le hy0
            have hX : X < k := by omega
            have hY : Y < k := by omega
            have c1 := st.ord.c1
            rw [st.ord.hpt (by omega)] at c1
            have rr := st.ord.rows X hX
            have cc := st.ord.cell X Y hX hY
            have ff := st.fr X Y hX hY
            go_wp2
            go_roundw
            case rel =>
              exact ⟨i + 1, j + 2, hj2, by omega, by go_num, (st.set X Y hX hY).congr fun a b ha hb => Sec.baseOf_set FF.out.1 hX hY FF.out.2 a b ha hb⟩
            case measure => simp [intOf]; omega
          · have NP := Lib.hid (fun a b => Sec.baseOf_same FF.out.1 hv FF.out.2 a b)
            go_wp2
            all_goals
              go_roundw
              case rel => exact ⟨i + 1, j + 2, hj2, by omega, by go_num, st.congr fun a b _ _ => NP.out a b⟩
              case measure => simp [intOf]; omega
        · have hil : l.take i = l := by
            have hji := hj.out
            have hl2 := Sec.pairsOf_len len (zs.take len) (by rw [List.length_take]; omega)
            rw [HL.out, List.length_take] at hl2
            exact List.take_of_length_le (by omega)
          rw [hil] at st
          clear hil hj hlz
          go_wp2_with fail
          go_loopg [11] (Sec.gaps k (Sec.baseOf k l) * 2 + 1) (fun gk ag wr => ∃ R agb, ag = .bool agb ∧ RefB w wr w.heap.size k h cp pt r R ∧ (∀ x y, x < k → y < k → Sec.baseOf k l x y = true → R x y = true) ∧ (∀ x y, x < k → y < k → R x y = true → Sec.Tr (fun x y => decide (x < k) && decide (y < k) && Sec.baseOf k l x y) x y) ∧ (agb = false → Sec.Closed k (Sec.baseOf k l) R) ∧ Sec.gaps k R * 2 + (if agb then 1 else 0) ≤ gk)
          case atStart => exact ⟨_, true, rfl, st, fun _ _ _ _ e => e, fun x y hx hy e => .base (by simp [hx, hy, e]), fun e => (by cases e), by simp⟩
          case round =>
            clear st
            obtain ⟨R0, agb, rfl, st, hB, hT, hC, hg⟩ := hrel
            have HB := Lib.hid hB
            have HT := Lib.hid hT
            have HC := Lib.hid hC
            have HG := Lib.hid hg
            clear hB hT hC hg
            cases agb with
            | false =>
              have fin : RefPost k l w (.returned (.pointer (some ⟨w.heap.size, 0, none⟩))) wr := ⟨_, _, _, _, _, R0, rfl, st.ord, HC.out rfl, st.bel⟩
              have FIN := Lib.hid fin
              clear fin
              go_wp2
              go_ret
              exact FIN.out
            | true =>
              go_wp2_with fail
              obtain ⟨wo, rfl⟩ : ∃ wo : World, wo = wr := ⟨_, rfl⟩
              go_loopw [11, 12] (fun ag c wr => ∃ a R agb, a ≤ k ∧ c = .int .i64 (a : Nat) ∧ ag = .bool agb ∧ RefB w wr w.heap.size k h cp pt r R ∧ Sec.Pass k (Sec.baseOf k l) R0 R agb a 0 0) (fun _ c _ => k - (intOf c).toNat)
              case atStart => exact ⟨0, R0, false, Nat.zero_le _, rfl, rfl, st, Sec.Pass.start HB.out HT.out⟩
              case round =>
                clear st
                obtain ⟨a, R, agb, ha, rfl, rfl, st, ps⟩ := hrel
                by_cases hak : a < k
                · go_wp2_with fail
                  obtain ⟨wo2, rfl⟩ : ∃ wo2 : World, wo2 = wr := ⟨_, rfl⟩
                  go_loopw [11, 13] (fun ag c wr => ∃ b R agb, b ≤ k ∧ c = .int .i64 (b : Nat) ∧ ag = .bool agb ∧ RefB w wr w.heap.size k h cp pt r R ∧ Sec.Pass k (Sec.baseOf k l) R0 R agb a b 0) (fun _ c _ => k - (intOf c).toNat)
                  case atStart => exact ⟨0, R, agb, Nat.zero_le _, rfl, rfl, st, ps⟩
                  case round =>
                    clear st ps
                    obtain ⟨b, R, agb, hb, rfl, rfl, st, ps⟩ := hrel
                    by_cases hbk : b < k
                    · go_wp2_with fail
                      obtain ⟨wo3, rfl⟩ : ∃ wo3 : World, wo3 = wr := ⟨_, rfl⟩
                      go_loopw [11, 14] (fun ag c wr => ∃ d R agb, d ≤ k ∧ c = .int .i64 (d : Nat) ∧ ag = .bool agb ∧ RefB w wr w.heap.size k h cp pt r R ∧ Sec.Pass k (Sec.baseOf k l) R0 R agb a b d) (fun _ c _ => k - (intOf c).toNat)
                      case atStart => exact ⟨0, R, agb, Nat.zero_le _, rfl, rfl, st, ps⟩
                      case round =>
                        clear st ps
                        obtain ⟨d, R, agb, hd, rfl, rfl, st, ps⟩ := hrel
                        by_cases hdk : d < k
                        · have c1 := st.ord.c1
                          rw [st.ord.hpt (by omega)] at c1
                          have ra := st.ord.rows a hak
                          have rb := st.ord.rows b hbk
                          have cab := st.ord.cell a b hak hbk
                          have cbd := st.ord.cell b d hbk hdk
                          have cad := st.ord.cell a d hak hdk
                          have ff := st.fr a d hak hdk
                          obtain ⟨p1, e1⟩ : ∃ p, R a b = p := ⟨_, rfl⟩
                          obtain ⟨p2, e2⟩ : ∃ p, R b d = p := ⟨_, rfl⟩
                          obtain ⟨p3, e3⟩ : ∃ p, R a d = p := ⟨_, rfl⟩
                          rw [e1] at cab
                          rw [e2] at cbd
                          rw [e3] at cad
                          have E := Lib.hid (And.intro e1 (And.intro e2 e3))
                          clear e1 e2 e3
                          by_cases hh : (p1 && p2 && !p3) = true
                          · have P := Lib.hid (ps.hit hak hbk hdk (by rw [E.out.1, E.out.2.1, E.out.2.2]; exact hh))
                            simp only [Bool.and_eq_true, Bool.not_eq_true'] at hh
                            obtain ⟨⟨rfl, rfl⟩, rfl⟩ := hh
                            go_wp2
                            go_roundw
                            case rel => exact ⟨d + 1, _, true, by omega, by go_num, rfl, st.set a d hak hdk, P.out⟩
                            case measure => simp [intOf]; omega
                          · have P := Lib.hid (ps.skip (by rw [E.out.1, E.out.2.1, E.out.2.2]; simpa using hh))
                            cases p1 <;> cases p2 <;> cases p3 <;> simp at hh
                            all_goals
                              go_wp2
                              go_roundw
                              case rel => exact ⟨d + 1, _, agb, by omega, by go_num, rfl, st, P.out⟩
                              case measure => simp [intOf]; omega
                        · have hdk2 : d = k := by omega
                          subst hdk2
                          go_wp2_with fail
                          go_roundw
                          case rel => exact ⟨b + 1, R, agb, by omega, by go_num, rfl, st, ps.nextB⟩
                          case measure => simp [intOf]; omega
                    · have hbk2 : b = k := by omega
                      subst hbk2
                      go_wp2_with fail
                      go_roundw
                      case rel => exact ⟨a + 1, R, agb, by omega, by go_num, rfl, st, ps.nextA⟩
                      case measure => simp [intOf]; omega
                · have hak2 : a = k := by omega
                  subst hak2
                  go_wp2_with fail
                  have K : Hid (Sec.gaps a R * 2 + (if agb then 1 else 0) < gk) := by
                    have h1 := HG.out
                    show _ < _
                    cases agb with
                    | true => have := ps.yes rfl; simp at h1 ⊢; omega
                    | false => have := (ps.no rfl).1; simp at h1 ⊢; omega
                  go_roundg (Sec.gaps a R * 2 + (if agb then 1 else 0))
                  case measure => exact K.out
                  case rel => exact ⟨R, agb, rfl, st, ps.up, ps.least, fun e => by subst e; exact ps.closed, Nat.le_refl _⟩
end Go.Proofs.Ytffmpkgggmoadaa
