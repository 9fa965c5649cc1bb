/-
  Proved: secretslaw.policies. Conditions: the slice of ints reads as a row of at most 2^20.
-/
import Derived.Test.YtffmpkgggmoadaaRFlows
namespace Go.Proofs.Ytffmpkgggmoadaa
open Go.ChangeShapes Go.WideShapes Go.ChangeAt Go.RowKit Go.Deep

/-- while policies runs: two rows of the same pairs. -/
structure Pol2 (w wr : World) (i ca cb : Nat) (pa pb : Option Addr) (l : List (Int × Int)) : Prop where
  oa : wr.ownsRow w.heap.size 64 2 (.slice pa i ca) i (flat l)
  ob : wr.ownsRow w.heap.size 65 2 (.slice pb i cb) i (flat l)
  ne : ∀ g, (Value.slice pa i ca).ownBlock = some g → (Value.slice pb i cb).ownBlock ≠ some g
  nw : New w wr

/-- what policies leaves. -/
def PolPost (m : Nat) (l : List (Int × Int)) (w : World) (e : Ending) (w' : World) : Prop :=
  ∃ pa ca pb cb, e = .returned (.tuple #[.slice pa m ca, .slice pb m cb]) ∧ PairRow w' pa m l ∧ PairRow w' pb m l ∧ New w w'

/-- the i-th pair of a list of ints, and the list one longer. -/
theorem pairs_step {zs : List Int} {len i k : Nat} {l : List (Int × Int)} (hl : Sec.pairsOf (zs.take len) = l) (hlz : len ≤ zs.length) (hk : k = i * 2) (hlt : k + 1 < len) :
    flat (l.take (i + 1)) = flat (l.take i) ++ [.int .i64 (zs.getD k 0), .int .i64 (zs.getD (k + 1) 0)] := by
  subst hk
  have hll : (zs.take len).length = len := by rw [List.length_take]; omega
  have hl2 := Sec.pairsOf_len len (zs.take len) (by omega)
  have hg2 := Sec.pairsOf_get len (zs.take len) i (by omega) (by omega)
  rw [hl, hll] at hl2
  rw [hl] at hg2
  rw [Sec.take_snoc l i (0, 0) (by omega), flat_snoc, hg2]
  have t1 : (zs.take len).getD (i * 2) 0 = zs.getD (i * 2) 0 := by simp [List.getD, show i * 2 < len by omega]
  have t2 : (zs.take len).getD (i * 2 + 1) 0 = zs.getD (i * 2 + 1) 0 := by simp [List.getD, show i * 2 + 1 < len by omega]
  rw [t1, t2]

theorem pairs_len {zs : List Int} {len : Nat} {l : List (Int × Int)} (hl : Sec.pairsOf (zs.take len) = l) (hlz : len ≤ zs.length) : l.length = len / 2 := by
  have := Sec.pairsOf_len len (zs.take len) (by rw [List.length_take]; omega)
  rw [hl, List.length_take] at this
  omega

set_option maxHeartbeats 4000000 in
set_option maxRecDepth 100000 in
theorem policies_any (w : World) (a : Option Addr) (len cap : Nat) (zs : List Int) (hz : IsRow .i64 w a len cap zs) (hlen : len ≤ 1048576) :
    Calls Try.prog 15 #[.slice a len cap] w (PolPost (len / 2) (Sec.pairsOf (zs.take len)) w) := by
  obtain ⟨i0, hi, hz0, hz1, hz2⟩ := info_parts info_pol
  obtain ⟨j0, hj, hy0, hy1, hy2⟩ := info_parts info_rpol
  obtain ⟨l, hl⟩ : ∃ l, Sec.pairsOf (zs.take len) = l := ⟨_, rfl⟩
  have hlz := hz.len_le
  have HLL := Lib.hid (pairs_len hl hlz)
  have HL := Lib.hid hl
  rw [hl]
  clear hl
  go_enter Try.func15, Try.ntmps15
  go_wp2_with fail
  go_loopw [4, 5, 6] (fun va vb c wr => ∃ i k ca cb : Nat, ∃ pa pb, Hid (k = i * 2) ∧ k ≤ len ∧ c = .int .i64 k ∧ va = .slice pa i ca ∧ vb = .slice pb i cb ∧ Pol2 w wr i ca cb pa pb (l.take i)) (fun _ _ c _ => len - (intOf c).toNat)
  case atStart => exact ⟨0, 0, 0, 0, none, none, rfl, Nat.zero_le _, rfl, rfl, rfl, ⟨World.ownsRow_nil _ _ _ _, World.ownsRow_nil _ _ _ _, (fun g e => by cases e), Below.refl _ _⟩⟩
  case round =>
    obtain ⟨i, k, ca, cb, pa, pb, hk, hkl, rfl, rfl, rfl, st⟩ := hrel
    by_cases hlt : k + 1 < len
    · obtain ⟨b, off, rfl, hb, hc⟩ := hz.get (by omega)
      have hnew := st.nw
      have hown := st.oa
      have hown2 := st.ob
      have hb' : b < wr.heap.size := Nat.lt_of_lt_of_le hb hnew.size
      have ha1 : wr.cell? ⟨b, off + k, none⟩ = _ := (hnew.cell (p := ⟨b, off + k, none⟩) hb).trans (hc k (by omega))
      have ha2 : wr.cell? ⟨b, off + (k + 1), none⟩ = _ := (hnew.cell (p := ⟨b, off + (k + 1), none⟩) hb).trans (hc (k + 1) (by omega))
      have e1 := Lib.hid (pairs_step HL.out hlz hk.out hlt)
      obtain ⟨x, hx⟩ : ∃ x, zs.getD k 0 = x := ⟨_, rfl⟩
      obtain ⟨y, hy⟩ : ∃ y, zs.getD (k + 1) 0 = y := ⟨_, rfl⟩
      rw [hx] at ha1 e1
      rw [hy] at ha2 e1
      clear hx hy hc
      have hbo : some b ≠ (Value.slice pa i ca).ownBlock := fun e => by have := (hown.lt b e.symm).1; omega
      have hbo2 : some b ≠ (Value.slice pb i cb).ownBlock := fun e => by have := (hown2.lt b e.symm).1; omega
      have HN := Lib.hid hnew
      have HNE := Lib.hid st.ne
      have HO2 := Lib.hid hown2
      clear hnew st hown2
      have hib : i < 1048576 := by have := hk.out; omega
      have q1 : (0 : Int) ≤ (k : Int) := by omega
      have q2 : (k : Int) < (len : Int) := by omega
      have q3 : (0 : Int) ≤ (k : Int) + 1 := by omega
      have q4 : (k : Int) + 1 < (len : Int) := by omega
      have q5 : IntKind.i64.wrap ((k : Int) + 1) = (k : Int) + 1 := IntWalk.i64_in _ (by omega)
      have q6 : ((k : Int) + 1).toNat = k + 1 := by omega
      go_wp2_with fail
      go_region_held3 (fun w' => w'.cell? ⟨b, off + k, none⟩ = some (.int .i64 x) ∧ w'.cell? ⟨b, off + (k + 1), none⟩ = some (.int .i64 y))
        (first
          | go_keep
          | (go_split_ands
             refine ⟨?_, ?_⟩
             · (rw [hgrow.cell_far _ (by simp; omega) hbo]; assumption)
             · (rw [hgrow.cell_far _ (by simp; omega) hbo]; assumption)))
        ((refine step_append_lies _ (by rfl) _ _ _ (by rfl) w.heap.size 64 i0 _ 2 16 Try.underlying37 hi hz0 hz1 hz2 rfl (by omega) (.slice pa i ca) i (flat (l.take i)) (by rfl) ((hown.alloc _).drew) ⟨wr.heap.size, 0, none⟩ 1 1 [.int .i64 x, .int .i64 y] (by rfl) (by rfl) (World.news_of_block (cs := #[.int .i64 x, .int .i64 y]) (t := 64) (fr := (0, 0)) (heap_alloc_new wr _)) (by simp [Value.oneCell']) (by omega) (by unfold maxLen; omega) (by omega) (by have := HN.out.size; simp; omega) (wr.heap.size + 1) (by simp) ?_; intro gg cap1 w1 hown1 hgrow hat hltg))
      have hw1 : New w w1 := Below.grown (Below.drew (HN.out.trans (New.alloc wr _))) hgrow (by have := HN.out.size; simp; omega) (fun j hj => (hown.lt j hj).1)
      have hsz : wr.heap.size + 1 ≤ w1.heap.size := by have := hgrow.size; simpa using this
      have b1 : w1.cell? ⟨b, off + k, none⟩ = some (.int .i64 x) := by rw [hgrow.cell_far _ (by simp; omega) hbo]; simpa using (World.cell?_alloc_past _ _ _ hb').trans ha1
      have b2 : w1.cell? ⟨b, off + (k + 1), none⟩ = some (.int .i64 y) := by rw [hgrow.cell_far _ (by simp; omega) hbo]; simpa using (World.cell?_alloc_past _ _ _ hb').trans ha2
      have hb1 : b < w1.heap.size := by omega
      have hown2 : w1.ownsRow w.heap.size 65 2 (.slice pb i cb) i (flat (l.take i)) := by
        refine ((HO2.out.alloc _).drew).kept hgrow ?_
        by_cases hn : (Value.slice pb i cb).ownBlock = none
        · exact .inl hn
        · right
          intro he
          cases hq : (Value.slice pa i ca).ownBlock with
          | none => rw [hq] at he; exact hn he
          | some g => rw [hq] at he; exact HNE.out g hq he
      have NE2 : Hid (∀ g, (Value.slice (some ⟨gg, 0, none⟩) (i + 1) cap1).ownBlock = some g → (Value.slice pb i cb).ownBlock ≠ some g) := fun g hg he => by
        have e : gg = g := by simpa [Value.ownBlock] using hg
        subst e
        rcases hat with h | h
        · exact HNE.out gg h he
        · have := (HO2.out.lt gg he).2; omega
      have HW1 := Lib.hid hw1
      have HOA := Lib.hid hown1
      clear hgrow hat hown hown1 ha1 ha2 HN hw1 hb'
      go_wp2_with fail
      go_region_held3 (fun w' => w'.cell? ⟨b, off + k, none⟩ = some (.int .i64 x) ∧ w'.cell? ⟨b, off + (k + 1), none⟩ = some (.int .i64 y))
        (first
          | go_keep
          | (go_split_ands
             refine ⟨?_, ?_⟩
             · (rw [hgrow.cell_far _ (by simp; omega) hbo2]; assumption)
             · (rw [hgrow.cell_far _ (by simp; omega) hbo2]; assumption)))
        ((refine step_append_lies _ (by rfl) _ _ _ (by rfl) w.heap.size 65 j0 _ 2 16 Try.underlying38 hj hy0 hy1 hy2 rfl (by omega) (.slice pb i cb) i (flat (l.take i)) (by rfl) ((hown2.alloc _).drew) ⟨w1.heap.size, 0, none⟩ 1 1 [.int .i64 x, .int .i64 y] (by rfl) (by rfl) (World.news_of_block (cs := #[.int .i64 x, .int .i64 y]) (t := 65) (fr := (0, 0)) (heap_alloc_new w1 _)) (by simp [Value.oneCell']) (by omega) (by unfold maxLen; omega) (by omega) (by have := HW1.out.size; simp; omega) (w1.heap.size + 1) (by simp) ?_; intro g2 cap2 w2 hownb hgrow hat hltg2))
      have hw2 : New w w2 := Below.grown (Below.drew (HW1.out.trans (New.alloc w1 _))) hgrow (by have := HW1.out.size; simp; omega) (fun j hj => (hown2.lt j hj).1)
      have hoa2 : w2.ownsRow w.heap.size 64 2 (.slice (some ⟨gg, 0, none⟩) (i + 1) cap1) (i + 1) (flat (l.take i) ++ [.int .i64 x, .int .i64 y]) := by
        refine ((HOA.out.alloc _).drew).kept hgrow (.inr fun he => ?_)
        exact NE2.out gg rfl he.symm
      have ne3 : ∀ g, (Value.slice (some ⟨gg, 0, none⟩) (i + 1) cap1).ownBlock = some g → (Value.slice (some ⟨g2, 0, none⟩) (i + 1) cap2).ownBlock ≠ some g := fun g hg he => by
        have e : gg = g := by simpa [Value.ownBlock] using hg
        have e3 : g2 = g := by simpa [Value.ownBlock] using he
        subst e
        rcases hat with h | h
        · rw [e3] at h; exact NE2.out gg rfl h
        · omega
      rw [← e1.out] at hoa2 hownb
      have ST : Hid (Pol2 w w2 (i + 1) cap1 cap2 (some ⟨gg, 0, none⟩) (some ⟨g2, 0, none⟩) (l.take (i + 1))) := ⟨hoa2, hownb, ne3, hw2⟩
      have hkn : Hid (k + 2 = (i + 1) * 2) := by have := hk.out; show k + 2 = _; omega
      clear hoa2 hownb ne3 hw2 hgrow hat hown2 HOA HW1 b1 b2
      go_wp2_with fail
      go_roundw
      case rel => exact ⟨i + 1, k + 2, cap1, cap2, _, _, hkn, by omega, by go_num, rfl, rfl, ST.out⟩
      case measure => simp [intOf]; omega
    · have hi2 : i = len / 2 := by have := hk.out; omega
      have el : l.take i = l := List.take_of_length_le (by have := HLL.out; omega)
      rw [el] at st
      have fin : PolPost (len / 2) l w (.returned (.tuple #[.slice pa i ca, .slice pb i cb])) wr := ⟨pa, ca, pb, cb, by rw [hi2], by rw [← hi2]; exact pairRow_of st.oa (by omega), by rw [← hi2]; exact pairRow_of st.ob (by omega), st.nw⟩
      have FIN := Lib.hid fin
      clear fin hi2 el hk st
      go_wp2_with fail
      go_ret2
      exact FIN.out
end Go.Proofs.Ytffmpkgggmoadaa
