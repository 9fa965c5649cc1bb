/-
  Proved: secretsref.Order.Under. Conditions: an order lies in memory; the policies are a row of at most 2^20.
-/
import Derived.Test.YtffmpkgggmoadaaRLabel
namespace Go.Proofs.Ytffmpkgggmoadaa
open Go.ChangeShapes Go.WideShapes Go.ChangeAt Go.RowKit Go.Deep

variable {w : World} {q h n cp : Nat} {pt : Option Addr} {r : Nat → Nat} {R : Nat → Nat → Bool}

theorem mask_succ (k : Nat) (f : Nat → Bool) : Sec.mask (k + 1) f = Sec.mask k f + (if f k then 2 ^ k else 0) := rfl

theorem mask_le (n : Nat) (hn : n ≤ 6) (f : Nat → Bool) : Sec.mask n f < 64 := Nat.lt_of_lt_of_le (Sec.mask_lt n f) (pow_le n hn)

set_option maxHeartbeats 2000000 in
set_option maxRecDepth 100000 in
theorem under_any (o : ROrd w q h n cp pt r R) (pl : Option Addr) (len cl : Nat) (l : List (Int × Int)) (hl : PairRow w pl len l) (a : Nat) (ha : a < n) :
    Calls Try.prog 37 #[.pointer (some ⟨q, 0, none⟩), .slice pl len cl, .int .i64 a] w fun e w' => e = .returned (.int .i64 (Sec.under R n l a : Nat)) ∧ New w w' := by
  have hn := o.hn
  have hlm := hl.hm
  have E : Hid (Sec.under R n l a = Sec.mask n (Sec.underP R n l a)) := rfl
  go_enter Try.func37, Try.ntmps37
  go_wp2_with fail
  go_loopw [7, 8] (fun s c wr => ∃ k : Nat, k ≤ n ∧ c = .int .i64 k ∧ s = .int .i64 (Sec.mask k (Sec.underP R n l a) : Nat) ∧ New w wr) (fun _ c _ => n - (intOf c).toNat)
  case atStart => exact ⟨0, Nat.zero_le _, rfl, rfl, Below.refl _ _⟩
  case round =>
    obtain ⟨k, hk, rfl, rfl, hnw⟩ := hrel
    have o2 := o.below hnw
    have c0 := o2.c0
    by_cases hlt : k < n
    · go_wp2_with fail
      obtain ⟨wo, hwo⟩ : ∃ wo : World, wo = wr := ⟨_, rfl⟩
      rw [← hwo] at hnw
      have HNW := Lib.hid hnw
      have LW : New wo wr := by rw [hwo]; exact Below.refl _ _
      clear hwo hnw o2 c0
      go_loopw [9, 10] (fun s c wr => ∃ i : Nat, i ≤ len ∧ c = .int .i64 i ∧ s = .bool (Sec.underP R n (l.take i) a k) ∧ New wo wr) (fun _ c _ => len - (intOf c).toNat)
      case atStart => exact ⟨0, Nat.zero_le _, rfl, rfl, LW⟩
      case round =>
        clear LW
        obtain ⟨i, hi, rfl, rfl, hnw⟩ := hrel
        have o2 := o.below (HNW.out.trans hnw)
        by_cases hil : i < len
        · obtain ⟨g', rfl, hg', hcs⟩ := hl.at_ (by omega)
          have bel := HNW.out.trans hnw
          have ha1 : wr.cell? ⟨g', i * 2, none⟩ = _ := (bel.cell (p := ⟨g', i * 2, none⟩) hg').trans (hcs i hil).1
          have ha2 : wr.cell? ⟨g', i * 2 + 1, none⟩ = _ := (bel.cell (p := ⟨g', i * 2 + 1, none⟩) hg').trans (hcs i hil).2
          have hsn := Sec.underP_snoc (R := R) (n := n) (l := l) (i := i) (by rw [hl.hl]; exact hil) a k
          obtain ⟨x, y, hxy⟩ : ∃ x y, l.getD i (0, 0) = (x, y) := ⟨_, _, rfl⟩
          rw [hxy] at ha1 ha2 hsn
          have HS := Lib.hid hsn
          have HB := Lib.hid bel
          have HNW2 := Lib.hid hnw
          clear hcs hxy hsn bel hnw
          simp only at ha1 ha2
          obtain ⟨t, ht⟩ : ∃ t, Sec.counts R n (x, y) a = t := ⟨_, rfl⟩
          have hov := (Sec.overB_counts (R := R) x y a ha).trans ht
          obtain ⟨p, hp⟩ : ∃ p, Sec.underP R n (l.take i) a k = p := ⟨_, rfl⟩
          rw [hp] at HS ⊢
          have C := Lib.hid (rover_any o2 x (a : Int))
          rw [hov] at C
          have HT := Lib.hid ht
          clear hov ht hp
          cases t with
          | false =>
            have EQ : Hid (Sec.underP R n (l.take (i + 1)) a k = p) := by show _ = _; rw [HS.out, HT.out]; simp
            go_wp2_with (go_at_call 14; refine C.out.mono ?_; rintro e w3 ⟨rfl, rfl⟩)
            go_roundw
            case rel => exact ⟨i + 1, by omega, by go_num, by rw [EQ.out], HNW2.out⟩
            case measure => simp [intOf]; omega
          | true =>
            have hv : 0 ≤ x ∧ x < n := by
              have := HT.out
              unfold Sec.counts at this
              simp only [Bool.and_eq_true, decide_eq_true_eq] at this
              exact this.1
            obtain ⟨hx0, hx1⟩ := hv
            obtain ⟨X, rfl⟩ := Int.eq_ofNat_of_zero_le hx0
            have EQ : Hid (Sec.underP R n (l.take (i + 1)) a k = (p && Sec.letsP R n ((X : Int), y) k)) := by show _ = _; rw [HS.out, HT.out]; simp
            cases p
            all_goals
              go_wp2_with (first
                | (go_at_call 14; refine C.out.mono ?_; rintro e w3 ⟨rfl, rfl⟩)
                | (go_at_call 45; refine (lets_any o2 X y k (by omega) hlt).mono ?_; rintro e w4 ⟨rfl, hn4⟩))
              go_roundw
              case rel => exact ⟨i + 1, by omega, by go_num, by rw [EQ.out]; rfl, HNW2.out.trans hn4⟩
              case measure => simp [intOf]; omega
        · have el : l.take i = l := List.take_of_length_le (by rw [hl.hl]; omega)
          rw [el]
          obtain ⟨t, ht⟩ : ∃ t, Sec.underP R n l a k = t := ⟨_, rfl⟩
          have MS := Lib.hid (mask_succ k (Sec.underP R n l a))
          rw [ht] at MS ⊢
          have b1 := mask_le k (by omega) (Sec.underP R n l a)
          have b2 := pow_le k (by omega)
          have W1 := wrap64_pow k (by omega)
          have HB := Lib.hid (HNW.out.trans hnw)
          obtain ⟨M, hM⟩ : ∃ M, Sec.mask k (Sec.underP R n l a) = M := ⟨_, rfl⟩
          rw [hM] at MS b1 ⊢
          obtain ⟨P, hP⟩ : ∃ P, 2 ^ k = P := ⟨_, rfl⟩
          rw [hP] at W1 b2 MS
          clear el ht hnw hM hP
          cases t with
          | true =>
            go_wp2_with fail
            go_roundw
            case rel => exact ⟨k + 1, by omega, by go_num, by rw [MS.out]; go_num, HB.out⟩
            case measure => simp [intOf]; omega
          | false =>
            go_wp2_with fail
            go_roundw
            case rel => exact ⟨k + 1, by omega, by go_num, by rw [MS.out]; rfl, HB.out⟩
            case measure => simp [intOf]; omega
    · have hkn : k = n := by omega
      subst hkn
      go_wp2_with fail
      go_ret
      exact ⟨ret_int (by rw [E.out]), hnw⟩
end Go.Proofs.Ytffmpkgggmoadaa
