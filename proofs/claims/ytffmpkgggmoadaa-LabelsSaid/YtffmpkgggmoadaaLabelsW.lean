/-
  Proved: the walk of secretslaw.Labels where the three lists have at most 2^20 ints. Conditions: these.
-/
import Derived.Test.YtffmpkgggmoadaaWrap
namespace Go.Proofs.Ytffmpkgggmoadaa
open Go.ChangeShapes Go.WideShapes Go.ChangeAt Go.RowKit Go.Deep

/-- what Labels holds while it runs. -/
structure LabSt (W : World) (p o b g n : Nat) (up : Nat → Nat) (q h cp : Nat) (pt : Option Addr) (r : Nat → Nat) (R : Nat → Nat → Bool) (m1 m2 : Nat) (pa pb pc pd : Option Addr) (la lb : List (Int × Int)) : Prop where
  hp : POrd W p o b g n up
  hr : ROrd W q h n cp pt r R
  ra : PairRow W pa m1 la
  rb : PairRow W pb m2 lb
  rc : PairRow W pc m1 la
  rd : PairRow W pd m2 lb

theorem LabSt.below {W W' : World} {p o b g n : Nat} {up : Nat → Nat} {q h cp : Nat} {pt : Option Addr} {r : Nat → Nat} {R : Nat → Nat → Bool} {m1 m2 : Nat} {pa pb pc pd : Option Addr} {la lb : List (Int × Int)}
    (s : LabSt W p o b g n up q h cp pt r R m1 m2 pa pb pc pd la lb) (k : New W W') : LabSt W' p o b g n up q h cp pt r R m1 m2 pa pb pc pd la lb :=
  ⟨s.hp.below k, s.hr.below k, s.ra.below k, s.rb.below k, s.rc.below k, s.rd.below k⟩

set_option maxHeartbeats 4000000 in
set_option maxRecDepth 100000 in
theorem labels_walk (a0 : Int) (a1 : Option Addr) (len1 cap1 : Nat) (z1 : List Int) (a2 : Option Addr) (len2 cap2 : Nat) (z2 : List Int) (a3 : Option Addr) (len3 cap3 : Nat) (z3 : List Int) (a4 : Int) (w : World) (w1 : IsRow .i64 w a1 len1 cap1 z1) (w2 : IsRow .i64 w a2 len2 cap2 z2) (w3 : IsRow .i64 w a3 len3 cap3 z3)
    (k1 : len1 ≤ 1048576) (k2 : len2 ≤ 1048576) (k3 : len3 ≤ 1048576) :
    Calls Try.prog 5 #[.int .i64 a0, .slice a1 len1 cap1, .slice a2 len2 cap2, .slice a3 len3 cap3, .int .i64 a4] w fun e w' => e = .returned (.bool true) ∧ Below w.heap.size w w' := by
  have g1 : decide ((len1 : Int) ≤ 1048576) = true := by simp; omega
  have g2 : decide ((1048576 : Int) < len2) = false := by simp; omega
  have g3 : decide ((1048576 : Int) < len3) = false := by simp; omega
  go_enter Try.func5, Try.ntmps5
  go_wp2_with (first
    | (go_at_call 10; refine (plainNew_any a0 _ _ _ _ _ w1 k1).mono ?_; rintro e W1 ⟨p, o, b, g, up, rfl, hp, hc1, hn1⟩)
    | (go_at_call 11; refine (refNew_any a0 _ _ _ _ _ (w1.below hn1) k1).mono ?_; rintro e W2 ⟨q, h, cp, pt, r, R, rfl, hr, hc2, hn2⟩)
    | (go_at_call 9; go_in))
  have hn12 := hn1.trans hn2
  refine (policies_any _ _ _ _ _ (w2.below hn12) k2).mono ?_
  rintro e W3 ⟨pa, ca, pc, cc, rfl, ra, rc, hn3⟩
  go_wp2_with fail
  have hn13 := hn12.trans hn3
  refine (policies_any _ _ _ _ _ (w3.below hn13) k3).mono ?_
  rintro e W4 ⟨pb, cb, pd, cd, rfl, rb, rd, hn4⟩
  have hn14 := hn13.trans hn4
  obtain ⟨la, hla⟩ : ∃ l, Sec.pairsOf (z2.take len2) = l := ⟨_, rfl⟩
  obtain ⟨lb, hlb⟩ : ∃ l, Sec.pairsOf (z3.take len3) = l := ⟨_, rfl⟩
  obtain ⟨m1, hm1⟩ : ∃ m, len2 / 2 = m := ⟨_, rfl⟩
  obtain ⟨m2, hm2⟩ : ∃ m, len3 / 2 = m := ⟨_, rfl⟩
  have hmm : m1 + m2 ≤ 1048576 := by omega
  rw [hla, hm1] at ra rc
  rw [hlb, hm2] at rb rd
  rw [hm1, hm2]
  obtain ⟨n, hnn⟩ : ∃ n, clamp a0 = n := ⟨_, rfl⟩
  rw [hnn] at hp hr hc1 hc2
  have n6 : n ≤ 6 := hp.lo.hn
  have ST0 : LabSt W4 p o b g n up q h cp pt r R m1 m2 pa pb pc pd la lb := ⟨((hp.below hn2).below hn3).below hn4, (hr.below hn3).below hn4, ra.below hn4, rb, rc.below hn4, rd⟩
  have EQ := Lib.hid (hc1.eq hc2)
  have HW := Lib.hid hn14
  have eN := Lib.hid (Sec.norm_congr (R := Sec.rel up) EQ.out la)
  have eJ := Lib.hid (Sec.norm_congr (R := Sec.rel up) EQ.out (la ++ lb))
  obtain ⟨F, hF⟩ : ∃ F, Sec.flows R n la lb = F := ⟨_, rfl⟩
  obtain ⟨U, hU⟩ : ∃ U, Sec.readsB R n a4 la = U := ⟨_, rfl⟩
  have hF2 : Sec.flows (Sec.rel up) n la lb = F := (Sec.flows_congr (R := Sec.rel up) EQ.out la lb).trans hF
  have hU2 : Sec.readsB (Sec.rel up) n a4 la = U := by
    rw [← hU]
    unfold Sec.readsB
    by_cases hv : 0 ≤ a4 ∧ a4 < n
    · rw [Sec.reads_congr (R := Sec.rel up) EQ.out la (show a4.toNat < n by omega)]
    · rw [decide_eq_false hv]; rfl
  have HFU := Lib.hid (And.intro (And.intro hF hF2) (And.intro hU hU2))
  clear hF hU hF2 hU2
  clear hp hr ra rb rc rd hn1 hn2 hn3 hn4 hn12 hn13 hn14 hla hlb hm1 hm2 hnn hc1 hc2
  go_wp2_with fail
  go_loopw [18] (fun c wr => ∃ k : Nat, k ≤ 2 ∧ c = .int .i64 k ∧ LabSt wr p o b g n up q h cp pt r R m1 m2 pa pb pc pd la lb ∧ New w wr) (fun c _ => 2 - (intOf c).toNat)
  case atStart => exact ⟨0, by omega, rfl, ST0, HW.out⟩
  case round =>
    clear ST0 HW
    obtain ⟨k, hk, rfl, st, hnw⟩ := hrel
    by_cases hlt : k < 2
    · have HW := Lib.hid hnw
      clear hnw
      go_wp2_with fail
      refine (pnorm_any st.hp _ _ _ la st.ra).mono ?_
      rintro e wa ⟨p1, q1, rfl, own1, na⟩
      have sa := st.below na
      go_wp2_with fail
      refine (pjoin_any sa.hp _ _ _ _ _ _ la lb sa.ra sa.rb hmm).mono ?_
      rintro e wb ⟨p2, q2, rfl, own2, nb⟩
      have sb := sa.below nb
      go_wp2_with fail
      have C3 := pflows_any sb.hp _ _ _ _ ca cb la lb sb.ra sb.rb
      rw [HFU.out.1.2] at C3
      refine C3.mono ?_
      clear C3
      rintro e wc ⟨rfl, nc⟩
      have sc := sb.below nc
      go_wp2_with fail
      have C4 := preads_any sc.hp a4 _ _ ca la sc.ra
      rw [HFU.out.2.2] at C4
      refine C4.mono ?_
      clear C4
      rintro e wd ⟨rfl, nd⟩
      have sd := sc.below nd
      go_wp2_with fail
      refine (rnorm_any sd.hr _ _ _ la sd.rc).mono ?_
      rintro e we ⟨p3, q3, rfl, own3, ne⟩
      have se := sd.below ne
      go_wp2_with fail
      refine (rjoin_any se.hr _ _ _ _ _ _ la lb se.rc se.rd hmm).mono ?_
      rintro e wf ⟨p4, q4, rfl, own4, nf⟩
      have sf := se.below nf
      go_wp2_with fail
      have C7 := rflows_any sf.hr _ _ _ _ cc cd la lb sf.rc sf.rd
      rw [HFU.out.1.1] at C7
      refine C7.mono ?_
      clear C7
      rintro e wg ⟨rfl, ng⟩
      have sg := sf.below ng
      go_wp2_with fail
      have C8 := rreads_any sg.hr a4 _ _ cc la sg.rc
      rw [HFU.out.2.1] at C8
      refine C8.mono ?_
      clear C8
      rintro e wh ⟨rfl, nh⟩
      have sh := sg.below nh
      have l1 := norm_len (Sec.rel up) n la
      have l2 := norm_len (Sec.rel up) n (la ++ lb)
      have l3 := norm_len R n la
      have l4 := norm_len R n (la ++ lb)
      have o1 := ownsRow_new own1 ((((((nb.trans nc).trans nd).trans ne).trans nf).trans ng).trans nh)
      have o2 := ownsRow_new own2 (((((nc.trans nd).trans ne).trans nf).trans ng).trans nh)
      have x1 := pairRow_of o1 (by omega)
      have x2 := pairRow_of o2 (by omega)
      have x3 := pairRow_of (ownsRow_new own3 ((nf.trans ng).trans nh)) (by omega)
      have x4 := pairRow_of (ownsRow_new own4 (ng.trans nh)) (by omega)
      have NWh : Hid (New wr wh) := ((((((na.trans nb).trans nc).trans nd).trans ne).trans nf).trans ng).trans nh
      have apart : Hid (∀ j, (Value.slice p1 (Sec.norm (Sec.rel up) n la).length q1).ownBlock = some j → (Value.slice p2 (Sec.norm (Sec.rel up) n (la ++ lb)).length q2).ownBlock ≠ some j) := fun j e1 e2 => by
        have a := (own1.lt j e1).2
        have b := (own2.lt j e2).1
        omega
      have lo1 : Hid (∀ j, (Value.slice p1 (Sec.norm (Sec.rel up) n la).length q1).ownBlock = some j → wr.heap.size ≤ j) := fun j e1 => (own1.lt j e1).1
      have lo2 : Hid (∀ j, (Value.slice p2 (Sec.norm (Sec.rel up) n (la ++ lb)).length q2).ownBlock = some j → wr.heap.size ≤ j) := fun j e1 => Nat.le_trans na.size (own2.lt j e1).1
      have S1 : ∀ W, PairRow W p1 (Sec.norm (Sec.rel up) n la).length (Sec.norm (Sec.rel up) n la) → PairRow W p3 (Sec.norm R n la).length (Sec.norm R n la) → Calls Try.prog 24 #[.slice p1 (Sec.norm (Sec.rel up) n la).length q1, .slice p3 (Sec.norm R n la).length q3] W (QuietBool true W) := fun W y1 y2 => by
        have := same_any p1 p3 _ _ q1 q3 _ _ y1 y2
        rwa [decide_eq_true eN.out] at this
      have S2 : ∀ W, PairRow W p2 (Sec.norm (Sec.rel up) n (la ++ lb)).length (Sec.norm (Sec.rel up) n (la ++ lb)) → PairRow W p4 (Sec.norm R n (la ++ lb)).length (Sec.norm R n (la ++ lb)) → Calls Try.prog 24 #[.slice p2 (Sec.norm (Sec.rel up) n (la ++ lb)).length q2, .slice p4 (Sec.norm R n (la ++ lb)).length q4] W (QuietBool true W) := fun W y1 y2 => by
        have := same_any p2 p4 _ _ q2 q4 _ _ y1 y2
        rwa [decide_eq_true eJ.out] at this
      have S3 : ∀ W, PairRow W pa m1 la → PairRow W pc m1 la → Calls Try.prog 24 #[.slice pa m1 ca, .slice pc m1 cc] W (QuietBool true W) := fun W y1 y2 => by
        have := same_any pa pc _ _ ca cc _ _ y1 y2
        rwa [decide_eq_true rfl] at this
      have HS1 := Lib.hid S1
      have HS2 := Lib.hid S2
      have HS3 := Lib.hid S3
      have HO1 := Lib.hid o1
      have HO2 := Lib.hid o2
      clear S1 S2 S3 own1 own2 own3 own4 na nb nc nd ne nf ng nh o1 o2 l1 l2 l3 l4
      go_wp2_with fail
      refine (HS1.out _ x1 x3).mono ?_
      rintro e wi ⟨d1, rfl, rfl⟩
      go_wp2_with fail
      refine (HS2.out _ (x2.below (New.drewN _ _)) (x4.below (New.drewN _ _))).mono ?_
      rintro e wi ⟨d2, rfl, rfl⟩
      go_wp2_with fail
      refine (HS3.out _ ((sh.below (New.drewN _ _)).ra) ((sh.below (New.drewN _ _)).rc)).mono ?_
      rintro e wi ⟨d3, rfl, rfl⟩
      go_wp2_with fail
      refine (spoil_any (ownsRow_new HO1.out (New.drewN _ _))).mono ?_
      rintro e wj ⟨rfl, gj⟩
      have HO2j := Lib.hid ((ownsRow_new HO2.out (New.drewN _ _)).kept gj (by
        by_cases hn : (Value.slice p2 (Sec.norm (Sec.rel up) n (la ++ lb)).length q2).ownBlock = none
        · exact .inl hn
        · right
          intro he
          cases hq : (Value.slice p1 (Sec.norm (Sec.rel up) n la).length q1).ownBlock with
          | none => rw [hq] at he; exact hn he
          | some j => rw [hq] at he; exact apart.out j hq he))
      have NJ : Hid (New wr wj) := Below.grown (New.trans NWh.out (New.drewN _ _)) gj (by have := NWh.out.size; simpa using this) lo1.out
      clear gj
      go_wp2_with fail
      refine (spoil_any HO2j.out).mono ?_
      rintro e wk ⟨rfl, gk⟩
      have NK : Hid (New wr wk) := Below.grown NJ.out gk NJ.out.size lo2.out
      clear gk
      go_wp2_with fail
      go_roundw
      case rel => exact ⟨k + 1, by omega, by go_num, st.below NK.out, HW.out.trans NK.out⟩
      case measure => simp [intOf]; omega
    · go_wp2_with fail
      go_ret
      exact ⟨rfl, hnw⟩
end Go.Proofs.Ytffmpkgggmoadaa
