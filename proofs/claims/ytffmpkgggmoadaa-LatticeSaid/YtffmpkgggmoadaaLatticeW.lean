/-
  Proved: the walk of secretskeep.Lattice where the four lists have at most 2^20 ints. Conditions: these.
-/
import Derived.Test.YtffmpkgggmoadaaKeep1
namespace Go.Proofs.Ytffmpkgggmoadaa
open Go.ChangeShapes Go.WideShapes Go.ChangeAt Go.RowKit Go.Deep

/-- what Lattice holds while it runs. -/
structure LatSt (W : World) (p o b g n : Nat) (up : Nat → Nat) (m1 m2 m3 : Nat) (pa pb pc : Option Addr) (la lb lc : List (Int × Int)) : Prop where
  hp : POrd W p o b g n up
  ra : PairRow W pa m1 la
  rb : PairRow W pb m2 lb
  rc : PairRow W pc m3 lc

theorem LatSt.below {W W' : World} {p o b g n : Nat} {up : Nat → Nat} {m1 m2 m3 : Nat} {pa pb pc : Option Addr} {la lb lc : List (Int × Int)}
    (s : LatSt W p o b g n up m1 m2 m3 pa pb pc la lb lc) (k : New W W') : LatSt W' p o b g n up m1 m2 m3 pa pb pc la lb lc :=
  ⟨s.hp.below k, s.ra.below k, s.rb.below k, s.rc.below k⟩

theorem none_row (w : World) : PairRow w none 0 [] := ⟨rfl, by omega, fun h => by omega⟩

set_option maxHeartbeats 8000000 in
set_option maxRecDepth 100000 in
theorem lattice_walk (a0 : Int) (a1 : Option Addr) (len1 cap1 : Nat) (z1 : List Int) (a2 : Option Addr) (len2 cap2 : Nat) (z2 : List Int) (a3 : Option Addr) (len3 cap3 : Nat) (z3 : List Int) (a4 : Option Addr) (len4 cap4 : Nat) (z4 : List Int) (w : World)
    (w1 : IsRow .i64 w a1 len1 cap1 z1) (w2 : IsRow .i64 w a2 len2 cap2 z2) (w3 : IsRow .i64 w a3 len3 cap3 z3) (w4 : IsRow .i64 w a4 len4 cap4 z4)
    (k1 : len1 ≤ 1048576) (k2 : len2 ≤ 1048576) (k3 : len3 ≤ 1048576) (k4 : len4 ≤ 1048576) :
    Calls Try.prog 6 #[.int .i64 a0, .slice a1 len1 cap1, .slice a2 len2 cap2, .slice a3 len3 cap3, .slice a4 len4 cap4] w fun e w' => e = .returned (.bool true) ∧ Below w.heap.size w w' := by
  have g1 : decide ((len1 : Int) ≤ 1048576) = true := by simp; omega
  have g2 : decide ((len2 : Int) ≤ 1048576) = true := by simp; omega
  have g3 : decide ((1048576 : Int) < len3) = false := by simp; omega
  have g4 : decide ((1048576 : Int) < len4) = false := by simp; omega
  go_enter Try.func6, Try.ntmps6
  go_wp2_with (first
    | (go_at_call 10; refine (plainNew_any a0 _ _ _ _ _ w1 k1).mono ?_; rintro e W1 ⟨p, o, b, g, up, rfl, hp, hc1, hn1⟩)
    | (go_at_call 26; go_in))
  clear g1 g2 g3 g4
  refine (kpolicies_any _ _ _ _ _ (w2.below hn1) k2).mono ?_
  rintro e W2 ⟨pa, ca, rfl, ra, hn2⟩
  have hn12 := hn1.trans hn2
  go_wp2_with fail
  refine (kpolicies_any _ _ _ _ _ (w3.below hn12) k3).mono ?_
  rintro e W3 ⟨pb, cb, rfl, rb, hn3⟩
  have hn13 := hn12.trans hn3
  go_wp2_with fail
  refine (kpolicies_any _ _ _ _ _ (w4.below hn13) k4).mono ?_
  rintro e W4 ⟨pc, cc, rfl, rc, hn4⟩
  have hn14 := hn13.trans hn4
  obtain ⟨la, hla⟩ : ∃ l, Sec.pairsOf (z2.take len2) = l := ⟨_, rfl⟩
  obtain ⟨lb, hlb⟩ : ∃ l, Sec.pairsOf (z3.take len3) = l := ⟨_, rfl⟩
  obtain ⟨lc, hlc⟩ : ∃ l, Sec.pairsOf (z4.take len4) = l := ⟨_, rfl⟩
  obtain ⟨m1, hm1⟩ : ∃ m, len2 / 2 = m := ⟨_, rfl⟩
  obtain ⟨m2, hm2⟩ : ∃ m, len3 / 2 = m := ⟨_, rfl⟩
  obtain ⟨m3, hm3⟩ : ∃ m, len4 / 2 = m := ⟨_, rfl⟩
  have hmm : m1 + m2 ≤ 1048576 := by omega
  have hmm2 : m2 + m1 ≤ 1048576 := by omega
  rw [hla, hm1] at ra
  rw [hlb, hm2] at rb
  rw [hlc, hm3] at rc
  rw [hm1, hm2, hm3]
  obtain ⟨n, hnn⟩ : ∃ n, clamp a0 = n := ⟨_, rfl⟩
  rw [hnn] at hp hc1
  have n6 : n ≤ 6 := hp.lo.hn
  have st : LatSt W4 p o b g n up m1 m2 m3 pa pb pc la lb lc := ⟨((hp.below hn2).below hn3).below hn4, (ra.below hn3).below hn4, rb.below hn4, rc⟩
  have H : Sec.Pre n (Sec.rel up) := hc1.pre
  have HW := Lib.hid hn14
  obtain ⟨AB, eAB⟩ : ∃ t, Sec.flows (Sec.rel up) n la lb = t := ⟨_, rfl⟩
  obtain ⟨BA, eBA⟩ : ∃ t, Sec.flows (Sec.rel up) n lb la = t := ⟨_, rfl⟩
  obtain ⟨BC, eBC⟩ : ∃ t, Sec.flows (Sec.rel up) n lb lc = t := ⟨_, rfl⟩
  obtain ⟨AC, eAC⟩ : ∃ t, Sec.flows (Sec.rel up) n la lc = t := ⟨_, rfl⟩
  have hEQ : decide (Sec.norm (Sec.rel up) n la = Sec.norm (Sec.rel up) n lb) = (AB && BA) := by
    rw [Bool.eq_iff_iff, decide_eq_true_eq, Sec.norm_eq_iff H, Bool.and_eq_true, eAB, eBA]
  have hTR : (AB && BC && !AC) = false := by
    cases AB <;> cases BC <;> cases AC <;> simp
    have := Sec.flows_trans eAB eBC
    rw [eAC] at this; cases this
  have hRD : ∀ who, who < n → (AB && Sec.reads (Sec.rel up) n who lb && !Sec.reads (Sec.rel up) n who la) = false := fun who hw => by
    cases AB
    · rfl
    · cases e : Sec.reads (Sec.rel up) n who lb
      · rfl
      · rw [Sec.reads_flows hw eAB e]; rfl
  have eAB' := Lib.hid eAB
  have eBA' := Lib.hid eBA
  have eBC' := Lib.hid eBC
  have eAC' := Lib.hid eAC
  have hEQ' := Lib.hid hEQ
  have hTR' := Lib.hid hTR
  have hRD' := Lib.hid hRD
  clear hp ra rb rc hn1 hn2 hn3 hn4 hn12 hn13 hn14 hla hlb hlc hm1 hm2 hm3 hnn hc1 eAB eBA eBC eAC hEQ hTR hRD
  have l1 := norm_len (Sec.rel up) n la
  have l2 := norm_len (Sec.rel up) n lb
  have l3 := norm_len (Sec.rel up) n (Sec.norm (Sec.rel up) n la)
  have l4 := norm_len (Sec.rel up) n (la ++ lb)
  have l5 := norm_len (Sec.rel up) n (lb ++ la)
  go_wp2_with fail
  refine (pnorm_any st.hp _ _ _ _ st.ra).mono ?_
  rintro e V1 ⟨px, qx, rfl, ox, u1⟩
  have rx := pairRow_of ox (by omega)
  clear ox
  replace st := st.below u1
  replace HW := Lib.hid (HW.out.trans u1)
  clear u1
  go_wp2_with fail
  refine (pnorm_any st.hp _ _ _ _ st.rb).mono ?_
  rintro e V2 ⟨py, qy, rfl, oy, u2⟩
  have ry := pairRow_of oy (by omega)
  clear oy
  replace st := st.below u2
  replace rx := rx.below u2
  replace HW := Lib.hid (HW.out.trans u2)
  clear u2
  go_wp2_with fail
  refine (pnorm_any st.hp _ _ _ _ rx).mono ?_
  rintro e V3 ⟨pz, qz, rfl, oz, u3⟩
  have rz := pairRow_of oz (by omega)
  clear oz
  replace st := st.below u3
  replace rx := rx.below u3
  replace ry := ry.below u3
  replace HW := Lib.hid (HW.out.trans u3)
  clear u3
  have C := pflows_any st.hp _ _ _ _ ca cb la lb st.ra st.rb
  rw [eAB'.out] at C
  go_wp2_with fail
  refine C.mono ?_
  clear C
  rintro e V4 ⟨rfl, u4⟩
  replace st := st.below u4
  replace rx := rx.below u4
  replace ry := ry.below u4
  replace rz := rz.below u4
  replace HW := Lib.hid (HW.out.trans u4)
  clear u4
  have C := pflows_any st.hp _ _ _ _ cb ca lb la st.rb st.ra
  rw [eBA'.out] at C
  go_wp2_with fail
  refine C.mono ?_
  clear C
  rintro e V5 ⟨rfl, u5⟩
  replace st := st.below u5
  replace rx := rx.below u5
  replace ry := ry.below u5
  replace rz := rz.below u5
  replace HW := Lib.hid (HW.out.trans u5)
  clear u5
  have C := pflows_any st.hp _ _ _ _ cb cc lb lc st.rb st.rc
  rw [eBC'.out] at C
  go_wp2_with fail
  refine C.mono ?_
  clear C
  rintro e V6 ⟨rfl, u6⟩
  replace st := st.below u6
  replace rx := rx.below u6
  replace ry := ry.below u6
  replace rz := rz.below u6
  replace HW := Lib.hid (HW.out.trans u6)
  clear u6
  have C := pflows_any st.hp _ _ _ _ ca cc la lc st.ra st.rc
  rw [eAC'.out] at C
  go_wp2_with fail
  refine C.mono ?_
  clear C
  rintro e V7 ⟨rfl, u7⟩
  replace st := st.below u7
  replace rx := rx.below u7
  replace ry := ry.below u7
  replace rz := rz.below u7
  replace HW := Lib.hid (HW.out.trans u7)
  clear u7
  have C := pflows_any st.hp _ _ _ _ ca ca la la st.ra st.ra
  rw [Sec.flows_refl] at C
  go_wp2_with fail
  refine C.mono ?_
  clear C
  rintro e V8 ⟨rfl, u8⟩
  replace st := st.below u8
  replace rx := rx.below u8
  replace ry := ry.below u8
  replace rz := rz.below u8
  replace HW := Lib.hid (HW.out.trans u8)
  clear u8
  have C := pflows_any st.hp _ _ _ _ ca qx la (Sec.norm (Sec.rel up) n la) st.ra rx
  rw [Sec.flows_norm H] at C
  go_wp2_with fail
  refine C.mono ?_
  clear C
  rintro e V9 ⟨rfl, u9⟩
  replace st := st.below u9
  replace rx := rx.below u9
  replace ry := ry.below u9
  replace rz := rz.below u9
  replace HW := Lib.hid (HW.out.trans u9)
  clear u9
  have C := pflows_any st.hp _ _ _ _ qx ca (Sec.norm (Sec.rel up) n la) la rx st.ra
  rw [Sec.norm_flows H] at C
  go_wp2_with fail
  refine C.mono ?_
  clear C
  rintro e V10 ⟨rfl, u10⟩
  replace st := st.below u10
  replace rx := rx.below u10
  replace ry := ry.below u10
  replace rz := rz.below u10
  replace HW := Lib.hid (HW.out.trans u10)
  clear u10
  have C := ksame_any _ _ _ _ qx qz _ _ rx rz
  rw [decide_eq_true (Sec.norm_norm H).symm] at C
  go_wp2_with fail
  refine C.mono ?_
  clear C
  rintro e V11 ⟨d11, rfl, hd11⟩
  have u11 : New V10 V11 := by rw [hd11]; exact New.drewN _ _
  clear hd11
  replace st := st.below u11
  replace rx := rx.below u11
  replace ry := ry.below u11
  replace rz := rz.below u11
  replace HW := Lib.hid (HW.out.trans u11)
  clear u11
  have C := ksame_any _ _ _ _ qx qy _ _ rx ry
  rw [hEQ'.out] at C
  go_wp2_with fail
  refine C.mono ?_
  clear C
  rintro e V12 ⟨d12, rfl, hd12⟩
  have u12 : New V11 V12 := by rw [hd12]; exact New.drewN _ _
  clear hd12
  replace st := st.below u12
  replace rx := rx.below u12
  replace ry := ry.below u12
  replace rz := rz.below u12
  replace HW := Lib.hid (HW.out.trans u12)
  clear u12
  go_upto_region 20 with fail
  go_cut [138] from 107 to 137 (fun s wx => s = .bool false ∧ V12 = wx)
  case first =>
    have hTR := hTR'.out
    cases AB <;> cases BA <;> cases BC <;> cases AC <;> simp at hTR
    all_goals
      clear eAB' eBA' eBC' eAC' hEQ' hTR' hRD'
      go_wp2_with fail
      go_meet
      exact ⟨rfl, rfl⟩
  case rest =>
  obtain ⟨rfl, rfl⟩ := hcut
  go_wp2_with fail
  refine (pjoin_any st.hp _ _ _ _ _ _ la lb st.ra st.rb hmm).mono ?_
  rintro e V13 ⟨pj, qj, rfl, oj, u13⟩
  have rj := pairRow_of oj (by omega)
  clear oj
  replace st := st.below u13
  replace rx := rx.below u13
  replace ry := ry.below u13
  replace rz := rz.below u13
  replace HW := Lib.hid (HW.out.trans u13)
  clear u13
  go_wp2_with fail
  refine (pjoin_any st.hp _ _ _ _ _ _ lb la st.rb st.ra hmm2).mono ?_
  rintro e V14 ⟨pk, qk, rfl, ok, u14⟩
  have rk := pairRow_of ok (by omega)
  clear ok
  replace st := st.below u14
  replace rx := rx.below u14
  replace ry := ry.below u14
  replace rz := rz.below u14
  replace rj := rj.below u14
  replace HW := Lib.hid (HW.out.trans u14)
  clear u14
  have C := pflows_any st.hp _ _ _ _ ca qj la (Sec.norm (Sec.rel up) n (la ++ lb)) st.ra rj
  rw [Sec.flows_join_left H] at C
  go_wp2_with fail
  refine C.mono ?_
  clear C
  rintro e V15 ⟨rfl, u15⟩
  replace st := st.below u15
  replace rx := rx.below u15
  replace ry := ry.below u15
  replace rz := rz.below u15
  replace rj := rj.below u15
  replace rk := rk.below u15
  replace HW := Lib.hid (HW.out.trans u15)
  clear u15
  have C := pflows_any st.hp _ _ _ _ cb qj lb (Sec.norm (Sec.rel up) n (la ++ lb)) st.rb rj
  rw [Sec.flows_join_right H] at C
  go_wp2_with fail
  refine C.mono ?_
  clear C
  rintro e V16 ⟨rfl, u16⟩
  replace st := st.below u16
  replace rx := rx.below u16
  replace ry := ry.below u16
  replace rz := rz.below u16
  replace rj := rj.below u16
  replace rk := rk.below u16
  replace HW := Lib.hid (HW.out.trans u16)
  clear u16
  have C := pflows_any st.hp _ _ _ _ qj cc (Sec.norm (Sec.rel up) n (la ++ lb)) lc rj st.rc
  rw [Sec.join_least H, eAC'.out, eBC'.out] at C
  go_wp2_with fail
  refine C.mono ?_
  clear C
  rintro e V17 ⟨rfl, u17⟩
  replace st := st.below u17
  replace rx := rx.below u17
  replace ry := ry.below u17
  replace rz := rz.below u17
  replace rj := rj.below u17
  replace rk := rk.below u17
  replace HW := Lib.hid (HW.out.trans u17)
  clear u17
  have C := ksame_any _ _ _ _ qj qk _ _ rj rk
  rw [decide_eq_true (Sec.join_swap H)] at C
  go_wp2_with fail
  refine C.mono ?_
  clear C
  rintro e V18 ⟨d18, rfl, hd18⟩
  have u18 : New V17 V18 := by rw [hd18]; exact New.drewN _ _
  clear hd18
  replace st := st.below u18
  replace rx := rx.below u18
  replace ry := ry.below u18
  replace rz := rz.below u18
  replace rj := rj.below u18
  replace rk := rk.below u18
  replace HW := Lib.hid (HW.out.trans u18)
  clear u18
  go_upto_region 28 with fail
  go_cut [179] from 162 to 178 (fun s wx => s = .bool false ∧ V18 = wx)
  case first =>
    cases BC <;> cases AC
    all_goals
      clear eAB' eBA' eBC' eAC' hEQ' hTR' hRD'
      go_wp2_with fail
      go_meet
      exact ⟨rfl, rfl⟩
  case rest =>
  obtain ⟨rfl, rfl⟩ := hcut
  have C := pflows_any st.hp _ _ _ _ 0 ca [] la (none_row _) st.ra
  rw [Sec.flows_nil] at C
  go_wp2_with fail
  refine C.mono ?_
  clear C
  rintro e V19 ⟨rfl, u19⟩
  replace st := st.below u19
  replace rx := rx.below u19
  replace ry := ry.below u19
  replace rz := rz.below u19
  replace rj := rj.below u19
  replace rk := rk.below u19
  replace HW := Lib.hid (HW.out.trans u19)
  clear u19
  clear rx ry rz rk l1 l2 l3 l4 l5 eAB' eBA' eBC' eAC' hEQ' hTR'
  go_wp2_with fail
  go_loopw [35] (fun c wr => ∃ i : Nat, i ≤ n ∧ c = .int .i64 i ∧ LatSt wr p o b g n up m1 m2 m3 pa pb pc la lb lc ∧ PairRow wr pj (Sec.norm (Sec.rel up) n (la ++ lb)).length (Sec.norm (Sec.rel up) n (la ++ lb)) ∧ New w wr) (fun c _ => n - (intOf c).toNat)
  case atStart => exact ⟨0, Nat.zero_le _, rfl, st, rj, HW.out⟩
  case round =>
    clear st rj HW
    obtain ⟨i, hi, rfl, st, rj, hnw⟩ := hrel
    have HN := Lib.hid hnw
    clear hnw
    go_wp2_with fail
    refine (pactors_any st.hp).mono ?_
    rintro e X1 ⟨rfl, rfl⟩
    by_cases hin : i < n
    · obtain ⟨P, eP⟩ : ∃ t, Sec.reads (Sec.rel up) n i la = t := ⟨_, rfl⟩
      obtain ⟨Q, eQ⟩ : ∃ t, Sec.reads (Sec.rel up) n i lb = t := ⟨_, rfl⟩
      have eJ : Sec.reads (Sec.rel up) n i (Sec.norm (Sec.rel up) n (la ++ lb)) = (P && Q) := by rw [Sec.reads_join H hin, eP, eQ]
      have hr := hRD'.out i hin
      rw [eP, eQ] at hr
      have eP' := Lib.hid eP
      have eQ' := Lib.hid eQ
      have eJ' := Lib.hid eJ
      have hr' := Lib.hid hr
      clear eP eQ eJ hr
      have C := preads_any st.hp (i : Int) _ _ ca la st.ra
      rw [Sec.readsB_nat hin, eP'.out] at C
      go_wp2_with fail
      refine C.mono ?_
      clear C
      rintro e X2 ⟨rfl, u1⟩
      replace st := st.below u1
      replace rj := rj.below u1
      replace HN := Lib.hid (HN.out.trans u1)
      clear u1
      have C := preads_any st.hp (i : Int) _ _ cb lb st.rb
      rw [Sec.readsB_nat hin, eQ'.out] at C
      go_wp2_with fail
      refine C.mono ?_
      clear C
      rintro e X3 ⟨rfl, u1⟩
      replace st := st.below u1
      replace rj := rj.below u1
      replace HN := Lib.hid (HN.out.trans u1)
      clear u1
      have C := preads_any st.hp (i : Int) _ _ qj _ rj
      rw [Sec.readsB_nat hin, eJ'.out] at C
      go_wp2_with fail
      refine C.mono ?_
      clear C
      rintro e X4 ⟨rfl, u1⟩
      replace st := st.below u1
      replace rj := rj.below u1
      replace HN := Lib.hid (HN.out.trans u1)
      clear u1
      have C := preads_any st.hp (i : Int) _ _ 0 _ (none_row _)
      rw [Sec.readsB_nat hin, Sec.reads_nil] at C
      go_wp2_with fail
      refine C.mono ?_
      clear C
      rintro e X5 ⟨rfl, u1⟩
      replace st := st.below u1
      replace rj := rj.below u1
      replace HN := Lib.hid (HN.out.trans u1)
      clear u1
      go_upto_region 40 with fail
      go_cut [225] from 206 to 224 (fun s wx => s = .bool false ∧ X5 = wx)
      case first =>
        have hr := hr'.out
        cases AB <;> cases P <;> cases Q <;> simp at hr
        all_goals
          clear eP' eQ' eJ' hr' hRD'
          go_wp2_with fail
          go_meet
          exact ⟨rfl, rfl⟩
      case rest =>
      obtain ⟨rfl, rfl⟩ := hcut
      go_wp2_with fail
      go_roundw
      case rel => exact ⟨i + 1, by omega, by go_num, st, rj, HN.out⟩
      case measure => simp [intOf]; omega
    · have hin2 : i = n := by omega
      subst hin2
      go_wp2_with fail
      refine (alone_any st.hp H).mono ?_
      rintro e X2 ⟨rfl, u1⟩
      have HN2 := Lib.hid (HN.out.trans u1)
      clear u1
      go_wp2_with fail
      go_ret
      exact ⟨rfl, HN2.out⟩
end Go.Proofs.Ytffmpkgggmoadaa
