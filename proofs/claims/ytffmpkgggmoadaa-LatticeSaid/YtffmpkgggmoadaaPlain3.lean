/-
  PLAIN LEAN: labels under a reflexive, transitive order: the normal form says what the label says; flowing is an order; Join is the least label above two.
-/
import Derived.Test.YtffmpkgggmoadaaFlows
set_option linter.unusedVariables false
namespace Sec

structure Pre (n : Nat) (R : Nat → Nat → Bool) : Prop where
  refl : ∀ a, a < n → R a a = true
  trans : ∀ a b c, a < n → b < n → c < n → R a b = true → R b c = true → R a c = true

theorem Closed.pre {n : Nat} {l : List (Int × Int)} {R : Nat → Nat → Bool} (h : Closed n (baseOf n l) R) : Pre n R :=
  ⟨fun a ha => h.base a a ha ha (by simp [baseOf]), h.trans⟩

theorem rbit_nat (x r : Nat) : rbit (x : Int) r = x.testBit r := by
  unfold rbit
  rw [Nat.testBit_eq_decide_div_mod_eq]
  have : ((x : Int) / 2 ^ r) % 2 = ((x / 2 ^ r % 2 : Nat) : Int) := by simp
  rw [this, Bool.eq_iff_iff]
  simp only [beq_iff_eq, decide_eq_true_eq]
  omega

variable {n : Nat} {R : Nat → Nat → Bool} {l m : List (Int × Int)}

theorem underP_iff (a who : Nat) : underP R n l a who = true ↔ ∀ p ∈ l, counts R n p a = true → letsP R n p who = true := by
  unfold underP
  rw [List.all_eq_true]
  constructor <;> (intro h p hp; have := h p hp; revert this; cases counts R n p a <;> cases letsP R n p who <;> simp)

theorem counts_iff (p : Int × Int) (a : Nat) : counts R n p a = true ↔ (0 ≤ p.1 ∧ p.1 < n) ∧ R p.1.toNat a = true := by
  unfold counts; simp

theorem letsP_iff (p : Int × Int) (who : Nat) : letsP R n p who = true ↔ R who p.1.toNat = true ∨ ∃ r, r < n ∧ rbit p.2 r = true ∧ R who r = true := by
  unfold letsP
  rw [Bool.or_eq_true, List.any_eq_true]
  simp only [List.mem_range, Bool.and_eq_true]

theorem letsP_up (H : Pre n R) {p : Int × Int} (hp : p.1.toNat < n) {r who : Nat} (hr : r < n) (hw : who < n) (h : letsP R n p r = true) (k : R who r = true) : letsP R n p who = true := by
  rw [letsP_iff] at h ⊢
  rcases h with h | ⟨s, hs, h1, h2⟩
  · exact .inl (H.trans _ _ _ hw hr hp k h)
  · exact .inr ⟨s, hs, h1, H.trans _ _ _ hw hr hs k h2⟩

theorem underP_up (H : Pre n R) {a r who : Nat} (hr : r < n) (hw : who < n) (h : underP R n l a r = true) (k : R who r = true) : underP R n l a who = true := by
  rw [underP_iff] at h ⊢
  intro p hp hc
  have := (counts_iff p a).1 hc
  exact letsP_up H (by omega) hr hw (h p hp hc) k

theorem underP_mono (H : Pre n R) {a b who : Nat} (ha : a < n) (hb : b < n) (hba : R b a = true) (h : underP R n l a who = true) : underP R n l b who = true := by
  rw [underP_iff] at h ⊢
  intro p hp hc
  have c := (counts_iff p b).1 hc
  exact h p hp ((counts_iff p a).2 ⟨c.1, H.trans _ _ _ (by omega) hb ha c.2 hba⟩)

/-- a policy of the normal form lets read: who acts for its owner, and who may read under it. -/
theorem lets_norm (H : Pre n R) {b who : Nat} (hw : who < n) : letsP R n ((b : Int), (under R n l b : Int)) who = true ↔ R who b = true ∨ underP R n l b who = true := by
  rw [letsP_iff]
  simp only [Int.toNat_natCast]
  constructor
  · rintro (h | ⟨r, hr, h1, h2⟩)
    · exact .inl h
    · right
      rw [rbit_nat] at h1
      unfold under at h1
      rw [testBit_mask, Bool.and_eq_true] at h1
      exact underP_up H hr hw h1.2 h2
  · rintro (h | h)
    · exact .inl h
    · refine .inr ⟨who, hw, ?_, H.refl _ hw⟩
      rw [rbit_nat]
      unfold under
      rw [testBit_mask, h, decide_eq_true hw]; rfl

theorem mem_norm {p : Int × Int} : p ∈ norm R n l ↔ ∃ b, b < n ∧ kept R n l b = true ∧ p = ((b : Int), (under R n l b : Int)) := by
  unfold norm normTo
  rw [List.mem_map]
  constructor
  · rintro ⟨b, hb, rfl⟩
    rw [List.mem_filter, List.mem_range] at hb
    exact ⟨b, hb.1, hb.2, rfl⟩
  · rintro ⟨b, hb, hk, rfl⟩
    exact ⟨b, by rw [List.mem_filter, List.mem_range]; exact ⟨hb, hk⟩, rfl⟩

theorem under_norm_iff (H : Pre n R) {a who : Nat} (hw : who < n) : underP R n (norm R n l) a who = true ↔ ∀ b, b < n → kept R n l b = true → R b a = true → R who b = true ∨ underP R n l b who = true := by
  rw [underP_iff]
  constructor
  · intro h b hb hk hba
    rw [← lets_norm H hw]
    exact h _ (mem_norm.2 ⟨b, hb, hk, rfl⟩) ((counts_iff _ _).2 ⟨⟨by omega, by simpa using hb⟩, by simpa using hba⟩)
  · intro h p hp hc
    obtain ⟨b, hb, hk, rfl⟩ := mem_norm.1 hp
    rw [lets_norm H hw]
    exact h b hb hk (by have := ((counts_iff _ _).1 hc).2; simpa using this)

/-- of those that act for each other the first. -/
theorem first_rep (H : Pre n R) {a : Nat} (ha : a < n) : ∃ f, f < n ∧ R a f = true ∧ R f a = true ∧ firstP R f = true := by
  induction a using Nat.strongRecOn with
  | ind a ih =>
    by_cases h : firstP R a = true
    · exact ⟨a, ha, H.refl a ha, H.refl a ha, h⟩
    · have : ∃ c, c < a ∧ R a c = true ∧ R c a = true := by
        unfold firstP at h
        rw [List.all_eq_true] at h
        simp only [List.mem_range] at h
        have : ¬ ∀ c, c < a → (R a c && R c a) = false := fun k => h fun c hc => by rw [k c hc]; rfl
        obtain ⟨c, hc⟩ := Classical.not_forall.1 this
        have hc1 : c < a := Classical.byContradiction fun z => hc fun y => absurd y z
        have hc2 : (R a c && R c a) = true := by
          cases e : (R a c && R c a) with
          | true => rfl
          | false => exact absurd (fun _ => e) hc
        rw [Bool.and_eq_true] at hc2
        exact ⟨c, hc1, hc2.1, hc2.2⟩
      obtain ⟨c, hc, h1, h2⟩ := this
      obtain ⟨f, hf, k1, k2, k3⟩ := ih c hc (by omega)
      exact ⟨f, hf, H.trans _ _ _ ha (by omega) hf h1 k1, H.trans _ _ _ hf (by omega) ha k2 h2, k3⟩

def cntUp (n : Nat) (R : Nat → Nat → Bool) (a : Nat) : Nat := (List.range n).countP fun c => R c a

theorem cntUp_lt (H : Pre n R) {a b : Nat} (ha : a < n) (hb : b < n) (h1 : R b a = true) (h2 : R a b = false) : cntUp n R b < cntUp n R a := by
  refine countP_lt _ _ _ (fun c hc k => ?_) a (by simpa using ha) (H.refl a ha) h2
  exact H.trans _ _ _ (by simpa using hc) hb ha k h1

/-- THE NORMAL FORM SAYS WHAT THE LABEL SAYS. -/
theorem under_norm (H : Pre n R) (l : List (Int × Int)) : ∀ (k a who : Nat), cntUp n R a ≤ k → a < n → who < n → underP R n (norm R n l) a who = underP R n l a who
  | 0, a, who, hk, ha, hw => by
    have : 0 < cntUp n R a := by unfold cntUp; rw [List.countP_pos_iff]; exact ⟨a, by simpa using ha, H.refl a ha⟩
    omega
  | k + 1, a, who, hk, ha, hw => by
    rw [Bool.eq_iff_iff, under_norm_iff H hw]
    constructor
    · intro h
      have strict : ∀ b, b < n → R b a = true → R a b = false → underP R n l b who = true := fun b hb h1 h2 => by
        have lt := cntUp_lt H ha hb h1 h2
        rw [← under_norm H l k b who (by omega) hb hw, under_norm_iff H hw]
        exact fun b' hb' hk' hR => h b' hb' hk' (H.trans _ _ _ hb' hb ha hR h1)
      obtain ⟨f, hf, r1, r2, r3⟩ := first_rep H ha
      by_cases hkf : kept R n l f = true
      · rcases h f hf hkf r2 with z | z
        · rw [underP_iff]
          intro p hp hc
          have c := (counts_iff p a).1 hc
          have ho : p.1.toNat < n := by omega
          by_cases hao : R a p.1.toNat = true
          · rw [letsP_iff]
            exact .inl (H.trans _ _ _ hw ha ho (H.trans _ _ _ hw hf ha z r2) hao)
          · have so := strict _ ho c.2 (by simpa using hao)
            rw [underP_iff] at so
            exact so p hp ((counts_iff p _).2 ⟨c.1, H.refl _ ho⟩)
        · exact underP_mono H hf ha r1 z
      · have e : under R n l f = above R n l f := by
          unfold kept at hkf
          rw [r3] at hkf
          simpa using hkf
        refine underP_mono H hf ha r1 ?_
        unfold under above at e
        rw [mask_inj e who hw]
        unfold aboveP
        rw [List.all_eq_true]
        intro b hb
        have hb' : b < n := by simpa using hb
        cases e1 : R b f
        · simp
        · cases e2 : R f b
          · simp only [Bool.not_false, Bool.and_true, Bool.not_true, Bool.false_or]
            refine strict b hb' (H.trans _ _ _ hb' hf ha e1 r2) ?_
            cases e3 : R a b
            · rfl
            · rw [H.trans _ _ _ hf ha hb' r2 e3] at e2; cases e2
          · simp
    · intro h b hb hkb hba
      exact .inr (underP_mono H ha hb hba h)

theorem under_norm' (H : Pre n R) (l : List (Int × Int)) {a who : Nat} (ha : a < n) (hw : who < n) : underP R n (norm R n l) a who = underP R n l a who := under_norm H l _ a who (Nat.le_refl _) ha hw

theorem norm_ext (h : ∀ a who, a < n → who < n → underP R n l a who = underP R n m a who) : norm R n l = norm R n m := by
  have hu : ∀ a, a < n → under R n l a = under R n m a := fun a ha => mask_ext fun w hw => h a w ha hw
  have hab : ∀ a, a < n → above R n l a = above R n m a := fun a ha => mask_ext fun w hw => by
    unfold aboveP
    rw [Bool.eq_iff_iff, List.all_eq_true, List.all_eq_true]
    constructor <;> (intro k b hb; have := k b hb; have hb' : b < n := List.mem_range.1 hb)
    · rw [← h b w hb' hw]; exact this
    · rw [h b w hb' hw]; exact this
  unfold norm normTo
  have e1 : (List.range n).filter (kept R n l) = (List.range n).filter (kept R n m) := by
    apply List.filter_congr
    intro a ha
    have ha' : a < n := List.mem_range.1 ha
    unfold kept
    rw [hu a ha', hab a ha']
  rw [e1]
  apply List.map_congr_left
  intro a ha
  have ha' : a < n := List.mem_range.1 (List.mem_filter.1 ha).1
  rw [hu a ha']

theorem flows_iff : flows R n l m = true ↔ ∀ a who, a < n → who < n → underP R n m a who = true → underP R n l a who = true := by
  unfold flows
  rw [List.all_eq_true]
  constructor
  · intro h a w ha hw k
    have := h a (List.mem_range.2 ha)
    rw [List.all_eq_true] at this
    have := this w (List.mem_range.2 hw)
    rw [k] at this
    simpa using this
  · intro h a ha
    rw [List.all_eq_true]
    intro w hw
    have := h a w (List.mem_range.1 ha) (List.mem_range.1 hw)
    revert this
    cases underP R n m a w <;> cases underP R n l a w <;> simp

theorem reads_iff {who : Nat} : reads R n who l = true ↔ ∀ a, a < n → underP R n l a who = true := by
  unfold reads
  rw [List.all_eq_true]
  simp only [List.mem_range]

theorem underP_append (a who : Nat) : underP R n (l ++ m) a who = (underP R n l a who && underP R n m a who) := by
  unfold underP; rw [List.all_append]

theorem flows_refl : flows R n l l = true := flows_iff.2 fun _ _ _ _ h => h

theorem flows_norm (H : Pre n R) : flows R n l (norm R n l) = true := flows_iff.2 fun a w ha hw h => by rwa [under_norm' H l ha hw] at h

theorem norm_flows (H : Pre n R) : flows R n (norm R n l) l = true := flows_iff.2 fun a w ha hw h => by rwa [under_norm' H l ha hw]

theorem norm_norm (H : Pre n R) : norm R n (norm R n l) = norm R n l := norm_ext fun a w ha hw => under_norm' H l ha hw

theorem norm_eq_iff (H : Pre n R) : norm R n l = norm R n m ↔ flows R n l m = true ∧ flows R n m l = true := by
  rw [flows_iff, flows_iff]
  constructor
  · intro e
    have k : ∀ a w, a < n → w < n → underP R n l a w = underP R n m a w := fun a w ha hw => by rw [← under_norm' H l ha hw, e, under_norm' H m ha hw]
    exact ⟨fun a w ha hw h => by rw [k a w ha hw]; exact h, fun a w ha hw h => by rw [← k a w ha hw]; exact h⟩
  · rintro ⟨h1, h2⟩
    exact norm_ext fun a w ha hw => by rw [Bool.eq_iff_iff]; exact ⟨h2 a w ha hw, h1 a w ha hw⟩

theorem flows_trans {k : List (Int × Int)} (h1 : flows R n l m = true) (h2 : flows R n m k = true) : flows R n l k = true := by
  rw [flows_iff] at *
  exact fun a w ha hw h => h1 a w ha hw (h2 a w ha hw h)

theorem flows_join_left (H : Pre n R) : flows R n l (norm R n (l ++ m)) = true := flows_iff.2 fun a w ha hw h => by
  rw [under_norm' H _ ha hw, underP_append, Bool.and_eq_true] at h; exact h.1

theorem flows_join_right (H : Pre n R) : flows R n m (norm R n (l ++ m)) = true := flows_iff.2 fun a w ha hw h => by
  rw [under_norm' H _ ha hw, underP_append, Bool.and_eq_true] at h; exact h.2

theorem join_swap (H : Pre n R) : norm R n (l ++ m) = norm R n (m ++ l) := norm_ext fun a w _ _ => by rw [underP_append, underP_append, Bool.and_comm]

theorem join_least (H : Pre n R) (k : List (Int × Int)) : flows R n (norm R n (l ++ m)) k = (flows R n l k && flows R n m k) := by
  rw [Bool.eq_iff_iff, Bool.and_eq_true, flows_iff, flows_iff, flows_iff]
  constructor
  · intro h
    exact ⟨fun a w ha hw z => by have := h a w ha hw z; rw [under_norm' H _ ha hw, underP_append, Bool.and_eq_true] at this; exact this.1, fun a w ha hw z => by have := h a w ha hw z; rw [under_norm' H _ ha hw, underP_append, Bool.and_eq_true] at this; exact this.2⟩
  · rintro ⟨h1, h2⟩ a w ha hw z
    rw [under_norm' H _ ha hw, underP_append, Bool.and_eq_true]
    exact ⟨h1 a w ha hw z, h2 a w ha hw z⟩

theorem flows_nil : flows R n [] l = true := flows_iff.2 fun a w _ _ _ => rfl

theorem readsB_nat {who : Nat} (hw : who < n) : readsB R n (who : Int) l = reads R n who l := by
  unfold readsB; rw [decide_eq_true (by omega)]; simp

theorem reads_join (H : Pre n R) {who : Nat} (hw : who < n) : reads R n who (norm R n (l ++ m)) = (reads R n who l && reads R n who m) := by
  rw [Bool.eq_iff_iff, Bool.and_eq_true, reads_iff, reads_iff, reads_iff]
  constructor
  · intro h
    exact ⟨fun a ha => by have := h a ha; rw [under_norm' H _ ha hw, underP_append, Bool.and_eq_true] at this; exact this.1, fun a ha => by have := h a ha; rw [under_norm' H _ ha hw, underP_append, Bool.and_eq_true] at this; exact this.2⟩
  · rintro ⟨h1, h2⟩ a ha
    rw [under_norm' H _ ha hw, underP_append, Bool.and_eq_true]
    exact ⟨h1 a ha, h2 a ha⟩

theorem reads_nil {who : Nat} : reads R n who [] = true := reads_iff.2 fun _ _ => rfl

theorem reads_flows {who : Nat} (hw : who < n) (h1 : flows R n l m = true) (h2 : reads R n who m = true) : reads R n who l = true := by
  rw [reads_iff] at *
  rw [flows_iff] at h1
  exact fun a ha => h1 a who ha hw (h2 a ha)

theorem rbit_zero (r : Nat) : rbit 0 r = false := by unfold rbit; simp

theorem underP_own {a k who : Nat} (ha : a < n) : underP R n [((a : Int), 0)] k who = (!R a k || R who a) := by
  unfold underP counts letsP
  have : ((List.range n).any fun r => rbit 0 r && R who r) = false := by rw [List.any_eq_false]; intro r _; rw [rbit_zero]; simp
  simp [this, ha]

theorem reads_own (H : Pre n R) {a b : Nat} (ha : a < n) (hb : b < n) : reads R n b [((a : Int), 0)] = R b a := by
  rw [Bool.eq_iff_iff, reads_iff]
  constructor
  · intro h
    have := h a ha
    rw [underP_own ha, H.refl a ha] at this
    simpa using this
  · intro h k _
    rw [underP_own ha, h]; simp

theorem flows_own (H : Pre n R) {a b : Nat} (ha : a < n) (hb : b < n) : flows R n [((a : Int), 0)] [((b : Int), 0)] = R b a := by
  rw [Bool.eq_iff_iff, flows_iff]
  constructor
  · intro h
    have := h a b ha hb
    rw [underP_own ha, underP_own hb, H.refl a ha, H.refl b hb] at this
    simpa using this
  · intro h k w hk hw
    rw [underP_own ha, underP_own hb]
    intro z
    cases e : R a k
    · rfl
    · have : R b k = true := H.trans _ _ _ hb ha hk h e
      rw [this] at z
      have z' : R w b = true := by simpa using z
      rw [H.trans _ _ _ hw hb ha z' h]; rfl

end Sec
