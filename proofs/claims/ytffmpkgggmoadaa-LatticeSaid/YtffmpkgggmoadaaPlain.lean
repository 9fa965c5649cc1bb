/-
  PLAIN LEAN, no program in sight: bit masks; the closure of an order; policies, what they let read, normal forms.
-/
namespace Sec

/-- the bits k < n at which f says yes. -/
def mask : Nat → (Nat → Bool) → Nat
  | 0, _ => 0
  | n + 1, f => mask n f + (if f n then 2 ^ n else 0)

theorem mask_lt (n : Nat) (f : Nat → Bool) : mask n f < 2 ^ n := by
  induction n with
  | zero => simp [mask]
  | succ n ih => rw [mask, Nat.pow_succ]; split <;> omega

theorem testBit_mask (n : Nat) (f : Nat → Bool) (i : Nat) : (mask n f).testBit i = (decide (i < n) && f i) := by
  induction n with
  | zero => simp [mask]
  | succ n ih =>
    have hl := mask_lt n f
    rw [mask]
    by_cases hf : f n = true
    · rw [if_pos hf, Nat.add_comm]
      rcases Nat.lt_trichotomy i n with h | h | h
      · rw [Nat.testBit_two_pow_add_gt h, ih]; simp [h, Nat.lt_succ_of_lt h]
      · subst h; rw [Nat.testBit_two_pow_add_eq, ih]; simp [hf]
      · have : (2 ^ n + mask n f).testBit i = false := Nat.testBit_lt_two_pow (by
          have h2 : 2 ^ (n + 1) ≤ 2 ^ i := Nat.pow_le_pow_right (by omega) h
          rw [Nat.pow_succ] at h2; omega)
        rw [this]; simp [show ¬ i < n + 1 by omega]
    · rw [if_neg hf, Nat.add_zero, ih]
      by_cases h : i = n
      · subst h; simp [hf]
      · by_cases h2 : i < n
        · simp [h2, Nat.lt_succ_of_lt h2]
        · simp [h2, show ¬ i < n + 1 by omega]

theorem mask_ext {n : Nat} {f g : Nat → Bool} (h : ∀ i, i < n → f i = g i) : mask n f = mask n g := by
  induction n with
  | zero => rfl
  | succ n ih => rw [mask, mask, ih fun i hi => h i (by omega), h n (by omega)]

theorem mask_inj {n : Nat} {f g : Nat → Bool} (h : mask n f = mask n g) (i : Nat) (hi : i < n) : f i = g i := by
  have := congrArg (fun x => x.testBit i) h
  simpa [testBit_mask, hi] using this

theorem mask_eq_iff {n : Nat} {f g : Nat → Bool} : mask n f = mask n g ↔ ∀ i, i < n → f i = g i := ⟨mask_inj, mask_ext⟩

theorem eq_mask {n x : Nat} (h : x < 2 ^ n) : x = mask n x.testBit := by
  apply Nat.eq_of_testBit_eq
  intro i
  rw [testBit_mask]
  by_cases hi : i < n
  · simp [hi]
  · rw [Nat.testBit_lt_two_pow (Nat.lt_of_lt_of_le h (Nat.pow_le_pow_right (by omega) (by omega)))]; simp [hi]

theorem mask_and (n : Nat) (f g : Nat → Bool) : mask n f &&& mask n g = mask n (fun i => f i && g i) := by
  apply Nat.eq_of_testBit_eq; intro i; simp only [Nat.testBit_and, testBit_mask]; cases decide (i < n) <;> simp

theorem mask_or (n : Nat) (f g : Nat → Bool) : mask n f ||| mask n g = mask n (fun i => f i || g i) := by
  apply Nat.eq_of_testBit_eq; intro i; simp only [Nat.testBit_or, testBit_mask]; cases decide (i < n) <;> simp

theorem mask_all (n : Nat) : mask n (fun _ => true) = 2 ^ n - 1 := by
  induction n with
  | zero => rfl
  | succ n ih => rw [mask, ih, if_pos rfl, Nat.pow_succ]; have := Nat.two_pow_pos n; omega

theorem mask_one {n a : Nat} (h : a < n) : mask n (fun i => decide (i = a)) = 2 ^ a := by
  apply Nat.eq_of_testBit_eq; intro i; rw [testBit_mask, Nat.testBit_two_pow]
  by_cases e : i = a
  · subst e; simp [h]
  · simp [e, Ne.symm e]

/-! ### the closure of an order -/

/-- reached by the pairs of B. -/
inductive Tr (B : Nat → Nat → Bool) : Nat → Nat → Prop
  | base {a b : Nat} : B a b = true → Tr B a b
  | step {a b c : Nat} : Tr B a b → Tr B b c → Tr B a c

/-- R holds B, is transitive among the first n, and holds no more than B's closure. -/
structure Closed (n : Nat) (B R : Nat → Nat → Bool) : Prop where
  base : ∀ a b, a < n → b < n → B a b = true → R a b = true
  trans : ∀ a b c, a < n → b < n → c < n → R a b = true → R b c = true → R a c = true
  least : ∀ a b, a < n → b < n → R a b = true → Tr (fun x y => decide (x < n) && decide (y < n) && B x y) a b

theorem Closed.of_tr {n : Nat} {B R : Nat → Nat → Bool} (h : Closed n B R) {a b : Nat} (t : Tr (fun x y => decide (x < n) && decide (y < n) && B x y) a b) : a < n ∧ b < n ∧ R a b = true := by
  induction t with
  | base e => simp at e; exact ⟨e.1.1, e.1.2, h.base _ _ e.1.1 e.1.2 e.2⟩
  | step _ _ ih1 ih2 => exact ⟨ih1.1, ih2.2.1, h.trans _ _ _ ih1.1 ih1.2.1 ih2.2.1 ih1.2.2 ih2.2.2⟩

/-- two closures of one B agree. -/
theorem Closed.eq {n : Nat} {B R S : Nat → Nat → Bool} (h : Closed n B R) (k : Closed n B S) : ∀ a b, a < n → b < n → R a b = S a b := by
  intro a b ha hb
  rw [Bool.eq_iff_iff]
  exact ⟨fun e => (k.of_tr (h.least a b ha hb e)).2.2, fun e => (h.of_tr (k.least a b ha hb e)).2.2⟩

/-- one round through k, of the first a0 columns. -/
def warA (k a0 : Nat) (R : Nat → Nat → Bool) : Nat → Nat → Bool := fun x a => if a < a0 then (R x a || (R k a && R x k)) else R x a

/-- what stands before the round through k. -/
structure War (n k : Nat) (B R : Nat → Nat → Bool) : Prop where
  base : ∀ a b, a < n → b < n → B a b = true → R a b = true
  trans : ∀ a j c, a < n → j < k → c < n → R a j = true → R j c = true → R a c = true
  least : ∀ a b, a < n → b < n → R a b = true → Tr (fun x y => decide (x < n) && decide (y < n) && B x y) a b

theorem War.zero {n : Nat} {B : Nat → Nat → Bool} : War n 0 B B :=
  ⟨fun _ _ _ _ h => h, fun _ _ _ _ hj => by omega, fun a b ha hb h => .base (by simp [ha, hb, h])⟩

theorem War.succ {n k : Nat} {B R : Nat → Nat → Bool} (hk : k < n) (h : War n k B R) : War n (k + 1) B (warA k n R) := by
  refine ⟨fun a b ha hb e => ?_, fun a j c ha hj hc e1 e2 => ?_, fun a b ha hb e => ?_⟩
  · simp [warA, hb, h.base a b ha hb e]
  · have hjn : j < n := by omega
    simp only [warA, hjn, hc, if_true, Bool.or_eq_true, Bool.and_eq_true] at e1 e2 ⊢
    have T := h.trans
    by_cases hjk : j = k
    · subst hjk
      have p1 : R a j = true := by rcases e1 with e | e; exact e; exact e.2
      have p2 : R j c = true := by rcases e2 with e | e; exact e; exact e.1
      exact .inr ⟨p2, p1⟩
    · have hj' : j < k := by omega
      rcases e1 with e1 | ⟨e1, e1'⟩ <;> rcases e2 with e2 | ⟨e2, e2'⟩
      · exact .inl (T a j c ha hj' hc e1 e2)
      · exact .inr ⟨e2, T a j k ha hj' hk e1 e2'⟩
      · exact .inr ⟨T k j c hk hj' hc e1 e2, e1'⟩
      · exact .inr ⟨e2, e1'⟩
  · simp only [warA, hb, if_true, Bool.or_eq_true, Bool.and_eq_true] at e
    rcases e with e | ⟨e, e'⟩
    · exact h.least a b ha hb e
    · exact .step (h.least a k ha hk e') (h.least k b hk hb e)

theorem War.done {n : Nat} {B R : Nat → Nat → Bool} (h : War n n B R) : Closed n B R := ⟨h.base, h.trans, h.least⟩

/-- the pairs that stand in a list, and everybody for itself. -/
def baseOf (n : Nat) (l : List (Int × Int)) : Nat → Nat → Bool := fun a b => decide (a = b) || l.any fun p => decide (p.1 = (a : Int) ∧ p.2 = (b : Int) ∧ a < n ∧ b < n)

/-- the sets by which a relation is kept: up b: all a with R a b. -/
structure Ups (n : Nat) (up : Nat → Nat) (R : Nat → Nat → Bool) : Prop where
  lt : ∀ j, j < n → up j < 2 ^ n
  bit : ∀ a b, a < n → b < n → (up b).testBit a = R a b

theorem Ups.start (n : Nat) : Ups n (fun j => 2 ^ j) (baseOf n []) :=
  ⟨fun j hj => Nat.pow_lt_pow_right (by omega) hj, fun a b _ _ => by simp [baseOf, Nat.testBit_two_pow, eq_comm]⟩

theorem baseOf_take {n : Nat} {l : List (Int × Int)} {i : Nat} (hi : i < l.length) (a b : Nat) :
    baseOf n (l.take (i + 1)) a b = (baseOf n (l.take i) a b || decide ((l.getD i (0, 0)).1 = (a : Int) ∧ (l.getD i (0, 0)).2 = (b : Int) ∧ a < n ∧ b < n)) := by
  have e : l.take (i + 1) = l.take i ++ [l.getD i (0, 0)] := by
    rw [List.take_succ_eq_append_getElem hi]; simp [List.getD, hi]
  unfold baseOf
  rw [e, List.any_append]
  simp only [List.any_cons, List.any_nil, Bool.or_false, Bool.or_assoc]

theorem Ups.pair {n : Nat} {up : Nat → Nat} {l : List (Int × Int)} {i X Y : Nat} (h : Ups n up (baseOf n (l.take i))) (hi : i < l.length) (hX : X < n) (hY : Y < n) (e : l.getD i (0, 0) = ((X : Int), (Y : Int))) :
    Ups n (fun j => if j = Y then up Y ||| 2 ^ X else up j) (baseOf n (l.take (i + 1))) := by
  refine ⟨fun j hj => ?_, fun a b ha hb => ?_⟩
  · split
    · exact Nat.or_lt_two_pow (h.lt Y hY) (Nat.pow_lt_pow_right (by omega) hX)
    · exact h.lt j hj
  · rw [baseOf_take hi, e]
    by_cases eb : b = Y
    · subst eb
      simp only [if_true, Nat.testBit_or, h.bit a b ha hb, Nat.testBit_two_pow]
      congr 1
      by_cases ea : X = a
      · subst ea; simp [ha, hb]
      · have : ¬ ((X : Int) = a) := by omega
        simp [ea, this]
    · simp only [eb, if_false, h.bit a b ha hb]
      have : ¬ ((Y : Int) = b) := by omega
      simp [this]

theorem Ups.nopair {n : Nat} {up : Nat → Nat} {l : List (Int × Int)} {i : Nat} {x y : Int} (h : Ups n up (baseOf n (l.take i))) (hi : i < l.length) (hv : ¬ ((0 ≤ x ∧ x < n) ∧ (0 ≤ y ∧ y < n))) (e : l.getD i (0, 0) = (x, y)) :
    Ups n up (baseOf n (l.take (i + 1))) := by
  refine ⟨h.lt, fun a b ha hb => ?_⟩
  rw [baseOf_take hi, e, h.bit a b ha hb]
  have : decide (x = (a : Int) ∧ y = (b : Int) ∧ a < n ∧ b < n) = false := by simp; omega
  rw [this, Bool.or_false]

theorem Ups.war_yes {n k a : Nat} {up : Nat → Nat} {R : Nat → Nat → Bool} (h : Ups n up (warA k a R)) (ha : a < n) (hk : k < n) (t : (up a).testBit k = true) :
    Ups n (fun j => if j = a then up a ||| up k else up j) (warA k (a + 1) R) := by
  have t' : R k a = true := by have := h.bit k a hk ha; rw [t] at this; simpa [warA] using this.symm
  refine ⟨fun j hj => ?_, fun x b hx hb => ?_⟩
  · split
    · exact Nat.or_lt_two_pow (h.lt a ha) (h.lt k hk)
    · exact h.lt j hj
  · by_cases eb : b = a
    · subst eb
      simp only [if_true, Nat.testBit_or, h.bit x b hx hb, h.bit x k hx hk]
      simp only [warA, Nat.lt_irrefl, if_false, Nat.lt_succ_self, if_true, t', Bool.true_and]
      by_cases hkb : k < b
      · simp [hkb]; cases R x b <;> cases R k k <;> cases R x k <;> rfl
      · simp [hkb]
    · simp only [eb, if_false, h.bit x b hx hb, warA]
      have : b < a + 1 ↔ b < a := by omega
      simp [this]

theorem Ups.war_no {n k a : Nat} {up : Nat → Nat} {R : Nat → Nat → Bool} (h : Ups n up (warA k a R)) (ha : a < n) (hk : k < n) (t : (up a).testBit k = false) : Ups n up (warA k (a + 1) R) := by
  have t' : R k a = false := by have := h.bit k a hk ha; rw [t] at this; simpa [warA] using this.symm
  refine ⟨h.lt, fun x b hx hb => ?_⟩
  rw [h.bit x b hx hb]
  by_cases eb : b = a
  · subst eb; simp [warA, t']
  · have : b < a + 1 ↔ b < a := by omega
    simp [warA, this]

theorem Ups.congr {n : Nat} {up : Nat → Nat} {R S : Nat → Nat → Bool} (h : Ups n up R) (e : ∀ a b, a < n → b < n → R a b = S a b) : Ups n up S := ⟨h.lt, fun a b ha hb => (h.bit a b ha hb).trans (e a b ha hb)⟩

theorem Closed.congr {n : Nat} {B R S : Nat → Nat → Bool} (h : Closed n B R) (e : ∀ a b, a < n → b < n → R a b = S a b) : Closed n B S :=
  ⟨fun a b ha hb k => by rw [← e a b ha hb]; exact h.base a b ha hb k, fun a b c ha hb hc k1 k2 => by rw [← e a c ha hc]; exact h.trans a b c ha hb hc (by rw [e a b ha hb]; exact k1) (by rw [e b c hb hc]; exact k2), fun a b ha hb k => h.least a b ha hb (by rw [e a b ha hb]; exact k)⟩

/-- two by two. -/
def pairsOf : List Int → List (Int × Int)
  | a :: b :: r => (a, b) :: pairsOf r
  | _ => []

theorem pairsOf_len : ∀ (n : Nat) (l : List Int), l.length ≤ n → (pairsOf l).length = l.length / 2
  | _, [], _ => rfl
  | _, [_], _ => by simp [pairsOf]
  | 0, _ :: _ :: _, h => by simp at h
  | n + 1, a :: b :: r, h => by
    have := pairsOf_len n r (by simp at h; omega)
    simp only [pairsOf, List.length_cons, this]; omega

theorem pairsOf_get : ∀ (n : Nat) (l : List Int) (i : Nat), l.length ≤ n → i * 2 + 1 < l.length → (pairsOf l).getD i (0, 0) = (l.getD (i * 2) 0, l.getD (i * 2 + 1) 0)
  | _, [], _, _, h => by simp at h
  | _, [_], i, _, h => by simp at h
  | 0, _ :: _ :: _, _, h, _ => by simp at h
  | n + 1, a :: b :: r, 0, h, _ => by simp [pairsOf]
  | n + 1, a :: b :: r, i + 1, h, k => by
    have := pairsOf_get n r i (by simp at h; omega) (by simp at k; omega)
    rw [show (i + 1) * 2 + 1 = (i * 2 + 1) + 2 by omega, show (i + 1) * 2 = i * 2 + 2 by omega]
    simpa [pairsOf] using this

theorem take_snoc {α : Type} (l : List α) (i : Nat) (d : α) (h : i < l.length) : l.take (i + 1) = l.take i ++ [l.getD i d] := by
  rw [List.take_succ_eq_append_getElem h]; simp [List.getD, h]

/-! ### the reference's closure: passes till nothing changes -/

def cells2 (n : Nat) : List (Nat × Nat) := (List.range n).flatMap fun a => (List.range n).map fun b => (a, b)

theorem mem_cells2 {n a b : Nat} (ha : a < n) (hb : b < n) : (a, b) ∈ cells2 n := by
  unfold cells2; rw [List.mem_flatMap]; exact ⟨a, by simpa using ha, by simpa using hb⟩

/-- how many pairs R does not hold. -/
def gaps (n : Nat) (R : Nat → Nat → Bool) : Nat := (cells2 n).countP fun p => !R p.1 p.2

theorem countP_lt {α : Type} (l : List α) (p q : α → Bool) (h : ∀ x ∈ l, q x = true → p x = true) (x : α) (hx : x ∈ l) (h1 : p x = true) (h2 : q x = false) : l.countP q < l.countP p := by
  induction l with
  | nil => simp at hx
  | cons y r ih =>
    rw [List.countP_cons, List.countP_cons]
    have hle : r.countP q ≤ r.countP p := List.countP_mono_left fun z hz => h z (List.mem_cons_of_mem _ hz)
    rcases List.mem_cons.1 hx with rfl | hx
    · rw [h1, h2]; simp; omega
    · have := ih (fun z hz => h z (List.mem_cons_of_mem _ hz)) hx
      have hy := h y (List.mem_cons_self ..)
      by_cases e : q y = true
      · rw [e, hy e]; simp; omega
      · simp [e]; omega

def setR (R : Nat → Nat → Bool) (a b : Nat) : Nat → Nat → Bool := fun x y => if x = a ∧ y = b then true else R x y

theorem gaps_set {n : Nat} {R : Nat → Nat → Bool} {a b : Nat} (ha : a < n) (hb : b < n) (h : R a b = false) : gaps n (setR R a b) < gaps n R := by
  refine countP_lt _ _ _ (fun p _ hp => ?_) (a, b) (mem_cells2 ha hb) (by simp [h]) (by simp [setR])
  simp only [setR, Bool.not_eq_true'] at hp ⊢
  split at hp
  · cases hp
  · exact hp

/-- within a pass: which triples have been looked at: those ahead of (a, b, c). -/
structure Pass (n : Nat) (B R0 R : Nat → Nat → Bool) (ag : Bool) (a b c : Nat) : Prop where
  up : ∀ x y, x < n → y < n → B x y = true → R x y = true
  least : ∀ x y, x < n → y < n → R x y = true → Tr (fun x y => decide (x < n) && decide (y < n) && B x y) x y
  no : ag = false → gaps n R = gaps n R0 ∧ ∀ x y z, x < n → y < n → z < n → (x < a ∨ x = a ∧ (y < b ∨ y = b ∧ z < c)) → R x y = true → R y z = true → R x z = true
  yes : ag = true → gaps n R < gaps n R0

theorem Pass.start {n : Nat} {B R : Nat → Nat → Bool} (h1 : ∀ x y, x < n → y < n → B x y = true → R x y = true)
    (h2 : ∀ x y, x < n → y < n → R x y = true → Tr (fun x y => decide (x < n) && decide (y < n) && B x y) x y) : Pass n B R R false 0 0 0 :=
  ⟨h1, h2, fun _ => ⟨rfl, fun x y z _ _ _ h => by omega⟩, fun h => by cases h⟩

theorem Pass.skip {n a b c : Nat} {B R0 R : Nat → Nat → Bool} {ag : Bool} (h : Pass n B R0 R ag a b c) (e : (R a b && R b c && !R a c) = false) : Pass n B R0 R ag a b (c + 1) := by
  refine ⟨h.up, h.least, fun k => ⟨(h.no k).1, fun x y z hx hy hz v r1 r2 => ?_⟩, h.yes⟩
  by_cases t : x = a ∧ y = b ∧ z = c
  · obtain ⟨rfl, rfl, rfl⟩ := t
    simpa [r1, r2] using e
  · exact (h.no k).2 x y z hx hy hz (by omega) r1 r2

theorem Pass.hit {n a b c : Nat} {B R0 R : Nat → Nat → Bool} {ag : Bool} (h : Pass n B R0 R ag a b c) (ha : a < n) (hb : b < n) (hc : c < n) (e : (R a b && R b c && !R a c) = true) : Pass n B R0 (setR R a c) true a b (c + 1) := by
  simp only [Bool.and_eq_true, Bool.not_eq_true'] at e
  have hg := gaps_set ha hc e.2
  refine ⟨fun x y hx hy q => ?_, fun x y hx hy q => ?_, (by intro k; cases k), fun _ => ?_⟩
  · simp only [setR]; split
    · rfl
    · exact h.up x y hx hy q
  · simp only [setR] at q; split at q
    · rename_i k; obtain ⟨rfl, rfl⟩ := k; exact .step (h.least x b hx hb e.1.1) (h.least b y hb hy e.1.2)
    · exact h.least x y hx hy q
  · cases ag with
    | true => have := h.yes rfl; omega
    | false => have := (h.no rfl).1; omega

theorem Pass.nextB {n a b : Nat} {B R0 R : Nat → Nat → Bool} {ag : Bool} (h : Pass n B R0 R ag a b n) : Pass n B R0 R ag a (b + 1) 0 :=
  ⟨h.up, h.least, fun k => ⟨(h.no k).1, fun x y z hx hy hz v => (h.no k).2 x y z hx hy hz (by omega)⟩, h.yes⟩

theorem Pass.nextA {n a : Nat} {B R0 R : Nat → Nat → Bool} {ag : Bool} (h : Pass n B R0 R ag a n 0) : Pass n B R0 R ag (a + 1) 0 0 :=
  ⟨h.up, h.least, fun k => ⟨(h.no k).1, fun x y z hx hy hz v => (h.no k).2 x y z hx hy hz (by omega)⟩, h.yes⟩

theorem Pass.closed {n : Nat} {B R0 R : Nat → Nat → Bool} (h : Pass n B R0 R false n 0 0) : Closed n B R :=
  ⟨h.up, fun a b c ha hb hc r1 r2 => (h.no rfl).2 a b c ha hb hc (by omega) r1 r2, h.least⟩

/-- the pairs, one more. -/
theorem baseOf_set {n : Nat} {l : List (Int × Int)} {i X Y : Nat} (hi : i < l.length) (hX : X < n) (hY : Y < n) (e : l.getD i (0, 0) = ((X : Int), (Y : Int))) (a b : Nat) (ha : a < n) (hb : b < n) :
    setR (baseOf n (l.take i)) X Y a b = baseOf n (l.take (i + 1)) a b := by
  rw [baseOf_take hi, e, setR]
  by_cases q : a = X ∧ b = Y
  · obtain ⟨rfl, rfl⟩ := q; simp [ha, hb]
  · rw [if_neg q]
    have : decide ((X : Int) = (a : Int) ∧ (Y : Int) = (b : Int) ∧ a < n ∧ b < n) = false := by simp; omega
    rw [this, Bool.or_false]

theorem baseOf_same {n : Nat} {l : List (Int × Int)} {i : Nat} {x y : Int} (hi : i < l.length) (hv : ¬ ((0 ≤ x ∧ x < n) ∧ (0 ≤ y ∧ y < n))) (e : l.getD i (0, 0) = (x, y)) (a b : Nat) :
    baseOf n (l.take i) a b = baseOf n (l.take (i + 1)) a b := by
  rw [baseOf_take hi, e]
  have : decide (x = (a : Int) ∧ y = (b : Int) ∧ a < n ∧ b < n) = false := by simp; omega
  rw [this, Bool.or_false]

theorem baseOf_nil {n : Nat} (a b : Nat) : baseOf n [] a b = decide (a = b) := by simp [baseOf]

def overB (n : Nat) (R : Nat → Nat → Bool) (a b : Int) : Bool := decide (0 ≤ a ∧ a < n ∧ 0 ≤ b ∧ b < n) && R a.toNat b.toNat

theorem overB_eq {n : Nat} {R S : Nat → Nat → Bool} (h : ∀ a b, a < n → b < n → R a b = S a b) (a b : Int) : overB n R a b = overB n S a b := by
  unfold overB
  by_cases c : 0 ≤ a ∧ a < n ∧ 0 ≤ b ∧ b < n
  · rw [h a.toNat b.toNat (by omega) (by omega)]
  · simp [c]

theorem overB_no {n : Nat} {R : Nat → Nat → Bool} {a b : Int} (h : ¬ (0 ≤ a ∧ a < n ∧ 0 ≤ b ∧ b < n)) : overB n R a b = false := by
  unfold overB; rw [decide_eq_false h]; rfl

theorem overB_nat {n : Nat} {R : Nat → Nat → Bool} {a b : Nat} (ha : a < n) (hb : b < n) : overB n R (a : Int) (b : Int) = R a b := by
  unfold overB; rw [decide_eq_true (by omega)]; simp

/-! ### policies -/

def rbit (x : Int) (r : Nat) : Bool := x / 2 ^ r % 2 == 1

def letsP (R : Nat → Nat → Bool) (n : Nat) (p : Int × Int) (who : Nat) : Bool := R who p.1.toNat || (List.range n).any fun r => rbit p.2 r && R who r

def counts (R : Nat → Nat → Bool) (n : Nat) (p : Int × Int) (a : Nat) : Bool := decide (0 ≤ p.1 ∧ p.1 < n) && R p.1.toNat a

def underP (R : Nat → Nat → Bool) (n : Nat) (l : List (Int × Int)) (a who : Nat) : Bool := l.all fun p => !counts R n p a || letsP R n p who

def under (R : Nat → Nat → Bool) (n : Nat) (l : List (Int × Int)) (a : Nat) : Nat := mask n (underP R n l a)

def firstP (R : Nat → Nat → Bool) (a : Nat) : Bool := (List.range a).all fun b => !(R a b && R b a)

def aboveP (R : Nat → Nat → Bool) (n : Nat) (l : List (Int × Int)) (a who : Nat) : Bool := (List.range n).all fun b => !(R b a && !R a b) || underP R n l b who

def above (R : Nat → Nat → Bool) (n : Nat) (l : List (Int × Int)) (a : Nat) : Nat := mask n (aboveP R n l a)

def kept (R : Nat → Nat → Bool) (n : Nat) (l : List (Int × Int)) (a : Nat) : Bool := firstP R a && !(under R n l a == above R n l a)

def normTo (R : Nat → Nat → Bool) (n : Nat) (l : List (Int × Int)) (k : Nat) : List (Int × Int) := ((List.range k).filter (kept R n l)).map fun (a : Nat) => ((a : Int), (under R n l a : Int))

def norm (R : Nat → Nat → Bool) (n : Nat) (l : List (Int × Int)) : List (Int × Int) := normTo R n l n

def flows (R : Nat → Nat → Bool) (n : Nat) (l m : List (Int × Int)) : Bool := (List.range n).all fun a => (List.range n).all fun who => !underP R n m a who || underP R n l a who

def reads (R : Nat → Nat → Bool) (n : Nat) (who : Nat) (l : List (Int × Int)) : Bool := (List.range n).all fun a => underP R n l a who

theorem normTo_succ (R : Nat → Nat → Bool) (n : Nat) (l : List (Int × Int)) (k : Nat) : normTo R n l (k + 1) = normTo R n l k ++ (if kept R n l k then [((k : Int), (under R n l k : Int))] else []) := by
  unfold normTo
  rw [List.range_succ, List.filter_append, List.map_append]
  by_cases h : kept R n l k = true <;> simp [h]

theorem normTo_len (R : Nat → Nat → Bool) (n : Nat) (l : List (Int × Int)) (k : Nat) : (normTo R n l k).length ≤ k := by
  unfold normTo; rw [List.length_map]; exact Nat.le_trans (List.length_filter_le _ _) (by simp)

end Sec
