/-
  PLAIN LEAN: what package label reckons, step by step, against what it is to say.
-/
import Derived.Test.YtffmpkgggmoadaaPlain
namespace Sec

def rel (up : Nat → Nat) : Nat → Nat → Bool := fun x y => (up y).testBit x

def wideTo (up : Nat → Nat) (o : Nat) (rd : Int) : Nat → Nat
  | 0 => up o
  | k + 1 => if rbit rd k = true then wideTo up o rd k ||| up k else wideTo up o rd k

theorem wideTo_lt {up : Nat → Nat} {n o : Nat} {rd : Int} (h : ∀ j, j < n → up j < 2 ^ n) (ho : o < n) : ∀ k, k ≤ n → wideTo up o rd k < 2 ^ n
  | 0, _ => h o ho
  | k + 1, hk => by
    rw [wideTo]
    split
    · exact Nat.or_lt_two_pow (wideTo_lt h ho k (by omega)) (h k (by omega))
    · exact wideTo_lt h ho k (by omega)

theorem wideTo_bit {up : Nat → Nat} {o : Nat} {rd : Int} (who : Nat) : ∀ k, (wideTo up o rd k).testBit who = ((up o).testBit who || (List.range k).any fun r => rbit rd r && (up r).testBit who)
  | 0 => by simp [wideTo]
  | k + 1 => by
    rw [wideTo, List.range_succ, List.any_append]
    have ih := wideTo_bit (up := up) (o := o) (rd := rd) who k
    by_cases e : rbit rd k = true
    · rw [if_pos e, Nat.testBit_or, ih]; simp [e, Bool.or_assoc]
    · rw [if_neg e, ih]; simp [e]

theorem wideTo_eq {up : Nat → Nat} {n : Nat} {p : Int × Int} (h : ∀ j, j < n → up j < 2 ^ n) (ho : p.1.toNat < n) : wideTo up p.1.toNat p.2 n = mask n (letsP (rel up) n p) := by
  rw [eq_mask (wideTo_lt (rd := p.2) h ho n (Nat.le_refl _))]
  apply mask_ext
  intro who _
  rw [wideTo_bit]
  rfl

theorem under_snoc {R : Nat → Nat → Bool} {n : Nat} {l : List (Int × Int)} {i : Nat} (hi : i < l.length) (a : Nat) :
    under R n (l.take (i + 1)) a = if counts R n (l.getD i (0, 0)) a = true then under R n (l.take i) a &&& mask n (letsP R n (l.getD i (0, 0))) else under R n (l.take i) a := by
  have e : ∀ who, underP R n (l.take (i + 1)) a who = (underP R n (l.take i) a who && (!counts R n (l.getD i (0, 0)) a || letsP R n (l.getD i (0, 0)) who)) := by
    intro who
    unfold underP
    rw [take_snoc l i (0, 0) hi, List.all_append]
    simp
  unfold under
  split
  · rename_i c
    rw [mask_and]
    apply mask_ext
    intro who _
    rw [e, c]; simp
  · rename_i c
    apply mask_ext
    intro who _
    have c' : counts R n (l.getD i (0, 0)) a = false := by simpa using c
    rw [e, c', Bool.not_false, Bool.true_or, Bool.and_true]

theorem under_nil (R : Nat → Nat → Bool) (n : Nat) (a : Nat) : under R n [] a = 2 ^ n - 1 := by
  rw [← mask_all]; rfl

def aboveTo (R : Nat → Nat → Bool) (n : Nat) (l : List (Int × Int)) (a k : Nat) : Nat := mask n fun who => (List.range k).all fun b => !(R b a && !R a b) || underP R n l b who

theorem aboveTo_zero (R : Nat → Nat → Bool) (n : Nat) (l : List (Int × Int)) (a : Nat) : aboveTo R n l a 0 = 2 ^ n - 1 := by
  rw [← mask_all]; rfl

theorem aboveTo_succ (R : Nat → Nat → Bool) (n : Nat) (l : List (Int × Int)) (a k : Nat) :
    aboveTo R n l a (k + 1) = if (R k a && !R a k) = true then aboveTo R n l a k &&& under R n l k else aboveTo R n l a k := by
  unfold aboveTo under
  split
  · rename_i c
    rw [mask_and]
    apply mask_ext
    intro who _
    rw [List.range_succ, List.all_append, List.all_cons, List.all_nil, c, Bool.not_true, Bool.false_or, Bool.and_true]
  · rename_i c
    apply mask_ext
    intro who _
    have c' : (R k a && !R a k) = false := by simpa using c
    rw [List.range_succ, List.all_append, List.all_cons, List.all_nil, c', Bool.not_false, Bool.true_or, Bool.and_true, Bool.and_true]

theorem aboveTo_end (R : Nat → Nat → Bool) (n : Nat) (l : List (Int × Int)) (a : Nat) : aboveTo R n l a n = above R n l a := rfl

theorem aboveTo_lt (R : Nat → Nat → Bool) (n : Nat) (l : List (Int × Int)) (a k : Nat) : aboveTo R n l a k < 2 ^ n := mask_lt _ _

theorem under_lt (R : Nat → Nat → Bool) (n : Nat) (l : List (Int × Int)) (a : Nat) : under R n l a < 2 ^ n := mask_lt _ _

def firstN (R : Nat → Nat → Bool) (a : Nat) : Nat := ((List.range a).find? fun b => R a b && R b a).getD a

theorem find_range {p : Nat → Bool} {n : Nat} : (List.range n).find? p = none ↔ ∀ b, b < n → p b = false := by simp

theorem firstN_hit {R : Nat → Nat → Bool} {a b : Nat} (hb : b < a) (hno : ∀ c, c < b → (R a c && R c a) = false) (h : (R a b && R b a) = true) : firstN R a = b := by
  unfold firstN
  have : (List.range a).find? (fun b => R a b && R b a) = some b := by
    rw [List.find?_range_eq_some]
    refine ⟨h, by simpa using hb, fun c hc => ?_⟩
    have := hno c hc
    simp [this]
  rw [this]; rfl

theorem firstN_none {R : Nat → Nat → Bool} {a : Nat} (hno : ∀ c, c < a → (R a c && R c a) = false) : firstN R a = a := by
  unfold firstN
  rw [find_range.2 hno]; rfl

theorem firstN_eq (R : Nat → Nat → Bool) (a : Nat) : (firstN R a == a) = firstP R a := by
  by_cases h : ∀ c, c < a → (R a c && R c a) = false
  · rw [firstN_none h]
    have : firstP R a = true := by unfold firstP; rw [List.all_eq_true]; intro c hc; rw [h c (by simpa using hc)]; rfl
    rw [this]; simp
  · have hq : firstP R a = false := by
      rw [Bool.eq_false_iff]; intro k; apply h; intro c hc
      unfold firstP at k; rw [List.all_eq_true] at k
      have := k c (by simpa using hc)
      revert this
      cases (R a c && R c a) <;> simp
    rw [hq]
    have hf : firstN R a < a := by
      unfold firstN
      cases e : (List.range a).find? (fun b => R a b && R b a) with
      | none => exact absurd (find_range.1 e) h
      | some b => have := List.mem_of_find?_eq_some e; simpa using this
    simp; omega

theorem firstN_lt {R : Nat → Nat → Bool} (a : Nat) : firstN R a ≤ a := by
  unfold firstN
  cases e : (List.range a).find? (fun b => R a b && R b a) with
  | none => simp
  | some b => have := List.mem_of_find?_eq_some e; simp at this; simp; omega

theorem letsP_congr {R S : Nat → Nat → Bool} {n : Nat} (h : ∀ a b, a < n → b < n → R a b = S a b) {p : Int × Int} (hp : p.1.toNat < n) {who : Nat} (hw : who < n) : letsP R n p who = letsP S n p who := by
  unfold letsP
  rw [h who _ hw hp]
  congr 1
  rw [Bool.eq_iff_iff, List.any_eq_true, List.any_eq_true]
  constructor <;> (rintro ⟨r, hr, e⟩; refine ⟨r, hr, ?_⟩; have hr' : r < n := by simpa using hr)
  · rw [← h who r hw hr']; exact e
  · rw [h who r hw hr']; exact e

theorem underP_congr {R S : Nat → Nat → Bool} {n : Nat} (h : ∀ a b, a < n → b < n → R a b = S a b) (l : List (Int × Int)) {a who : Nat} (ha : a < n) (hw : who < n) : underP R n l a who = underP S n l a who := by
  unfold underP
  rw [Bool.eq_iff_iff, List.all_eq_true, List.all_eq_true]
  have key : ∀ p, (!counts R n p a || letsP R n p who) = (!counts S n p a || letsP S n p who) := by
    intro p
    unfold counts
    by_cases c : 0 ≤ p.1 ∧ p.1 < n
    · have hp : p.1.toNat < n := by omega
      rw [h _ a hp ha, letsP_congr h hp hw]
    · simp [c]
  constructor <;> (intro k p hp; have := k p hp)
  · rw [← key]; exact this
  · rw [key]; exact this

theorem under_congr {R S : Nat → Nat → Bool} {n : Nat} (h : ∀ a b, a < n → b < n → R a b = S a b) (l : List (Int × Int)) {a : Nat} (ha : a < n) : under R n l a = under S n l a := mask_ext fun _ hw => underP_congr h l ha hw

theorem firstP_congr {R S : Nat → Nat → Bool} {n : Nat} (h : ∀ a b, a < n → b < n → R a b = S a b) {a : Nat} (ha : a < n) : firstP R a = firstP S a := by
  unfold firstP
  rw [Bool.eq_iff_iff, List.all_eq_true, List.all_eq_true]
  constructor <;> (intro k b hb; have := k b hb; have hb' : b < a := by simpa using hb)
  · rw [← h a b ha (by omega), ← h b a (by omega) ha]; exact this
  · rw [h a b ha (by omega), h b a (by omega) ha]; exact this

theorem above_congr {R S : Nat → Nat → Bool} {n : Nat} (h : ∀ a b, a < n → b < n → R a b = S a b) (l : List (Int × Int)) {a : Nat} (ha : a < n) : above R n l a = above S n l a := by
  apply mask_ext
  intro who hw
  unfold aboveP
  rw [Bool.eq_iff_iff, List.all_eq_true, List.all_eq_true]
  constructor <;> (intro k b hb; have := k b hb; have hb' : b < n := by simpa using hb)
  · rw [← h a b ha hb', ← h b a hb' ha, ← underP_congr h l hb' hw]; exact this
  · rw [h a b ha hb', h b a hb' ha, underP_congr h l hb' hw]; exact this

theorem norm_congr {R S : Nat → Nat → Bool} {n : Nat} (h : ∀ a b, a < n → b < n → R a b = S a b) (l : List (Int × Int)) : norm R n l = norm S n l := by
  unfold norm normTo
  have e1 : (List.range n).filter (kept R n l) = (List.range n).filter (kept S n l) := by
    apply List.filter_congr
    intro a ha
    have ha' : a < n := by simpa using ha
    unfold kept
    rw [firstP_congr h ha', under_congr h l ha', above_congr h l ha']
  rw [e1]
  apply List.map_congr_left
  intro a ha
  have ha' : a < n := by have := (List.mem_filter.1 ha).1; simpa using this
  rw [under_congr h l ha']

theorem flows_congr {R S : Nat → Nat → Bool} {n : Nat} (h : ∀ a b, a < n → b < n → R a b = S a b) (l m : List (Int × Int)) : flows R n l m = flows S n l m := by
  unfold flows
  rw [Bool.eq_iff_iff, List.all_eq_true, List.all_eq_true]
  constructor <;> (intro k a ha; have k2 := k a ha; rw [List.all_eq_true] at k2 ⊢; intro w hw; have k3 := k2 w hw; have ha' : a < n := List.mem_range.1 ha; have hw' : w < n := List.mem_range.1 hw)
  · rw [← underP_congr h l ha' hw', ← underP_congr h m ha' hw']; exact k3
  · rw [underP_congr h l ha' hw', underP_congr h m ha' hw']; exact k3

theorem reads_congr {R S : Nat → Nat → Bool} {n : Nat} (h : ∀ a b, a < n → b < n → R a b = S a b) (l : List (Int × Int)) {who : Nat} (hw : who < n) : reads R n who l = reads S n who l := by
  unfold reads
  rw [Bool.eq_iff_iff, List.all_eq_true, List.all_eq_true]
  constructor <;> (intro k a ha; have k2 := k a ha; have ha' : a < n := by simpa using ha)
  · rw [← underP_congr h l ha' hw]; exact k2
  · rw [underP_congr h l ha' hw]; exact k2

end Sec
