/-
  SMALL WORDS FOR THE WALKS: bits on int; cells behind stores and new blocks; what an order of package label looks like in memory.
-/
import Derived.Test.YtffmpkgggmoadaaRows
import Derived.Test.YtffmpkgggmoadaaPlain
import Derived.WalkKit
import Derived.ProofKit
import Derived.OpenShut
import Derived.Outline
import Derived.WalkLawsBesides
import Derived.WalkSpells
import Derived.RegionTactic
import Derived.Deep.QuietTactic
import Derived.Deep.LoopGhost
import Derived.Deep.OwnRows
import Derived.Deep.DeepMust
import Derived.Deep.DeepFit
import Derived.BigQuiet
import Derived.BigRegion
import Derived.Lib.Hide
import Derived.Deep.AppendLies
import Derived.Deep.RegionHeld3
import Derived.Deep.RegionLaw
import Derived.Deep.RegionWith
import Derived.Deep.DrawnRows
import Derived.Deep.DeepCutAuto
import Derived.Carry
namespace Go.Proofs.Ytffmpkgggmoadaa
open Go.ChangeShapes Go.WideShapes Go.ChangeAt Go.RowKit Go.Deep

theorem ofInt_i64 (a : Nat) (ha : a < 18446744073709551616) : (BitVec.ofInt 64 (a : Int)).toNat = a := by
  rw [BitVec.ofInt_natCast, BitVec.toNat_ofNat]; exact Nat.mod_eq_of_lt (by omega)

theorem wrap_i64_nat (x : Nat) (h : x < 9223372036854775808) : IntKind.i64.wrap (x : Int) = (x : Int) := by
  rw [IntKind.wrap_i64]; omega

theorem and_nat (a b : Nat) (ha : a < 9223372036854775808) (hb : b < 9223372036854775808) : bits .and .i64 (a : Int) (b : Int) = ((a &&& b : Nat) : Int) := by
  have hx : a &&& b < 2 ^ 63 := Nat.and_lt_two_pow _ (by omega)
  show IntKind.i64.wrap ((BitVec.ofInt 64 (a : Int) &&& BitVec.ofInt 64 (b : Int)).toNat : Int) = _
  rw [BitVec.toNat_and, ofInt_i64 a (by omega), ofInt_i64 b (by omega)]
  exact wrap_i64_nat _ (by omega)

theorem or_nat (a b : Nat) (ha : a < 9223372036854775808) (hb : b < 9223372036854775808) : bits .or .i64 (a : Int) (b : Int) = ((a ||| b : Nat) : Int) := by
  have hx : a ||| b < 2 ^ 63 := Nat.or_lt_two_pow (by omega) (by omega)
  show IntKind.i64.wrap ((BitVec.ofInt 64 (a : Int) ||| BitVec.ofInt 64 (b : Int)).toNat : Int) = _
  rw [BitVec.toNat_or, ofInt_i64 a (by omega), ofInt_i64 b (by omega)]
  exact wrap_i64_nat _ (by omega)

theorem and_one (x : Int) : bits .and .i64 x 1 = x % 2 := by
  show IntKind.i64.wrap ((BitVec.ofInt 64 x &&& BitVec.ofInt 64 1).toNat : Int) = _
  rw [BitVec.toNat_and, show (BitVec.ofInt 64 1).toNat = 1 from rfl, Nat.and_one_is_mod, BitVec.toNat_ofInt]
  rw [wrap_i64_nat _ (by omega)]
  omega

theorem bit_nat (x a : Nat) : (bits .and .i64 ((x : Int) / 2 ^ a) 1 == 1) = x.testBit a := by
  rw [and_one, Nat.testBit_eq_decide_div_mod_eq]
  have : ((x : Int) / 2 ^ a) % 2 = ((x / 2 ^ a % 2 : Nat) : Int) := by simp
  rw [this, Bool.eq_iff_iff]
  simp only [beq_iff_eq, decide_eq_true_eq]
  omega

theorem bit_int (x : Int) (a : Nat) : (bits .and .i64 (x / 2 ^ a) 1 == 1) = Sec.rbit x a := by
  rw [and_one]; rfl

/-- 2^n for n below 7, as a number. -/
theorem pow_le (n : Nat) (h : n ≤ 6) : 2 ^ n ≤ 64 := Nat.le_trans (Nat.pow_le_pow_right (by omega) h) (by decide)

/-- an order of package label at block b, its row of sets at block g. -/
structure LOrd (w : World) (b g n : Nat) (up : Nat → Nat) : Prop where
  hn : n ≤ 6
  hup : ∀ j, j < n → up j < 2 ^ n
  c0 : w.cell? ⟨b, 0, none⟩ = some (.int .i64 n)
  c1 : w.cell? ⟨b, 1, none⟩ = some (.slice (some ⟨g, 0, none⟩) n n)
  row : ∀ j, j < n → w.cell? ⟨g, j, none⟩ = some (.int .i64 (up j : Int))
  hg : g < w.heap.size

theorem LOrd.up63 {w : World} {b g n : Nat} {up : Nat → Nat} (h : LOrd w b g n up) : ∀ j, j < n → up j < 64 := fun j hj => Nat.lt_of_lt_of_le (h.hup j hj) (pow_le n h.hn)

theorem LOrd.below {w w' : World} {b g n : Nat} {up : Nat → Nat} (h : LOrd w b g n up) (k : Below w.heap.size w w') : LOrd w' b g n up := by
  have hb : b < w.heap.size := World.block_lt_of_cell? w _ h.c0
  exact ⟨h.hn, h.hup, (k.cell (p := ⟨b, 0, none⟩) hb).trans h.c0, (k.cell (p := ⟨b, 1, none⟩) hb).trans h.c1, fun j hj => (k.cell (p := ⟨g, j, none⟩) h.hg).trans (h.row j hj), Nat.lt_of_lt_of_le h.hg k.size⟩

/-- nothing that was there has turned; there may be more. -/
abbrev New (w w' : World) : Prop := Below w.heap.size w w'

theorem New.drewN (w : World) (n : Nat) : New w (w.drewN n) := ⟨rfl, rfl, rfl, Nat.le_refl _, fun _ _ => rfl⟩

theorem New.trans {a b c : World} (h : New a b) (k : New b c) : New a c := Below.trans h (Below.mono k h.size)

/-- WHAT THE WALK IS TOLD OF A SLICE OF INTEGERS THAT CAME IN: it is nil; or it leads to a row of 'cap' cells, the numbers 'zs' (the first 'len' are its elements, the rest its spare room). -/
def IsRow (k : IntKind) (w : World) (a : Option Addr) (len cap : Nat) (zs : List Int) : Prop :=
  (a = none ∧ len = 0 ∧ cap = 0 ∧ zs = []) ∨
  ∃ x, a = some x ∧ len ≤ cap ∧ cap ≤ maxLen ∧ zs.length = cap ∧ (∀ i, i < zs.length → w.cell? (x.add i) = some (.int k (zs.getD i 0))) ∧ ∀ n ∈ zs, (Lit.int k n).wf = true

theorem IsRow.get {w : World} {a : Option Addr} {len cap : Nat} {zs : List Int} (h : IsRow .i64 w a len cap zs) (hl : 0 < len) :
    ∃ b off, a = some ⟨b, off, none⟩ ∧ b < w.heap.size ∧ ∀ i, i < len → w.cell? ⟨b, off + i, none⟩ = some (.int .i64 (zs.getD i 0)) := by
  rcases h with ⟨rfl, rfl, rfl, rfl⟩ | ⟨x, rfl, h1, h2, h3, h4, h5⟩
  · omega
  · obtain ⟨b, off, spot⟩ := x
    have hc := h4 0 (by omega)
    have hs : spot = none := by simpa [Addr.add] using World.cell?_spot hc
    subst hs
    refine ⟨b, off, rfl, ?_, fun i hi => ?_⟩
    · exact World.block_lt_of_cell? w _ (show w.cell? ⟨b, off, none⟩ = _ by simpa [Addr.add] using hc)
    · have := h4 i (by omega)
      have e : (⟨b, off, none⟩ : Addr).add i = ⟨b, off + i, none⟩ := by unfold Addr.add; split <;> simp_all
      rwa [e] at this

theorem IsRow.len_le {k : IntKind} {w : World} {a : Option Addr} {len cap : Nat} {zs : List Int} (h : IsRow k w a len cap zs) : len ≤ zs.length := by
  rcases h with ⟨rfl, rfl, rfl, rfl⟩ | ⟨x, rfl, h1, h2, h3, h4, h5⟩
  · simp
  · omega

theorem IsRow.below {k : IntKind} {w w' : World} {a : Option Addr} {len cap : Nat} {zs : List Int} (h : IsRow k w a len cap zs) (hb : New w w') : IsRow k w' a len cap zs := by
  rcases h with h | ⟨x, h0, h1, h2, h3, h4, h5⟩
  · exact .inl h
  · refine .inr ⟨x, h0, h1, h2, h3, fun i hi => ?_, h5⟩
    have := h4 i hi
    exact (hb.cell (World.block_lt_of_cell? w _ this)).trans this

theorem heap_new' (w : World) (o : Obj) (n : Nat) (h : n = w.heap.size) : (w.alloc o).heap[n]? = some o := by subst h; exact heap_alloc_new w o

theorem info_int : (Try.prog.info? 3).map (fun i => (i.zero, i.size, i.bytes)) = some (some (.int .i64 0), 1, 8) := by kernel_rfl

theorem cell_made (w : World) (e : TypeId) (z : Value) (n j : Nat) (h : j < n) : (w.alloc (.cells (madeCells #[z] n) e)).cell? ⟨w.heap.size, j, none⟩ = some z := by
  rw [World.cell?_alloc_at _ _ _ _ rfl]
  rw [← Array.getElem?_toList, toList_madeCells_one]
  simp [h]

end Go.Proofs.Ytffmpkgggmoadaa
