/- Plain lemmas: a uint32 as a set of numbers below 32. -/
import Derived.Test.YtehkplafehlkgaaPlib
import Derived.Laws.BitsLemmas
namespace Go.Proofs.YtehkplafehlkgaaW.Plib
open Go.RowKit Go.Proofs.YtehkplafehlkgaaW.PrintWords Go.Proofs.YtehkplafehlkgaaW.PrintMore

theorem wraps_u32 (n : Int) (h0 : 0 ≤ n) (h1 : n < 2 ^ 32) : IntKind.u32.wrap n = n := by rw [u32w]; omega
theorem and32 {a b : Nat} (ha : a < 2 ^ 32) (hb : b < 2 ^ 32) : Go.bits .and .u32 (a : Int) (b : Int) = ((a &&& b : Nat) : Int) := (bits_nat .u32 32 (by decide) wraps_u32 a b ha hb).1
theorem or32 {a b : Nat} (ha : a < 2 ^ 32) (hb : b < 2 ^ 32) : Go.bits .or .u32 (a : Int) (b : Int) = ((a ||| b : Nat) : Int) := (bits_nat .u32 32 (by decide) wraps_u32 a b ha hb).2
theorem shr32 (a q : Nat) (hq : q ≤ 32) : shr .u32 (a : Int) (q : Int) = ((a / 2 ^ q : Nat) : Int) := by
  unfold shr
  rw [Int.toNat_natCast, show IntKind.u32.bits = 32 from rfl, Nat.min_eq_left hq]
  simp
theorem shl1 (q : Nat) (hq : q < 32) : shl .u32 1 (q : Int) = ((2 ^ q : Nat) : Int) := by
  unfold shl
  rw [Int.toNat_natCast, show IntKind.u32.bits = 32 from rfl, Nat.min_eq_left (by omega), Int.one_mul]
  have h : 2 ^ q < 2 ^ 32 := Nat.pow_lt_pow_right (by omega) hq
  rw [show (2 : Int) ^ q = ((2 ^ q : Nat) : Int) by simp]
  exact wraps_u32 _ (Int.natCast_nonneg _) (by exact_mod_cast h)
theorem has32 (a q : Nat) (ha : a < 2 ^ 32) (hq : q < 32) : (Go.bits .and .u32 (shr .u32 (a : Int) (q : Int)) 1 = 1) ↔ a.testBit q = true := by
  rw [shr32 a q (by omega)]
  have h1 : a / 2 ^ q < 2 ^ 32 := Nat.lt_of_le_of_lt (Nat.div_le_self _ _) ha
  rw [show (1 : Int) = ((1 : Nat) : Int) from rfl, and32 h1 (by decide), Int.ofNat_inj, Nat.and_one_is_mod, Nat.testBit_eq_decide_div_mod_eq]
  simp
theorem put32 (a q : Nat) (ha : a < 2 ^ 32) (hq : q < 32) : Go.bits .or .u32 (a : Int) (shl .u32 1 (q : Int)) = ((a ||| 2 ^ q : Nat) : Int) := by
  rw [shl1 q hq]
  exact or32 ha (Nat.pow_lt_pow_right (by omega) hq)
theorem put32_lt {a q : Nat} (ha : a < 2 ^ 32) (hq : q < 32) : a ||| 2 ^ q < 2 ^ 32 := Nat.or_lt_two_pow ha (Nat.pow_lt_pow_right (by omega) hq)
theorem put32_has (a q r : Nat) : (a ||| 2 ^ q).testBit r = true ↔ a.testBit r = true ∨ q = r := by
  rw [Nat.testBit_or, Bool.or_eq_true, Nat.testBit_two_pow]
  simp
theorem meet32 {a b : Nat} (ha : a < 2 ^ 32) (hb : b < 2 ^ 32) : (Go.bits .and .u32 (a : Int) (b : Int) != 0) = true ↔ ∃ q, a.testBit q = true ∧ b.testBit q = true := by
  rw [and32 ha hb, bne_iff_ne]
  constructor
  · intro h
    have h2 : a &&& b ≠ 0 := fun e => h (by rw [e]; rfl)
    obtain ⟨q, hq⟩ := Nat.exists_testBit_of_ne_zero h2
    rw [Nat.testBit_and, Bool.and_eq_true] at hq
    exact ⟨q, hq⟩
  · rintro ⟨q, h1, h2⟩ e
    have h3 : a &&& b = 0 := by omega
    have : (a &&& b).testBit q = true := by rw [Nat.testBit_and, h1, h2]; rfl
    rw [h3] at this
    simp at this
theorem sub_le {a b : Nat} (h : ∀ q, a.testBit q = true → b.testBit q = true) : a ≤ b := by
  have e : a ||| b = b := by
    apply Nat.eq_of_testBit_eq
    intro i
    rw [Nat.testBit_or]
    cases h1 : a.testBit i
    · simp
    · rw [h i h1]; rfl
  rw [← e]
  exact Nat.left_le_or

theorem wraps_i64 (n : Int) (h0 : 0 ≤ n) (h1 : n < 2 ^ 62) : IntKind.i64.wrap n = n := by rw [IntKind.wrap_i64]; omega
theorem and64 {a b : Nat} (ha : a < 2 ^ 62) (hb : b < 2 ^ 62) : Go.bits .and .i64 (a : Int) (b : Int) = ((a &&& b : Nat) : Int) := (bits_nat .i64 62 (by decide) wraps_i64 a b ha hb).1
theorem or64 {a b : Nat} (ha : a < 2 ^ 62) (hb : b < 2 ^ 62) : Go.bits .or .i64 (a : Int) (b : Int) = ((a ||| b : Nat) : Int) := (bits_nat .i64 62 (by decide) wraps_i64 a b ha hb).2
theorem shr64 (a q : Nat) (hq : q ≤ 64) : shr .i64 (a : Int) (q : Int) = ((a / 2 ^ q : Nat) : Int) := by
  unfold shr
  rw [Int.toNat_natCast, show IntKind.i64.bits = 64 from rfl, Nat.min_eq_left hq]
  simp
theorem shl64 (q : Nat) (hq : q < 62) : shl .i64 1 (q : Int) = ((2 ^ q : Nat) : Int) := by
  unfold shl
  rw [Int.toNat_natCast, show IntKind.i64.bits = 64 from rfl, Nat.min_eq_left (by omega), Int.one_mul]
  have h : 2 ^ q < 2 ^ 62 := Nat.pow_lt_pow_right (by omega) hq
  rw [show (2 : Int) ^ q = ((2 ^ q : Nat) : Int) by simp]
  exact wraps_i64 _ (Int.natCast_nonneg _) (by exact_mod_cast h)
theorem has64 (a q : Nat) (ha : a < 2 ^ 62) (hq : q < 62) : (Go.bits .and .i64 (shr .i64 (a : Int) (q : Int)) 1 = 0) ↔ a.testBit q = false := by
  rw [shr64 a q (by omega)]
  have h1 : a / 2 ^ q < 2 ^ 62 := Nat.lt_of_le_of_lt (Nat.div_le_self _ _) ha
  rw [show (1 : Int) = ((1 : Nat) : Int) from rfl, show (0 : Int) = ((0 : Nat) : Int) from rfl, and64 h1 (by decide), Int.ofNat_inj, Nat.and_one_is_mod, Nat.testBit_eq_decide_div_mod_eq]
  simp
theorem put64 (a q : Nat) (ha : a < 2 ^ 62) (hq : q < 62) : Go.bits .or .i64 (a : Int) (shl .i64 1 (q : Int)) = ((a ||| 2 ^ q : Nat) : Int) := by
  rw [shl64 q hq]
  exact or64 ha (Nat.pow_lt_pow_right (by omega) hq)
theorem put_lt {a q n : Nat} (ha : a < 2 ^ n) (hq : q < n) : a ||| 2 ^ q < 2 ^ n := Nat.or_lt_two_pow ha (Nat.pow_lt_pow_right (by omega) hq)
end Go.Proofs.YtehkplafehlkgaaW.Plib
