/- wrackkeep3.StatProducts: Log of a product is the sum of both logarithms or one more, it does not fall, and Log(4a) is Log(a) + 8. For every input. -/
import Derived.Test.YtehkplafehlkgaaPStatProductsx1
import Derived.Test.YtehkplafehlkgaaPlib
namespace Go.Proofs.Ytehkplafehlkgaa.Pure
open Go.RowKit Go.Proofs.Ytehkplafehlkgaa.PStatProducts Go.Proofs.YtehkplafehlkgaaW.PrintWords Go.Proofs.YtehkplafehlkgaaW.PrintLast Go.Proofs.YtehkplafehlkgaaW.Plib
namespace StatP

def T : ByteArray := ⟨#[0, 1, 2, 2, 3, 3, 3, 3, 4, 4, 4, 4, 4, 4, 4, 4, 5, 5, 5, 5, 5, 5, 5, 5, 5, 5, 5, 5, 5, 5, 5, 5, 6, 6, 6, 6, 6, 6, 6, 6, 6, 6, 6, 6, 6, 6, 6, 6, 6, 6, 6, 6, 6, 6, 6, 6, 6, 6, 6, 6, 6, 6, 6, 6, 7, 7, 7, 7, 7, 7, 7, 7, 7, 7, 7, 7, 7, 7, 7, 7, 7, 7, 7, 7, 7, 7, 7, 7, 7, 7, 7, 7, 7, 7, 7, 7, 7, 7, 7, 7, 7, 7, 7, 7, 7, 7, 7, 7, 7, 7, 7, 7, 7, 7, 7, 7, 7, 7, 7, 7, 7, 7, 7, 7, 7, 7, 7, 7, 8, 8, 8, 8, 8, 8, 8, 8, 8, 8, 8, 8, 8, 8, 8, 8, 8, 8, 8, 8, 8, 8, 8, 8, 8, 8, 8, 8, 8, 8, 8, 8, 8, 8, 8, 8, 8, 8, 8, 8, 8, 8, 8, 8, 8, 8, 8, 8, 8, 8, 8, 8, 8, 8, 8, 8, 8, 8, 8, 8, 8, 8, 8, 8, 8, 8, 8, 8, 8, 8, 8, 8, 8, 8, 8, 8, 8, 8, 8, 8, 8, 8, 8, 8, 8, 8, 8, 8, 8, 8, 8, 8, 8, 8, 8, 8, 8, 8, 8, 8, 8, 8, 8, 8, 8, 8, 8, 8, 8, 8, 8, 8, 8, 8, 8, 8, 8, 8, 8, 8, 8, 8, 8, 8, 8, 8, 8, 8]⟩
theorem T_ok : ∀ n : Fin 256, 0 < n.val → 1 ≤ bt T n.val ∧ bt T n.val ≤ 8 ∧ 2 ^ ((bt T n.val).toNat - 1) ≤ n.val ∧ n.val < 2 ^ (bt T n.val).toNat := by decide +kernel
theorem T_at {x : Int} (h0 : 0 < x) (h1 : x < 256) : ∃ t : Nat, bt T x = t ∧ 1 ≤ t ∧ t ≤ 8 ∧ 2 ^ (t - 1) ≤ x.toNat ∧ x.toNat < 2 ^ t := by
  have h := T_ok ⟨x.toNat, by omega⟩ (by simp; omega)
  have e : ((x.toNat : Nat) : Int) = x := by omega
  simp only [e] at h
  refine ⟨(bt T x).toNat, by omega, by omega, by omega, h.2.2.1, h.2.2.2⟩
theorem scaled {y m t e x : Nat} (hm : m = 2 ^ e) (hy : y = x / m) (ht : 1 ≤ t) (h1 : 2 ^ (t - 1) ≤ y) (h2 : y < 2 ^ t) : 2 ^ (t + e - 1) ≤ x ∧ x < 2 ^ (t + e) := by
  have hp : 0 < m := by rw [hm]; exact Nat.two_pow_pos e
  have e1 : 2 ^ (t + e - 1) = 2 ^ (t - 1) * m := by rw [hm, ← Nat.pow_add]; congr 1; omega
  have e2 : 2 ^ (t + e) = 2 ^ t * m := by rw [hm, ← Nat.pow_add]
  rw [e1, e2]
  subst hy
  constructor
  · exact Nat.le_trans (Nat.mul_le_mul_right _ h1) (Nat.div_mul_le_self _ _)
  · exact (Nat.div_lt_iff_lt_mul hp).1 h2
theorem j0_eq (k : Nat) (x s : Int) : bits_Len64.j0 (k + 1) x s = if x ≥ 65536 then (if (x / 65536) ≥ 256 then (if 0 ≤ (((x / 65536) / 256) % 256) then (if (((x / 65536) / 256) % 256) < 256 then (some (wrap64 ((wrap64 ((wrap64 (s + 16)) + 8)) + (wrap64 (bt T (((x / 65536) / 256) % 256)))))) else (none)) else (none)) else (if 0 ≤ ((x / 65536) % 256) then (if ((x / 65536) % 256) < 256 then (some (wrap64 ((wrap64 (s + 16)) + (wrap64 (bt T ((x / 65536) % 256)))))) else (none)) else (none))) else (if x ≥ 256 then (if 0 ≤ ((x / 256) % 256) then (if ((x / 256) % 256) < 256 then (some (wrap64 ((wrap64 (s + 8)) + (wrap64 (bt T ((x / 256) % 256)))))) else (none)) else (none)) else (if 0 ≤ ((x) % 256) then (if ((x) % 256) < 256 then (some (wrap64 (s + (wrap64 (bt T ((x) % 256)))))) else (none)) else (none))) := by
  unfold T
  rw [bits_Len64.j0.eq_2]
theorem j0_ok (k : Nat) (x s : Int) (h0 : 0 < x) (h1 : x < 4294967296) (hs0 : 0 ≤ s) (hs1 : s ≤ 32) :
    ∃ t : Nat, bits_Len64.j0 (k + 1) x s = some (s + t) ∧ 1 ≤ t ∧ t ≤ 32 ∧ 2 ^ (t - 1) ≤ x.toNat ∧ x.toNat < 2 ^ t := by
  rw [j0_eq]
  by_cases c1 : x ≥ 65536
  · rw [if_pos c1]
    by_cases c2 : x / 65536 ≥ 256
    · rw [if_pos c2]
      have e1 : x / 65536 / 256 % 256 = x / 65536 / 256 := by omega
      rw [e1, if_pos (by omega), if_pos (by omega)]
      obtain ⟨t, ht, t1, t8, p1, p2⟩ := T_at (x := x / 65536 / 256) (by omega) (by omega)
      obtain ⟨q1, q2⟩ := scaled (e := 24) (m := 16777216) (x := x.toNat) (by simp) (show (x / 65536 / 256).toNat = x.toNat / 16777216 by omega) t1 p1 p2
      refine ⟨t + 24, ?_, by omega, by omega, q1, q2⟩
      rw [ht]
      exact congrArg some (by unfold wrap64; omega)
    · rw [if_neg c2]
      have e1 : x / 65536 % 256 = x / 65536 := by omega
      rw [e1, if_pos (by omega), if_pos (by omega)]
      obtain ⟨t, ht, t1, t8, p1, p2⟩ := T_at (x := x / 65536) (by omega) (by omega)
      obtain ⟨q1, q2⟩ := scaled (e := 16) (m := 65536) (x := x.toNat) (by simp) (show (x / 65536).toNat = x.toNat / 65536 by omega) t1 p1 p2
      refine ⟨t + 16, ?_, by omega, by omega, q1, q2⟩
      rw [ht]
      exact congrArg some (by unfold wrap64; omega)
  · rw [if_neg c1]
    by_cases c2 : x ≥ 256
    · rw [if_pos c2]
      have e1 : x / 256 % 256 = x / 256 := by omega
      rw [e1, if_pos (by omega), if_pos (by omega)]
      obtain ⟨t, ht, t1, t8, p1, p2⟩ := T_at (x := x / 256) (by omega) (by omega)
      obtain ⟨q1, q2⟩ := scaled (e := 8) (m := 256) (x := x.toNat) (by simp) (show (x / 256).toNat = x.toNat / 256 by omega) t1 p1 p2
      refine ⟨t + 8, ?_, by omega, by omega, q1, q2⟩
      rw [ht]
      exact congrArg some (by unfold wrap64; omega)
    · rw [if_neg c2]
      have e1 : x % 256 = x := by omega
      rw [e1, if_pos (by omega), if_pos (by omega)]
      obtain ⟨t, ht, t1, t8, p1, p2⟩ := T_at (x := x) (by omega) (by omega)
      refine ⟨t, ?_, by omega, by omega, p1, p2⟩
      rw [ht]
      exact congrArg some (by unfold wrap64; omega)
theorem len_ok (k : Nat) (x : Int) (h0 : 0 < x) (h1 : x < 18446744073709551616) :
    ∃ t : Nat, bits_Len64.f (k + 1) x = some (t : Int) ∧ 1 ≤ t ∧ t ≤ 64 ∧ 2 ^ (t - 1) ≤ x.toNat ∧ x.toNat < 2 ^ t := by
  unfold bits_Len64.f
  by_cases c : x ≥ 4294967296
  · rw [if_pos c]
    obtain ⟨t, ht, t1, t8, p1, p2⟩ := j0_ok k (x / 4294967296) 32 (by omega) (by omega) (by omega) (by omega)
    obtain ⟨q1, q2⟩ := scaled (e := 32) (m := 4294967296) (x := x.toNat) (by simp) (show (x / 4294967296).toNat = x.toNat / 4294967296 by omega) t1 p1 p2
    refine ⟨t + 32, ?_, by omega, by omega, q1, q2⟩
    rw [ht]
    exact congrArg some (by omega)
  · rw [if_neg c]
    obtain ⟨t, ht, t1, t8, p1, p2⟩ := j0_ok k x 0 (by omega) (by omega) (by omega) (by omega)
    refine ⟨t, ?_, by omega, by omega, p1, p2⟩
    rw [ht]
    exact congrArg some (by omega)
/-- Log: v with 2^v ≤ n^4 < 2^(v+1). -/
theorem log_ok (k : Nat) (n : Nat) (h0 : 0 < n) (h1 : n ≤ 65535) : ∃ v : Nat, stat_Log.f (k + 1) (n : Int) = some (v : Int) ∧ v ≤ 63 ∧ 2 ^ v ≤ n * n * (n * n) ∧ n * n * (n * n) < 2 ^ (v + 1) := by
  unfold stat_Log.f
  rw [if_neg (by omega), if_neg (by omega)]
  have hb : n * n ≤ 65535 * 65535 := Nat.mul_le_mul h1 h1
  have hb2 : n * n * (n * n) ≤ 65535 * 65535 * (65535 * 65535) := Nat.mul_le_mul hb hb
  have hp : 0 < n * n := Nat.mul_pos h0 h0
  have hp2 : 0 < n * n * (n * n) := Nat.mul_pos hp hp
  have e1 : IntKind.u64.wrap (n : Int) = n := by rw [u64w]; omega
  have e2 : IntKind.u64.wrap ((n : Int) * n) = ((n * n : Nat) : Int) := by rw [u64w, ← Int.natCast_mul]; omega
  have e3 : IntKind.u64.wrap (((n * n : Nat) : Int) * ((n * n : Nat) : Int)) = ((n * n * (n * n) : Nat) : Int) := by rw [u64w, ← Int.natCast_mul]; omega
  rw [e1, e2, e3]
  generalize n * n * (n * n) = m at *
  obtain ⟨t, ht, t1, t64, p1, p2⟩ := len_ok k (m : Int) (by omega) (by omega)
  rw [ht]
  simp only [Option.bind_some]
  refine ⟨t - 1, ?_, by omega, by simpa using p1, ?_⟩
  · exact congrArg some (by unfold wrap64; omega)
  · rw [show t - 1 + 1 = t by omega]; simpa using p2
theorem pow_le {a b m n : Nat} (h1 : 2 ^ a ≤ m) (h2 : m ≤ n) (h3 : n < 2 ^ (b + 1)) : a ≤ b := by
  have h : 2 ^ a < 2 ^ (b + 1) := by omega
  have := (Nat.pow_lt_pow_iff_right (by omega : 1 < 2)).1 h
  omega
theorem counted_ok : wrackkeep3_counted.f 300 = some true := by decide +kernel
theorem counted_at (k : Nat) (h : 300 ≤ k) : wrackkeep3_counted.f k = some true := at_rounds (g := wrackkeep3_counted.f) wrackkeep3_counted.mono h counted_ok
theorem hab (A B : Nat) : A * B * (A * B) * (A * B * (A * B)) = A * A * (A * A) * (B * B * (B * B)) := by
  rw [Nat.mul_mul_mul_comm A B A B, Nat.mul_mul_mul_comm (A * A) (B * B) (A * A) (B * B)]
theorem h44 (A : Nat) : 4 * A * (4 * A) * (4 * A * (4 * A)) = A * A * (A * A) * 256 := by
  rw [Nat.mul_mul_mul_comm 4 A 4 A, Nat.mul_mul_mul_comm (4 * 4) (A * A) (4 * 4) (A * A), Nat.mul_comm]
theorem t1 (A B x y : Nat) (x1 : 2 ^ x ≤ A * A * (A * A)) (y1 : 2 ^ y ≤ B * B * (B * B)) : 2 ^ (x + y) ≤ A * B * (A * B) * (A * B * (A * B)) := by
    rw [hab, Nat.pow_add]
    exact Nat.mul_le_mul x1 y1
theorem t2 (A B x y : Nat) (x1 : A * A * (A * A) < 2 ^ (x + 1)) (y1 : B * B * (B * B) < 2 ^ (y + 1)) : A * B * (A * B) * (A * B * (A * B)) < 2 ^ (x + y + 1 + 1) := by
    rw [hab, show x + y + 1 + 1 = (x + 1) + (y + 1) by omega, Nat.pow_add]
    exact Nat.mul_lt_mul_of_lt_of_lt x1 y1
theorem t3 (A x : Nat) (x1 : 2 ^ x ≤ A * A * (A * A)) : 2 ^ (x + 8) ≤ 4 * A * (4 * A) * (4 * A * (4 * A)) := by
    rw [h44, Nat.pow_add]
    exact Nat.mul_le_mul_right _ x1
theorem t4 (A x : Nat) (x1 : A * A * (A * A) < 2 ^ (x + 1)) : 4 * A * (4 * A) * (4 * A * (4 * A)) < 2 ^ (x + 8 + 1) := by
    rw [h44, show x + 8 + 1 = (x + 1) + 8 by omega, Nat.pow_add]
    exact Nat.mul_lt_mul_of_pos_right x1 (by decide)
theorem fin_ (x y p q r : Nat) (x63 : x ≤ 63) (y63 : y ≤ 63) (p63 : p ≤ 63) (r63 : r ≤ 63) (h1 : x + y ≤ p) (h2 : p ≤ x + y + 1) (h3 : p ≤ q) (h4 : x + 8 ≤ r) (h5 : r ≤ x + 8) :
    (if (p : Int) ≥ wrap64 ((x : Int) + y) then (if (p : Int) ≤ wrap64 (wrap64 ((x : Int) + y) + 1) then ((some (q : Int)).bind fun t126 => if t126 ≥ (p : Int) then ((some (r : Int)).bind fun t127 => some (t127 == wrap64 ((x : Int) + 8))) else some false) else some false) else some false) = some true := by
  have w1 : wrap64 ((x : Int) + y) = ((x + y : Nat) : Int) := by unfold wrap64; omega
  have w2 : wrap64 (((x + y : Nat) : Int) + 1) = ((x + y + 1 : Nat) : Int) := by unfold wrap64; omega
  have w3 : wrap64 ((x : Int) + 8) = ((x + 8 : Nat) : Int) := by unfold wrap64; omega
  rw [w1, w2, w3, if_pos (by omega), if_pos (by omega), Option.bind_some, if_pos (by omega), Option.bind_some]
  have : r = x + 8 := by omega
  subst this
  simp
theorem sq_mono {a b : Nat} (h : a ≤ b) : a * a * (a * a) ≤ b * b * (b * b) := Nat.mul_le_mul (Nat.mul_le_mul h h) (Nat.mul_le_mul h h)
theorem below_f {a n : Int} (hn : 0 < n) (hn2 : n ≤ 9223372036854775807) : wrackmake_Below.f a n = some (a % n) := by
  unfold wrackmake_Below.f
  rw [if_neg (by omega), ← below_val hn hn2]
  split <;> rfl
end StatP
open StatP
theorem StatProducts : wrackkeep3_StatProducts.Pure := by
  intro a0 a1 _ _
  refine ⟨301, ?_⟩
  unfold wrackkeep3_StatProducts.f
  rw [below_f (by omega) (by omega), below_f (by omega) (by omega)]
  simp only [Option.bind_some]
  obtain ⟨A, e1, hA0, hA1⟩ : ∃ A : Nat, wrap64 (1 + a0 % 255) = (A : Int) ∧ 1 ≤ A ∧ A ≤ 255 := ⟨(1 + a0 % 255).toNat, by unfold wrap64; omega, by omega, by omega⟩
  obtain ⟨B, e2, hB0, hB1⟩ : ∃ B : Nat, wrap64 (1 + a1 % 255) = (B : Int) ∧ 1 ≤ B ∧ B ≤ 255 := ⟨(1 + a1 % 255).toNat, by unfold wrap64; omega, by omega, by omega⟩
  rw [e1, e2]
  have hle : A * B ≤ 255 * 255 := Nat.mul_le_mul hA1 hB1
  have hpos : 0 < A * B := Nat.mul_pos hA0 hB0
  have e3 : wrap64 ((A : Int) * (B : Int)) = ((A * B : Nat) : Int) := by rw [← Int.natCast_mul]; exact w64 (by omega) (by omega)
  have e4 : wrap64 (((A * B : Nat) : Int) + 1) = ((A * B + 1 : Nat) : Int) := by unfold wrap64; omega
  have e5 : wrap64 (4 * (A : Int)) = ((4 * A : Nat) : Int) := by unfold wrap64; omega
  rw [e3, e4, e5]
  obtain ⟨x, hx, x63, x1, x2⟩ := log_ok 300 A (by omega) (by omega)
  obtain ⟨y, hy, y63, y1, y2⟩ := log_ok 300 B (by omega) (by omega)
  obtain ⟨p, hp, p63, p1, p2⟩ := log_ok 300 (A * B) hpos (by omega)
  obtain ⟨q, hq, q63, q1, q2⟩ := log_ok 300 (A * B + 1) (by omega) (by omega)
  obtain ⟨r, hr, r63, r1, r2⟩ := log_ok 300 (4 * A) (by omega) (by omega)
  rw [hx, hy, hp, hq, hr, counted_at 301 (by omega)]
  rw [Option.bind_some, Option.bind_some, Option.bind_some, Option.bind_some, if_pos rfl]
  have h1 : x + y ≤ p := pow_le (t1 A B x y x1 y1) (Nat.le_refl _) p2
  have h2 : p ≤ x + y + 1 := pow_le p1 (Nat.le_refl _) (t2 A B x y x2 y2)
  have h3 : p ≤ q := pow_le p1 (sq_mono (Nat.le_succ _)) q2
  have h4 : x + 8 ≤ r := pow_le (t3 A x x1) (Nat.le_refl _) r2
  have h5 : r ≤ x + 8 := pow_le r1 (Nat.le_refl _) (t4 A x x2)
  exact fin_ x y p q r x63 y63 p63 r63 h1 h2 h3 h4 h5

end Go.Proofs.Ytehkplafehlkgaa.Pure
