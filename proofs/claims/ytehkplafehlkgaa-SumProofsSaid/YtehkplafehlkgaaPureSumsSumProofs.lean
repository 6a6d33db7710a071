/- sum.Crc, the fact sums, wrackmake.data: what they come to. (SumProofs: the law whose text this is; 2: its text with them.) -/
import Derived.Test.YtehkplafehlkgaaPSumProofsx2
import Derived.Test.YtehkplafehlkgaaPlibBits
namespace Go.Proofs.Ytehkplafehlkgaa.Pure.SumsSumProofs
set_option linter.unusedVariables false
set_option linter.unusedSimpArgs false
open Go.RowKit Go.Proofs.Ytehkplafehlkgaa.PSumProofs Go.Proofs.YtehkplafehlkgaaW.PrintWords Go.Proofs.YtehkplafehlkgaaW.PrintLast Go.Proofs.YtehkplafehlkgaaW.PrintMore Go.Proofs.YtehkplafehlkgaaW.Plib
theorem at_one (X : List Int) (i : Nat) : rd X (i : Int) = X.getD i 0 := by simp only [rd, Int.toNat_natCast]
theorem w1 (q n : Nat) (h : q < n) (hn : n ≤ 4096) : wrap64 ((q : Int) + 1) = ((q + 1 : Nat) : Int) := by rw [w64] <;> omega
theorem below_f {a n : Int} (hn : 0 < n) (hn2 : n ≤ 9223372036854775807) : wrackmake_Below.f a n = some (a % n) := by
  unfold wrackmake_Below.f
  rw [if_neg (by omega), ← below_val hn hn2]
  split <;> rfl
theorem next_f (l : List Int) {n : Int} (hn : 0 < n) (hn2 : n ≤ 9223372036854775807) : ∃ v l', wrackmake_Stream_Next.f l n = some (v, l') ∧ 0 ≤ v ∧ v < n := by
  unfold wrackmake_Stream_Next.f
  by_cases h : (l.length : Int) = 0
  · exact ⟨0, l, by rw [if_pos h], by omega, hn⟩
  · refine ⟨rd l 0 % n, l.drop 1, ?_, Int.emod_nonneg _ (by omega), Int.emod_lt_of_pos _ hn⟩
    rw [if_neg h, if_neg (by omega), below_f hn hn2, Option.bind_some]
theorem xor32 {a b : Nat} (ha : a < 2 ^ 32) (hb : b < 2 ^ 32) : Go.bits .xor .u32 (a : Int) (b : Int) = ((a ^^^ b : Nat) : Int) := by
  have ha' : a % 2 ^ IntKind.u32.bits = a := Nat.mod_eq_of_lt ha
  have hb' : b % 2 ^ IntKind.u32.bits = b := Nat.mod_eq_of_lt hb
  simp only [Go.bits, BitVec.ofInt_natCast, BitVec.toNat_xor, BitVec.toNat_ofNat, ha', hb']
  have := Nat.xor_lt_two_pow ha hb
  exact wraps_u32 _ (Int.natCast_nonneg _) (by exact_mod_cast this)
theorem xor8 {a b : Nat} (ha : a < 2 ^ 8) (hb : b < 2 ^ 8) : Go.bits .xor .u8 (a : Int) (b : Int) = ((a ^^^ b : Nat) : Int) := by
  have ha' : a % 2 ^ IntKind.u8.bits = a := Nat.mod_eq_of_lt ha
  have hb' : b % 2 ^ IntKind.u8.bits = b := Nat.mod_eq_of_lt hb
  simp only [Go.bits, BitVec.ofInt_natCast, BitVec.toNat_xor, BitVec.toNat_ofNat, ha', hb']
  have := Nat.xor_lt_two_pow ha hb
  exact wraps_u8 _ (Int.natCast_nonneg _) (by exact_mod_cast this)
theorem not32 {a : Nat} (ha : a < 2 ^ 32) : Go.bits .xor .u32 (-1) (a : Int) = ((4294967295 ^^^ a : Nat) : Int) := by
  rw [← xor32 (by decide) ha]
  have e : BitVec.ofInt IntKind.u32.bits (-1) = BitVec.ofInt IntKind.u32.bits ((4294967295 : Nat) : Int) := by decide
  simp only [Go.bits, e]

/-! ## One round -/
def R (c : Nat) : Nat := (c / 2) ^^^ (if c % 2 = 1 then 3988292384 else 0)
theorem R_lt {c : Nat} (h : c < 2 ^ 32) : R c < 2 ^ 32 := Nat.xor_lt_two_pow (by omega) (by split <;> decide)
theorem xor_self_left (a b : Nat) : a ^^^ (a ^^^ b) = b := by rw [← Nat.xor_assoc, Nat.xor_self, Nat.zero_xor]
theorem xor_zero_eq {a b : Nat} (h : a ^^^ b = 0) : a = b := by
  have := xor_self_left a b
  rw [h, Nat.xor_zero] at this
  exact this
theorem xor_mod2 (a b : Nat) : (a ^^^ b) % 2 = (a + b) % 2 := by
  have h := Nat.testBit_xor a b 0
  simp only [Nat.testBit_zero] at h
  have h1 : a % 2 = 0 ∨ a % 2 = 1 := by omega
  have h2 : b % 2 = 0 ∨ b % 2 = 1 := by omega
  have h3 : (a ^^^ b) % 2 = 0 ∨ (a ^^^ b) % 2 = 1 := by omega
  rcases h1 with h1 | h1 <;> rcases h2 with h2 | h2 <;> rcases h3 with h3 | h3 <;> simp [h1, h2, h3] at h <;> omega
theorem R_lin (a b : Nat) : R (a ^^^ b) = R a ^^^ R b := by
  unfold R
  rw [Nat.xor_div_two, xor_mod2]
  have h1 : a % 2 = 0 ∨ a % 2 = 1 := by omega
  have h2 : b % 2 = 0 ∨ b % 2 = 1 := by omega
  rcases h1 with h1 | h1 <;> rcases h2 with h2 | h2
  · rw [if_neg (by omega), if_neg (by omega), if_neg (by omega)]; simp
  · rw [if_pos (by omega), if_neg (by omega), if_pos (by omega)]; simp [Nat.xor_assoc]
  · rw [if_pos (by omega), if_pos (by omega), if_neg (by omega)]
    simp only [Nat.xor_zero]
    rw [Nat.xor_assoc, Nat.xor_assoc, Nat.xor_comm (b / 2)]
  · rw [if_neg (by omega), if_pos (by omega), if_pos (by omega)]
    simp only [Nat.xor_zero]
    rw [Nat.xor_assoc, Nat.xor_comm (b / 2), xor_self_left]
theorem R_zero {c : Nat} (h : c < 2 ^ 32) (e : R c = 0) : c = 0 := by
  unfold R at e
  have e2 := xor_zero_eq e
  split at e2 <;> omega
def rep : Nat → Nat → Nat
  | 0, c => c
  | n + 1, c => rep n (R c)
theorem rep_lt : ∀ (n c : Nat), c < 2 ^ 32 → rep n c < 2 ^ 32
  | 0, _, h => h
  | n + 1, c, h => rep_lt n (R c) (R_lt h)
theorem rep_lin : ∀ (n a b : Nat), rep n (a ^^^ b) = rep n a ^^^ rep n b
  | 0, _, _ => rfl
  | n + 1, a, b => by rw [rep, R_lin, rep_lin n, rep, rep]
theorem rep_zero : ∀ (n c : Nat), c < 2 ^ 32 → rep n c = 0 → c = 0
  | 0, _, _, e => e
  | n + 1, c, h, e => R_zero h (rep_zero n (R c) (R_lt h) e)
theorem rep_inj {n a b : Nat} (ha : a < 2 ^ 32) (hb : b < 2 ^ 32) (e : rep n a = rep n b) : a = b := by
  refine xor_zero_eq (rep_zero n _ (Nat.xor_lt_two_pow ha hb) ?_)
  rw [rep_lin, e, Nat.xor_self]
theorem burst : ∀ y : Nat, y < 256 → 0 < y → 256 ≤ rep 8 y := by decide +kernel

/-! ## The checksum -/
def Byt (l : List Int) : Prop := ∀ x ∈ l, 0 ≤ x ∧ x < 256
def F : Nat → List Int → Nat
  | c, [] => c
  | c, x :: t => F (rep 8 (c ^^^ x.toNat)) t
theorem F_app : ∀ (a b : List Int) (c : Nat), F c (a ++ b) = F (F c a) b
  | [], _, _ => rfl
  | x :: a, b, c => by rw [List.cons_append, F, F_app a b, F]
theorem F_lt : ∀ (l : List Int) (c : Nat), Byt l → c < 2 ^ 32 → F c l < 2 ^ 32
  | [], _, _, h => h
  | x :: t, c, hl, h => F_lt t _ (fun y hy => hl y (List.mem_cons_of_mem _ hy)) (rep_lt 8 _ (Nat.xor_lt_two_pow h (by have := hl x List.mem_cons_self; omega)))
theorem F_inj : ∀ (l : List Int) (a b : Nat), Byt l → a < 2 ^ 32 → b < 2 ^ 32 → F a l = F b l → a = b
  | [], _, _, _, _, _, e => e
  | x :: t, a, b, hl, ha, hb, e => by
    have hx := hl x List.mem_cons_self
    have hx2 : x.toNat < 2 ^ 32 := by omega
    have h1 := F_inj t _ _ (fun y hy => hl y (List.mem_cons_of_mem _ hy)) (rep_lt 8 _ (Nat.xor_lt_two_pow ha hx2)) (rep_lt 8 _ (Nat.xor_lt_two_pow hb hx2)) e
    have h2 := rep_inj (Nat.xor_lt_two_pow ha hx2) (Nat.xor_lt_two_pow hb hx2) h1
    have h3 : x.toNat ^^^ (x.toNat ^^^ a) = x.toNat ^^^ (x.toNat ^^^ b) := by rw [Nat.xor_comm _ a, Nat.xor_comm _ b, h2]
    rwa [xor_self_left, xor_self_left] at h3
def res (c : Nat) : Int := wrap64 (Go.bits .xor .u32 (-1) (c : Int))
theorem res_inj {a b : Nat} (ha : a < 2 ^ 32) (hb : b < 2 ^ 32) (e : res a = res b) : a = b := by
  unfold res at e
  have h1 : 4294967295 ^^^ a < 2 ^ 32 := Nat.xor_lt_two_pow (by decide) ha
  have h2 : 4294967295 ^^^ b < 2 ^ 32 := Nat.xor_lt_two_pow (by decide) hb
  rw [not32 ha, not32 hb, w64 (by omega) (by omega), w64 (by omega) (by omega)] at e
  have e2 : 4294967295 ^^^ a = 4294967295 ^^^ b := by omega
  have e3 := xor_self_left 4294967295 a
  rw [e2, xor_self_left] at e3
  exact e3.symm
theorem crc_l1 (l : List Int) (hl : l.length ≤ 4000) (j : Nat) (hj : j < l.length) {P : Int → Prop} (d : Nat) : ∀ (i c : Nat), i + d = 8 → c < 2 ^ 32 → Gets (fun k => sum_Crc.l0 k ((rep d c : Nat) : Int) l (l.length : Int) ((j + 1 : Nat) : Int)) P →
    Gets (fun k => sum_Crc.l1 k (c : Int) l (l.length : Int) (j : Int) (i : Int)) P := by
  induction d with
  | zero =>
    intro i c hi hc K
    have q1 : ¬ (i : Int) < 8 := by omega
    have hw := w1 j l.length hj (by omega)
    refine Gets.up ?_
    simp only [sum_Crc.l1, hw]
    simp -implicitDefEqProofs only [if_neg q1]
    exact K
  | succ d ih =>
    intro i c hi hc K
    have q1 : (i : Int) < 8 := by omega
    have e1 : (c : Int) / 2 = ((c / 2 : Nat) : Int) := by omega
    have e2 : (Go.bits .and .u32 (c : Int) 1 * 3988292384) % 4294967296 = (((if c % 2 = 1 then 3988292384 else 0) : Nat) : Int) := by
      rw [show (1 : Int) = ((1 : Nat) : Int) from rfl, and32 hc (by decide), Nat.and_one_is_mod]
      have h : c % 2 = 0 ∨ c % 2 = 1 := by omega
      rcases h with h | h <;> rw [h] <;> rfl
    have e3 : Go.bits .xor .u32 ((c : Int) / 2) ((Go.bits .and .u32 (c : Int) 1 * 3988292384) % 4294967296) = ((R c : Nat) : Int) := by
      rw [e1, e2, xor32 (by omega) (by split <;> decide)]
      rfl
    have key := ih (i + 1) (R c) (by omega) (R_lt hc) K
    have hw := w1 i 8 (by omega) (by omega)
    refine Gets.up ?_
    simp only [sum_Crc.l1, hw, e3]
    simp -implicitDefEqProofs only [if_pos q1]
    exact key
theorem crc_l0 (l : List Int) (hl : l.length ≤ 4000) (hb : Byt l) (d : Nat) : ∀ (j c : Nat), j + d = l.length → c < 2 ^ 32 → Gets (fun k => sum_Crc.l0 k (c : Int) l (l.length : Int) (j : Int)) (· = res (F c (l.drop j))) := by
  induction d with
  | zero =>
    intro j c hj hc
    refine Gets.up ?_
    simp only [sum_Crc.l0, if_neg (show ¬ (j : Int) < (l.length : Int) by omega)]
    refine Gets.ret ?_
    rw [List.drop_of_length_le (by omega)]
    rfl
  | succ d ih =>
    intro j c hj hc
    have hj2 : j < l.length := by omega
    have hx := hb l[j] (List.getElem_mem _)
    have hg : l.getD j 0 = l[j] := by rw [List.getD_eq_getElem?_getD, List.getElem?_eq_getElem hj2]; rfl
    obtain ⟨x, hxe⟩ : ∃ x : Nat, l[j] = (x : Int) := ⟨l[j].toNat, by omega⟩
    rw [hxe] at hx
    have q1 : (j : Int) < (l.length : Int) := by omega
    have q2 : (0 : Int) ≤ (j : Int) := by omega
    have e1 : Go.bits .xor .u32 (c : Int) (rd l (j : Int) % 4294967296) = ((c ^^^ x : Nat) : Int) := by
      rw [at_one, hg, hxe, show (x : Int) % 4294967296 = (x : Int) by omega, xor32 hc (by omega)]
    have hlt : c ^^^ x < 2 ^ 32 := Nat.xor_lt_two_pow hc (by omega)
    have key := ih (j + 1) (rep 8 (c ^^^ x)) (by omega) (rep_lt 8 _ hlt)
    have e2 : F c (l.drop j) = F (rep 8 (c ^^^ x)) (l.drop (j + 1)) := by
      rw [List.drop_eq_getElem_cons hj2, hxe, F, Int.toNat_natCast]
    rw [e2]
    refine Gets.up ?_
    simp only [sum_Crc.l0, e1]
    simp -implicitDefEqProofs only [if_pos q1, if_pos q2]
    exact crc_l1 l hl j hj2 8 0 _ (by omega) hlt key
theorem crc_f (l : List Int) (hl : l.length ≤ 4000) (hb : Byt l) : Gets (fun k => sum_Crc.f k l) (· = res (F 4294967295 l)) := by
  unfold sum_Crc.f
  exact crc_l0 l hl hb l.length 0 4294967295 (by omega) (by decide)

/-! ## Bytes -/
theorem data_l1 (n m : Nat) (c : Int) (hc : 0 ≤ c ∧ c < 256) (s : List Int) {P : List Int × List Int → Prop} (d : Nat) : ∀ (i : Nat) (out : List Int), i + d = m → m ≤ 9 → Byt out → out.length + d ≤ 4000 →
    (∀ out' : List Int, Byt out' → out'.length = out.length + d → Gets (fun k => wrackmake_data.l0 k out' (n : Int) s) P) → Gets (fun k => wrackmake_data.l1 k out (n : Int) c (m : Int) (i : Int) s) P := by
  induction d with
  | zero =>
    intro i out hi hm ho hl K
    refine Gets.up ?_
    simp only [wrackmake_data.l1, if_neg (show ¬ (i : Int) < (m : Int) by omega)]
    exact K out ho rfl
  | succ d ih =>
    intro i out hi hm ho hl K
    have q1 : (i : Int) < (m : Int) := by omega
    have q2 : out.length < 140737488355328 := by omega
    have hb : Byt (out ++ [c]) := fun x hx => by
      rcases List.mem_append.1 hx with hx | hx
      · exact ho x hx
      · rw [List.mem_singleton.1 hx]; exact hc
    have hl2 : (out ++ [c]).length = out.length + 1 := by rw [List.length_append, List.length_singleton]
    have key := ih (i + 1) (out ++ [c]) (by omega) hm hb (by omega) (fun out' h1 h2 => K out' h1 (by omega))
    have hw := w1 i m (by omega) (by omega)
    refine Gets.up ?_
    simp only [wrackmake_data.l1, hw]
    simp -implicitDefEqProofs only [if_pos q1, if_pos q2]
    exact key
theorem data_l0 (n : Nat) (hn : n ≤ 200) (e : Nat) : ∀ (out s : List Int), n ≤ out.length + e → out.length ≤ 300 → Byt out → Gets (fun k => wrackmake_data.l0 k out (n : Int) s) (fun r => r.1.length ≤ 200 ∧ Byt r.1) := by
  have stop : ∀ (out s : List Int), n ≤ out.length → Byt out → Gets (fun k => wrackmake_data.l0 k out (n : Int) s) (fun r => r.1.length ≤ 200 ∧ Byt r.1) := by
    intro out s h ho
    refine Gets.up ?_
    simp only [wrackmake_data.l0, if_neg (show ¬ (out.length : Int) < (n : Int) by omega), if_pos (show (0 : Int) ≤ (n : Int) by omega), if_pos (show (n : Int) ≤ (out.length : Int) by omega), Int.toNat_natCast]
    exact Gets.ret ⟨by simp only [List.length_take]; omega, fun x hx => ho x (List.mem_of_mem_take hx)⟩
  induction e with
  | zero => exact fun out s h _ ho => stop out s (by omega) ho
  | succ e ih =>
    intro out s h hlen ho
    by_cases c0 : n ≤ out.length
    · exact stop out s c0 ho
    · obtain ⟨v1, s1, hv1, a1, b1⟩ := next_f s (n := 256) (by omega) (by omega)
      obtain ⟨v2, s2, hv2, a2, b2⟩ := next_f s1 (n := 3) (by omega) (by omega)
      have more : ∀ (c : Int) (s' : List Int), 0 ≤ c ∧ c < 256 → Gets (fun k => wrackmake_data.j1 k out (n : Int) c s') (fun r => r.1.length ≤ 200 ∧ Byt r.1) := by
        intro c s' hc
        obtain ⟨v, s3, hv, a, b⟩ := next_f s' (n := 9) (by omega) (by omega)
        obtain ⟨m, rfl⟩ : ∃ m : Nat, v = (m : Int) := ⟨v.toNat, by omega⟩
        have hw : wrap64 (1 + (m : Int)) = ((m + 1 : Nat) : Int) := by rw [w64] <;> omega
        refine Gets.up ?_
        simp only [wrackmake_data.j1]
        rw [hv]
        simp -implicitDefEqProofs only [Option.bind_some]
        rw [hw]
        exact data_l1 n (m + 1) c hc s3 (m + 1) 0 out (by omega) (by omega) ho (by omega) (fun out' h1 h2 => ih out' s3 (by omega) (by omega) h1)
      have q1 : (out.length : Int) < (n : Int) := by omega
      refine Gets.up ?_
      simp only [wrackmake_data.l0]
      rw [hv1]
      simp -implicitDefEqProofs only [if_pos q1, Option.bind_some, hv2]
      by_cases c1 : v2 > 0
      · obtain ⟨v3, s3, hv3, a3, b3⟩ := next_f s2 (n := 5) (by omega) (by omega)
        simp -implicitDefEqProofs only [if_pos c1, hv3, Option.bind_some, if_pos a3, if_pos b3]
        refine more _ s3 ?_
        have := bt_range (⟨#[97, 98, 99, 32, 0]⟩ : ByteArray) v3
        omega
      · simp -implicitDefEqProofs only [if_neg c1]
        exact more _ s2 ⟨Int.emod_nonneg _ (by omega), Int.emod_lt_of_pos _ (by omega)⟩
theorem sums_f : Gets (fun k => wrackkeep1_sums.f k) (· = true) := by
  simp only [wrackkeep1_sums.f]
  refine (crc_f [49, 50, 51, 52, 53, 54, 55, 56, 57] (by decide) (fun x hx => by simp only [List.mem_cons, List.not_mem_nil, or_false] at hx; omega)).bind fun r hr => ?_
  subst hr
  refine Gets.ret ?_
  decide +kernel
end Go.Proofs.Ytehkplafehlkgaa.Pure.SumsSumProofs
