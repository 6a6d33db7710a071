/- wrackkeep1.KnownClashes, plain: a byte changed in one block is found as a clash of that block alone. For every input. -/
import Derived.Test.YtcnabemeadnecaaDoorPKnownClashesx4
import Derived.Test.YtcnabemeadnecaaDoorPlib
namespace Go.Proofs.YtcnabemeadnecaaDoor.Pure
set_option linter.unusedVariables false
set_option linter.unusedSimpArgs false
open Go.RowKit Go.Proofs.YtcnabemeadnecaaDoor.PKnownClashes Go.Proofs.YtcnabemeadnecaaDoorW.PrintWords Go.Proofs.YtcnabemeadnecaaDoorW.PrintLast Go.Proofs.YtcnabemeadnecaaDoorW.PrintMore Go.Proofs.YtcnabemeadnecaaDoorW.PrintMine Go.Proofs.YtcnabemeadnecaaDoorW.Plib
namespace KnownP
theorem w1 (q n : Nat) (h : q < n) (hn : n ≤ 100000) : wrap64 ((q : Int) + 1) = ((q + 1 : Nat) : Int) := by rw [w64] <;> omega

theorem below_f {a n : Int} (hn : 0 < n) (hn2 : n ≤ 9223372036854775807) : wrackmake_Below.f a n = some (a % n) := by
  unfold wrackmake_Below.f
  rw [if_neg (by omega), ← below_val hn hn2]
  split <;> rfl

theorem next_f (l : List Int) {n : Int} (hn : 0 < n) (hn2 : n ≤ 9223372036854775807) : ∃ v l', wrackmake_Stream_Next.f l n = some (v, l') ∧ 0 ≤ v ∧ v < n := by
  unfold wrackmake_Stream_Next.f
  by_cases h : (l.length : Int) = 0
  · exact ⟨0, l, by rw [if_pos h], by omega, hn⟩
  · refine ⟨rd l 0 % n, l.drop 1, ?_, Int.emod_nonneg _ (by omega), Int.emod_lt_of_pos _ hn⟩
    rw [if_neg h, if_neg (by omega), below_f hn hn2, Option.bind_some]

/-- A fault as a drive may have it. -/
def Ent (x : S45) : Prop := 0 ≤ x.f0 ∧ ((x.f1 = 1 ∧ x.f2 = 0) ∨ (x.f1 = 2 ∧ 2 ≤ x.f2 ∧ x.f2 ≤ 16) ∨ (x.f1 = 3 ∧ 2 ≤ x.f2 ∧ x.f2 ≤ 100))
/-- Right faults of the blocks before n, in order. -/
def FOk (F : List S45) (n : Int) : Prop := (F.length : Int) ≤ n ∧ (∀ x ∈ F, Ent x ∧ x.f0 < n) ∧ F.Pairwise (fun a b => a.f0 < b.f0)
theorem FOk.nil (n : Int) (h : 0 ≤ n) : FOk [] n := ⟨by simpa using h, fun x hx => by simp at hx, List.Pairwise.nil⟩
theorem FOk.up {F : List S45} {i : Int} (h : FOk F i) : FOk F (i + 1) := ⟨by have := h.1; omega, fun x hx => ⟨(h.2.1 x hx).1, by have := (h.2.1 x hx).2; omega⟩, h.2.2⟩
theorem FOk.push {F : List S45} {i : Int} (h : FOk F i) {x : S45} (hx : Ent x) (e : x.f0 = i) : FOk (F ++ [x]) (i + 1) := by
  refine ⟨by have := h.1; simp; omega, fun y hy => ?_, ?_⟩
  · rcases List.mem_append.1 hy with hy | hy
    · exact ⟨(h.2.1 y hy).1, by have := (h.2.1 y hy).2; omega⟩
    · obtain rfl := List.mem_singleton.1 hy
      exact ⟨hx, by omega⟩
  · rw [List.pairwise_append]
    refine ⟨h.2.2, List.pairwise_singleton _ _, fun a ha b hb => ?_⟩
    obtain rfl := List.mem_singleton.1 hb
    rw [e]
    exact (h.2.1 a ha).2

/-- Numbers that are bytes. -/
def InB (D : List Int) : Prop := ∀ v ∈ D, 0 ≤ v ∧ v < 256
theorem InB.set {D : List Int} (h : InB D) (i : Nat) (x : Int) : InB (D.set i (x % 256)) := fun v hv => by
  rcases List.mem_or_eq_of_mem_set hv with g | rfl
  · exact h v g
  · exact ⟨Int.emod_nonneg _ (by decide), Int.emod_lt_of_pos _ (by decide)⟩
theorem drive_l1 (F : List S45) (N : Nat) (hN : N ≤ 1000) (d : Nat) : ∀ (i : Nat) (D s : List Int), i + d = N → D.length = N → InB D → Gets (fun k => wrackmake_Drive.l1 k (N : Int) (i : Int) s D F) (fun r => r.1.length = N ∧ r.2 = F ∧ InB r.1) := by
  induction d with
  | zero =>
    intro i D s hi hD hB
    refine Gets.up ?_
    simp only [wrackmake_Drive.l1, if_neg (show ¬ (i : Int) < (N : Int) by omega)]
    exact Gets.ret ⟨hD, rfl, hB⟩
  | succ d ih =>
    intro i D s hi hD hB
    have q1 : (i : Int) < (N : Int) := by omega
    have q2 : (0 : Int) ≤ (i : Int) := by omega
    have q3 : (i : Int) < (D.length : Int) := by omega
    have hw := w1 i N (by omega) (by omega)
    refine Gets.up ?_
    simp only [wrackmake_Drive.l1, hw]
    by_cases c : (s.length : Int) > 0
    · obtain ⟨v, s', hv, a, b⟩ := next_f s (n := 256) (by omega) (by omega)
      simp -implicitDefEqProofs only [if_pos q1, if_pos q2, if_pos q3, if_pos c, hv, Option.bind_some]
      exact ih (i + 1) _ s' (by clear hw; omega) (by rw [List.length_set]; exact hD) (hB.set _ _)
    · simp -implicitDefEqProofs only [if_pos q1, if_pos q2, if_pos q3, if_neg c]
      exact ih (i + 1) _ s (by clear hw; omega) (by rw [List.length_set]; exact hD) (hB.set _ _)

theorem drive_l0 (n : Nat) (hn1 : 1 ≤ n) (hn : n ≤ 12) (d : Nat) : ∀ (i : Nat) (s : List Int) (F : List S45), i + d = n → FOk F (i : Int) → Gets (fun k => wrackmake_Drive.l0 k (n : Int) (n : Int) (i : Int) s F) (fun r => r.1.length = n * 64 ∧ FOk r.2 (n : Int) ∧ InB r.1) := by
  induction d with
  | zero =>
    intro i s F hi hF
    obtain rfl : i = n := by omega
    have e2 : wrap64 ((i : Int) * 64) = ((i * 64 : Nat) : Int) := by rw [w64] <;> omega
    have q1 : (0 : Int) ≤ ((i * 64 : Nat) : Int) := by omega
    have q2 : i * 64 ≤ 281474976710656 := by omega
    refine Gets.up ?_
    simp only [wrackmake_Drive.l0, if_neg (show ¬ (i : Int) < (i : Int) by omega), e2, Int.toNat_natCast]
    simp -implicitDefEqProofs only [if_pos q1, if_pos q2, Option.bind_some, List.length_replicate]
    exact (drive_l1 F (i * 64) (by omega) (i * 64) 0 _ s (by omega) (by rw [List.length_replicate]) (fun v hv => by rw [List.eq_of_mem_replicate hv]; decide)).imp fun r hr => ⟨hr.1, by rw [hr.2.1]; exact hF, hr.2.2⟩
  | succ d ih =>
    intro i s F hi hF
    have q1 : (i : Int) < (n : Int) := by omega
    have q4 : F.length < 5864062014805 := by have := hF.1; omega
    have hw := w1 i n (by omega) (by omega)
    obtain ⟨v, s1, hv, a, b⟩ := next_f s (n := 4) (by omega) (by omega)
    refine Gets.up ?_
    simp only [wrackmake_Drive.l0, hw, hv, Option.bind_some]
    simp -implicitDefEqProofs only [if_pos q1]
    have hi1 : i + 1 + d = n := by clear hw; omega
    have ec : ((i + 1 : Nat) : Int) = (i : Int) + 1 := by clear hw; omega
    by_cases c : v > 0
    · simp -implicitDefEqProofs only [if_pos c]
      exact ih (i + 1) s1 F hi1 (by rw [ec]; exact hF.up)
    · obtain ⟨u, s2, hu, a2, b2⟩ := next_f s1 (n := 3) (by omega) (by omega)
      have eu : wrap64 (1 + u) = 1 + u := by rw [w64] <;> omega
      simp -implicitDefEqProofs only [if_neg c, hu, Option.bind_some, eu]
      by_cases c2 : 1 + u = 2
      · obtain ⟨t, s3, ht, a3, b3⟩ := next_f s2 (n := 5) (by omega) (by omega)
        have et : wrap64 (2 + t) = 2 + t := by rw [w64] <;> omega
        simp -implicitDefEqProofs only [if_pos c2, ht, Option.bind_some, et, if_pos q4]
        exact ih (i + 1) s3 _ hi1 (by rw [ec]; exact hF.push ⟨by show (0 : Int) ≤ i; omega, Or.inr (Or.inl ⟨c2, by show 2 ≤ 2 + t; omega, by show 2 + t ≤ 16; omega⟩)⟩ rfl)
      · by_cases c3 : 1 + u = 3
        · obtain ⟨t, s3, ht, a3, b3⟩ := next_f s2 (n := 9) (by omega) (by omega)
          have et : wrap64 (2 + t) = 2 + t := by rw [w64] <;> omega
          simp -implicitDefEqProofs only [if_neg c2, if_pos c3, ht, Option.bind_some, et, if_pos q4]
          exact ih (i + 1) s3 _ hi1 (by rw [ec]; exact hF.push ⟨by show (0 : Int) ≤ i; omega, Or.inr (Or.inr ⟨c3, by show 2 ≤ 2 + t; omega, by show 2 + t ≤ 100; omega⟩)⟩ rfl)
        · simp -implicitDefEqProofs only [if_neg c2, if_neg c3, if_pos q4]
          exact ih (i + 1) s2 _ hi1 (by rw [ec]; exact hF.push ⟨by show (0 : Int) ≤ i; omega, Or.inl ⟨by show 1 + u = 1; omega, rfl⟩⟩ rfl)

theorem drive_f (l : List Int) : Gets (fun k => wrackmake_Drive.f k l) (fun r => ∃ n : Nat, 1 ≤ n ∧ n ≤ 12 ∧ r.1.length = n * 64 ∧ FOk r.2 (n : Int) ∧ InB r.1) := by
  obtain ⟨v, s, hv, a, b⟩ := next_f l (n := 12) (by omega) (by omega)
  obtain ⟨m, rfl⟩ : ∃ m : Nat, v = (m : Int) := ⟨v.toNat, by omega⟩
  have e1 : wrap64 (1 + (m : Int)) = ((1 + m : Nat) : Int) := by rw [w64] <;> omega
  simp -implicitDefEqProofs only [wrackmake_Drive.f, hv, Option.bind_some, e1]
  exact (drive_l0 (1 + m) (by omega) (by omega) (1 + m) 0 s [] (by omega) (FOk.nil _ (by omega))).imp fun r hr => ⟨1 + m, by omega, by omega, hr.1, hr.2.1, hr.2.2⟩

theorem equal_l0 (l : List Int) (hl : l.length ≤ 4000) (m : Nat) : ∀ d i : Nat, i + d = l.length → slices_Equal_byte_byte.l0 (d + 1 + m) l l (l.length : Int) (i : Int) = some true
  | 0, i, hi => by
    rw [show 0 + 1 + m = m + 1 by omega]
    simp only [slices_Equal_byte_byte.l0, if_neg (show ¬ (i : Int) < (l.length : Int) by omega)]
  | d + 1, i, hi => by
    have q1 : (i : Int) < (l.length : Int) := by omega
    have q2 : (0 : Int) ≤ (i : Int) := by omega
    have hw := w1 i l.length (by omega) (by omega)
    have key := equal_l0 l hl m d (i + 1) (by clear hw; omega)
    rw [show d + 1 + 1 + m = (d + 1 + m) + 1 by clear hw; omega]
    simp only [slices_Equal_byte_byte.l0, hw, if_true]
    simp -implicitDefEqProofs only [if_pos q1, if_pos q2]
    exact key
theorem equal_all (l : List Int) (hl : l.length ≤ 4000) (k : Nat) (hk : l.length + 1 ≤ k) : slices_Equal_byte_byte.f k l l = some true := by
  simp only [slices_Equal_byte_byte.f, if_true]
  have := equal_l0 l hl (k - (l.length + 1)) l.length 0 (by omega)
  rw [show l.length + 1 + (k - (l.length + 1)) = k by omega] at this
  exact this
theorem equalI_l0 (l : List Int) (hl : l.length ≤ 4000) (m : Nat) : ∀ d i : Nat, i + d = l.length → slices_Equal_int_int.l0 (d + 1 + m) l l (l.length : Int) (i : Int) = some true
  | 0, i, hi => by
    rw [show 0 + 1 + m = m + 1 by omega]
    simp only [slices_Equal_int_int.l0, if_neg (show ¬ (i : Int) < (l.length : Int) by omega)]
  | d + 1, i, hi => by
    have q1 : (i : Int) < (l.length : Int) := by omega
    have q2 : (0 : Int) ≤ (i : Int) := by omega
    have hw := w1 i l.length (by omega) (by omega)
    have key := equalI_l0 l hl m d (i + 1) (by clear hw; omega)
    rw [show d + 1 + 1 + m = (d + 1 + m) + 1 by clear hw; omega]
    simp only [slices_Equal_int_int.l0, hw, if_true]
    simp -implicitDefEqProofs only [if_pos q1, if_pos q2]
    exact key
theorem equalI_all (l : List Int) (hl : l.length ≤ 4000) (k : Nat) (hk : l.length + 1 ≤ k) : slices_Equal_int_int.f k l l = some true := by
  simp only [slices_Equal_int_int.f, if_true]
  have := equalI_l0 l hl (k - (l.length + 1)) l.length 0 (by omega)
  rw [show l.length + 1 + (k - (l.length + 1)) = k by omega] at this
  exact this
theorem mul_f : ∀ n : Nat, n ≤ 12 → bits_Mul.f 1 ((n : Nat) : Int) = some (0, ((n : Nat) : Int)) := by
  intro n hn
  have h : ∀ m : Fin 13, bits_Mul.f 1 ((m.val : Nat) : Int) = some (0, ((m.val : Nat) : Int)) := by decide +kernel
  exact h ⟨n, by omega⟩
theorem u8_inj {a b : Int} (ha : 0 ≤ a ∧ a < 256) (hb : 0 ≤ b ∧ b < 256) (h : UInt8.ofNat a.toNat = UInt8.ofNat b.toNat) : a = b := by
  have h := congrArg UInt8.toNat h
  simp only [UInt8.toNat_ofNat'] at h
  omega
theorem map_inj : ∀ {a b : List Int}, InB a → InB b → a.map (fun n => UInt8.ofNat n.toNat) = b.map (fun n => UInt8.ofNat n.toNat) → a = b
  | [], [], _, _, _ => rfl
  | [], _ :: _, _, _, h => by simp at h
  | _ :: _, [], _, _, h => by simp at h
  | x :: a, y :: b, ha, hb, h => by
    simp only [List.map_cons, List.cons.injEq] at h
    rw [u8_inj (ha x (by simp)) (hb y (by simp)) h.1, map_inj (fun v hv => ha v (by simp [hv])) (fun v hv => hb v (by simp [hv])) h.2]
theorem clash_none {A B : List Int} : ∀ (d i : Nat), (∀ b, i ≤ b → b < i + d → kblk A b = kblk B b) → clashL A B d i = []
  | 0, i, _ => rfl
  | d + 1, i, h => by
    unfold clashL
    rw [if_pos (h i (by omega) (by omega))]
    exact clash_none d (i + 1) fun b h1 h2 => h b (by omega) (by omega)
theorem clash_one {A B : List Int} {p : Nat} (hp : kblk A p ≠ kblk B p) (hs : ∀ b, b ≠ p → kblk A b = kblk B b) : ∀ (d i : Nat), i ≤ p → p < i + d → clashL A B d i = [(p : Int)]
  | 0, i, h1, h2 => by omega
  | d + 1, i, h1, h2 => by
    unfold clashL
    by_cases c : i = p
    · subst c
      rw [if_neg hp, clash_none d (i + 1) fun b h1 h2 => hs b (by omega)]
    · rw [if_pos (hs i c)]
      exact clash_one hp hs d (i + 1) (by omega) (by omega)
theorem kblk_set (D : List Int) (j : Nat) (v : Int) (b : Nat) (h : j / 64 ≠ b) : kblk D b = kblk (D.set j v) b := by
  unfold kblk
  apply List.ext_getElem?
  intro i
  rw [List.getElem?_take, List.getElem?_take]
  split
  · rw [List.getElem?_drop, List.getElem?_drop, List.getElem?_set]
    rw [if_neg (by omega)]
  · rfl
theorem kblk_at (D : List Int) (p i : Nat) (h : i < 64) : (kblk D p)[i]? = D[64 * p + i]? := by
  unfold kblk
  rw [List.getElem?_take, if_pos h, List.getElem?_drop]
theorem xor_ne : ∀ a : Fin 256, ∀ y : Fin 255, 0 ≤ Go.bits .xor .u8 (a.val : Int) (1 + (y.val : Int)) ∧ Go.bits .xor .u8 (a.val : Int) (1 + (y.val : Int)) < 256 ∧ Go.bits .xor .u8 (a.val : Int) (1 + (y.val : Int)) ≠ (a.val : Int) := by decide +kernel
theorem val_mem {D : List Int} (h : InB D) {j : Nat} (hj : j < D.length) : D[j]? = some (rdOf 0 D ((j : Nat) : Int)) ∧ 0 ≤ rdOf 0 D ((j : Nat) : Int) ∧ rdOf 0 D ((j : Nat) : Int) < 256 := by
  have e : rdOf 0 D ((j : Nat) : Int) = D[j] := by
    unfold rdOf
    rw [Int.toNat_natCast]
    simp [hj]
  rw [e]
  exact ⟨List.getElem?_eq_getElem hj, h _ (List.getElem_mem hj)⟩
theorem xor_at {a : Int} (ha : 0 ≤ a ∧ a < 256) {x : Nat} (hx : x < 255) : 0 ≤ Go.bits .xor .u8 a (1 + (x : Int)) ∧ Go.bits .xor .u8 a (1 + (x : Int)) < 256 ∧ Go.bits .xor .u8 a (1 + (x : Int)) ≠ a := by
  obtain ⟨n, rfl⟩ : ∃ n : Nat, a = n := ⟨a.toNat, by omega⟩
  exact xor_ne ⟨n, by omega⟩ ⟨x, hx⟩
theorem beq_f {a b : List Int} (ha : InB a) (hb : InB b) : bytes_Equal.f a b = some (decide (a = b)) := by
  unfold bytes_Equal.f
  congr 1
  by_cases c : a = b
  · subst c
    simp
  · rw [decide_eq_false c]
    rw [beq_eq_false_iff_ne]
    intro h
    refine c (map_inj ha hb ?_)
    rw [← strOfNums_data, ← strOfNums_data]
    rw [ByteArray.toList_eq, ByteArray.toList_eq] at h
    exact h
theorem law_f (l0 : List Int) (a1 a2 a3 : Int) : Gets (fun k => wrackkeep1_KnownClashes.f k l0 a1 a2 a3) (· = true) := by
  simp only [wrackkeep1_KnownClashes.f]
  refine (drive_f l0).bind fun r hr => ?_
  obtain ⟨D, F⟩ := r
  obtain ⟨n, n1, n2, hD, hF, hB⟩ := hr
  simp only at hD hF hB ⊢
  have hn : D.length / 64 = n := by omega
  rw [hn]
  have p0 := Int.emod_nonneg a1 (show (n : Int) ≠ 0 by omega)
  have p1 := Int.emod_lt_of_pos a1 (show 0 < (n : Int) by omega)
  have i0 := Int.emod_nonneg a2 (show (64 : Int) ≠ 0 by omega)
  have i1 := Int.emod_lt_of_pos a2 (show 0 < (64 : Int) by omega)
  have x0 := Int.emod_nonneg a3 (show (255 : Int) ≠ 0 by omega)
  have x1 := Int.emod_lt_of_pos a3 (show 0 < (255 : Int) by omega)
  simp only [below_f (a := a1) (n := (n : Int)) (by omega) (by omega), below_f (a := a2) (n := 64) (by omega) (by omega), below_f (a := a3) (n := 255) (by omega) (by omega), Option.bind_some]
  generalize a1 % (n : Int) = p at *
  generalize a2 % 64 = i at *
  generalize a3 % 255 = x at *
  obtain ⟨p, rfl⟩ : ∃ q : Nat, p = q := ⟨p.toNat, by omega⟩
  obtain ⟨i, rfl⟩ : ∃ q : Nat, i = q := ⟨i.toNat, by omega⟩
  obtain ⟨x, rfl⟩ : ∃ q : Nat, x = q := ⟨x.toNat, by omega⟩
  have hj : 64 * p + i < D.length := by omega
  obtain ⟨v1, v2, v3⟩ := val_mem hB hj
  obtain ⟨u1, u2, u3⟩ := xor_at ⟨v2, v3⟩ (show x < 255 by omega)
  have e2 : wrackkeep1_KnownClashes.D2 D (p : Int) (i : Int) (x : Int) = D.set (64 * p + i) (Go.bits .xor .u8 (rdOf 0 D ((64 * p + i : Nat) : Int)) (1 + (x : Int))) := by
    unfold wrackkeep1_KnownClashes.D2
    rw [Int.toNat_natCast, Int.toNat_natCast]
  rw [e2]
  generalize Go.bits .xor .u8 (rdOf 0 D ((64 * p + i : Nat) : Int)) (1 + (x : Int)) = v at *
  have hB2 : InB (D.set (64 * p + i) v) := fun y hy => by
    rcases List.mem_or_eq_of_mem_set hy with g | rfl
    · exact hB y g
    · exact ⟨u1, u2⟩
  have hkb : ∀ {A : List Int}, InB A → ∀ b, InB (kblk A b) := fun h b y hy => h y (List.mem_of_mem_drop (List.mem_of_mem_take hy))
  have hs : ∀ b, b ≠ p → kblk D b = kblk (D.set (64 * p + i) v) b := fun b hb => kblk_set D _ v b (by omega)
  have hp : kblk D p ≠ kblk (D.set (64 * p + i) v) p := fun e => by
    have e := congrArg (fun l => l[i]?) e
    simp only [kblk_at _ p i (by omega : i < 64)] at e
    rw [v1, List.getElem?_set_self hj] at e
    exact u3 (Option.some.inj e).symm
  refine ⟨true, rfl, D.length + 2, fun k hk => ?_⟩
  refine if_pos ?_
  refine ⟨⟨by omega, by omega, by omega, by omega, by omega, by omega, by omega, by omega, by omega⟩, mul_f n n2, by decide, equalI_all _ (by simp) k (by simp; omega), equal_all D (by omega) k (by omega), fun b _ => beq_f (hkb hB b) (hkb hB2 b), clash_one hp hs n 0 (by omega) (by omega)⟩
end KnownP
/-- The law, plain. -/
theorem KnownClashes : wrackkeep1_KnownClashes.Pure := by
  intro l0 a1 a2 a3 _ _ _ _ _ _
  obtain ⟨k, r, h1, h2⟩ := (KnownP.law_f l0 a1 a2 a3).get
  refine ⟨k, ?_⟩
  rw [← h2]
  exact h1
end Go.Proofs.YtcnabemeadnecaaDoor.Pure
