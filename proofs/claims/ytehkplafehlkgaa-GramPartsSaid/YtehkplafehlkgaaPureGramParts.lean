/- wrackkeep3.GramParts: what can occur at the beginning or the end of a string can occur in one, and so can its parts; a string can occur as each of them. For every input. -/
import Derived.Test.YtehkplafehlkgaaPGramPartsx6
import Derived.Test.YtehkplafehlkgaaPlibBits
namespace Go.Proofs.Ytehkplafehlkgaa.Pure
open Go.RowKit Go.Proofs.Ytehkplafehlkgaa.PGramParts Go.Proofs.YtehkplafehlkgaaW.PrintWords Go.Proofs.YtehkplafehlkgaaW.PrintLast Go.Proofs.YtehkplafehlkgaaW.PrintMore Go.Proofs.YtehkplafehlkgaaW.Plib
namespace GramP

theorem below_f {a n : Int} (hn : 0 < n) (hn2 : n ≤ 9223372036854775807) : wrackmake_Below.f a n = some (a % n) := by
  unfold wrackmake_Below.f
  rw [if_neg (by omega), ← below_val hn hn2]
  split <;> rfl
theorem next_f (l : List Int) {n : Int} (hn : 0 < n) (hn2 : n ≤ 9223372036854775807) : ∃ v l', wrackmake_Stream_Next.f l n = some (v, l') ∧ 0 ≤ v ∧ v < n := by
  unfold wrackmake_Stream_Next.f
  by_cases h : (l.length : Int) = 0
  · exact ⟨0, l, by rw [if_pos h], by omega, hn⟩
  · refine ⟨rd l 0 % n, l.drop 1, ?_, Int.emod_nonneg _ (by omega), Int.emod_lt_of_pos _ hn⟩
    rw [if_neg h, if_neg (by omega), below_f hn hn2, Option.bind_some]

/-- A right move of a machine of n states. -/
def MoveOk (n : Int) (m : S131) : Prop := 0 ≤ m.f0 ∧ m.f0 < n ∧ 0 ≤ m.f1 ∧ m.f1 < n ∧ m.f2 ≤ m.f3
def EndsOk (n : Int) (E : List Int) : Prop := (∀ x ∈ E, 0 ≤ x ∧ x < n) ∧ E.Nodup
def MachOk (r : Int × List S131 × List Int) : Prop := 1 ≤ r.1 ∧ r.1 ≤ 8 ∧ r.2.1.length ≤ 200 ∧ (∀ m ∈ r.2.1, MoveOk r.1 m) ∧ r.2.2.length ≤ 8 ∧ EndsOk r.1 r.2.2

theorem machine_l1 (n : Int) (M : List S131) (hn1 : 1 ≤ n) (hn8 : n ≤ 8) (hM : M.length ≤ 200) (hMo : ∀ m ∈ M, MoveOk n m) (d : Nat) : ∀ (i : Int) (s E : List Int), 0 ≤ i → i + d = n → (E.length : Int) ≤ i → (∀ x ∈ E, 0 ≤ x ∧ x < i) → E.Nodup →
    Gets (fun k => wrackkeep3_machine.l1 k n i s n M E) MachOk := by
  induction d with
  | zero =>
    intro i s E h0 h1 h2 h3 h4
    refine Gets.up ?_
    simp only [wrackkeep3_machine.l1, if_neg (show ¬ i < n by omega)]
    exact Gets.ret ⟨hn1, hn8, hM, hMo, by simp only; omega, fun x hx => ⟨(h3 x hx).1, by have := (h3 x hx).2; simp only; omega⟩, h4⟩
  | succ d ih =>
    intro i s E h0 h1 h2 h3 h4
    obtain ⟨v, s', hv, _, _⟩ := next_f s (n := 3) (by omega) (by omega)
    refine Gets.up ?_
    simp only [wrackkeep3_machine.l1, if_pos (show i < n by omega), hv, Option.bind_some]
    have hw : wrap64 (i + 1) = i + 1 := w64 (by omega) (by omega)
    by_cases c : v = 0
    · simp only [if_pos c, if_pos (show E.length < 17592186044416 by omega), hw]
      refine ih (i + 1) s' (E ++ [i]) (by omega) (by omega) (by simp; omega) ?_ ?_
      · intro x hx
        rcases List.mem_append.1 hx with hx | hx
        · have := h3 x hx; omega
        · have : x = i := by simpa using hx
          omega
      · rw [List.nodup_append]
        refine ⟨h4, by simp, fun a ha b hb => ?_⟩
        have hb' : b = i := by simpa using hb
        have := h3 a ha
        omega
    · simp only [if_neg c, hw]
      exact ih (i + 1) s' E (by omega) (by omega) (by omega) (fun x hx => by have := h3 x hx; omega) h4
theorem machine_l0 (n c : Int) (hn1 : 1 ≤ n) (hn8 : n ≤ 8) (hc : c ≤ 16) (d : Nat) : ∀ (i : Int) (s : List Int) (M : List S131), 0 ≤ i → i + d = c → (M.length : Int) ≤ i → (∀ m ∈ M, MoveOk n m) →
    Gets (fun k => wrackkeep3_machine.l0 k c i s n M) MachOk := by
  induction d with
  | zero =>
    intro i s M h0 h1 h2 h3
    refine Gets.up ?_
    simp only [wrackkeep3_machine.l0, if_neg (show ¬ i < c by omega)]
    exact machine_l1 n M hn1 hn8 (by omega) h3 n.toNat 0 s [] (by omega) (by omega) (by simp) (by simp) (by simp)
  | succ d ih =>
    intro i s M h0 h1 h2 h3
    obtain ⟨a, s1, ha, a0, a1⟩ := next_f s (n := 4) (by omega) (by omega)
    obtain ⟨b, s2, hb, b0, b1⟩ := next_f s1 (n := n) (by omega) (by omega)
    obtain ⟨e, s3, he, e0, e1⟩ := next_f s2 (n := n) (by omega) (by omega)
    obtain ⟨f, s4, hf, f0, f1⟩ := next_f s3 (n := 2) (by omega) (by omega)
    refine Gets.up ?_
    simp only [wrackkeep3_machine.l0, if_pos (show i < c by omega), ha, hb, he, hf, Option.bind_some, if_pos (show M.length < 5864062014805 by omega)]
    have hw : wrap64 (i + 1) = i + 1 := w64 (by omega) (by omega)
    have hw1 : wrap64 (97 + a) = 97 + a := w64 (by omega) (by omega)
    have hw2 : wrap64 (97 + a + f) = 97 + a + f := w64 (by omega) (by omega)
    rw [hw, hw1, hw2]
    refine ih (i + 1) s4 _ (by omega) (by omega) (by simp; omega) ?_
    intro m hm
    rcases List.mem_append.1 hm with hm | hm
    · exact h3 m hm
    · have : m = ⟨b, e, (97 + a) % 256, (97 + a + f) % 256⟩ := by simpa using hm
      subst this
      exact ⟨b0, b1, e0, e1, by simp only; omega⟩
theorem machine_f (l : List Int) : Gets (fun k => wrackkeep3_machine.f k l) MachOk := by
  obtain ⟨a, s1, ha, a0, a1⟩ := next_f l (n := 8) (by omega) (by omega)
  obtain ⟨b, s2, hb, b0, b1⟩ := next_f s1 (n := 16) (by omega) (by omega)
  have hw : wrap64 (1 + a) = 1 + a := w64 (by omega) (by omega)
  simp only [wrackkeep3_machine.f, ha, hb, Option.bind_some, hw]
  exact machine_l0 (1 + a) b (by omega) (by omega) (by omega) b.toNat 0 s2 [] (by omega) (by omega) (by simp) (by simp)

theorem letters_l0 (l : List Int) (hl : l.length ≤ 8) (d : Nat) : ∀ (i : Int) (acc : List Int), 0 ≤ i → i + d = l.length → (acc.length : Int) ≤ i → Gets (fun k => wrackkeep3_letters.l0 k acc l (l.length : Int) i) (fun r => r.length ≤ 8) := by
  induction d with
  | zero =>
    intro i acc h0 h1 h2
    refine Gets.up ?_
    simp only [wrackkeep3_letters.l0, if_neg (show ¬ i < (l.length : Int) by omega)]
    exact Gets.ret (by omega)
  | succ d ih =>
    intro i acc h0 h1 h2
    refine Gets.up ?_
    have hw : wrap64 (i + 1) = i + 1 := w64 (by omega) (by omega)
    simp only [wrackkeep3_letters.l0, if_pos (show i < (l.length : Int) by omega), if_pos h0, below_f (a := rd l i) (n := 5) (by omega) (by omega), Option.bind_some, if_pos (show acc.length < 140737488355328 by omega), hw]
    exact ih (i + 1) _ (by omega) (by omega) (by simp; omega)
theorem letters_f (l : List Int) : Gets (fun k => wrackkeep3_letters.f k l 8) (fun r => r.length ≤ 8) := by
  have h1 : mn (l.length : Int) 8 = ((min l.length 8 : Nat) : Int) := by unfold mn; split <;> omega
  simp only [wrackkeep3_letters.f, h1, Int.toNat_natCast, Option.bind_some, if_pos (show (0 : Int) ≤ ((min l.length 8 : Nat) : Int) by omega), if_pos (show ((min l.length 8 : Nat) : Int) ≤ (l.length : Int) by omega)]
  refine letters_l0 (l.take (min l.length 8)) ?_ (l.take (min l.length 8)).length 0 [] (by omega) (by omega) (by simp)
  rw [List.length_take]
  omega

section mach
variable (n : Int) (M : List S131) (E : List Int)
theorem rdM {i : Int} (h0 : 0 ≤ i) (h1 : i < M.length) : rd_T131 M i ∈ M := by
  unfold rd_T131
  rw [List.getD_eq_getElem?_getD, List.getElem?_eq_getElem (by omega)]
  simp
end mach

theorem contains_l0 (l : List Int) (x : Int) (hx : x ∉ l) (hl : l.length ≤ 8) (d : Nat) : ∀ i : Int, 0 ≤ i → i + d = l.length → Gets (fun k => slices_Index_int_int.l0 k l x (l.length : Int) i) (fun r => r = -1) := by
  induction d with
  | zero =>
    intro i h0 h1
    refine Gets.up ?_
    simp only [slices_Index_int_int.l0, if_neg (show ¬ i < (l.length : Int) by omega)]
    exact Gets.ret rfl
  | succ d ih =>
    intro i h0 h1
    refine Gets.up ?_
    have hw : wrap64 (i + 1) = i + 1 := w64 (by omega) (by omega)
    have hne : ¬ x = rd l i := by
      rw [rd_lt h0 (by omega)]
      exact fun e => hx (e ▸ List.getElem_mem _)
    simp only [slices_Index_int_int.l0, if_pos (show i < (l.length : Int) by omega), if_pos h0, if_neg hne, hw]
    exact ih (i + 1) (by omega) (by omega)
theorem contains_f (l : List Int) (x : Int) (hx : x ∉ l) (hl : l.length ≤ 8) : Gets (fun k => slices_Contains_int_int.f k l x) (fun r => r = false) := by
  unfold slices_Contains_int_int.f
  refine Gets.bind (P := fun r => r = -1) ?_ ?_
  · unfold slices_Index_int_int.f
    exact contains_l0 l x hx hl l.length 0 (by omega) (by omega)
  · rintro r rfl
    exact Gets.ret (by decide)

theorem check_l1 (n : Int) (M : List S131) (E : List Int) (hE8 : E.length ≤ 8) (hE : EndsOk n E) (d : Nat) : ∀ i : Int, 0 ≤ i → i + d = E.length → Gets (fun k => gram_Check.l1 k E (E.length : Int) i n M E) (fun r => r = 0) := by
  induction d with
  | zero =>
    intro i h0 h1
    refine Gets.up ?_
    simp only [gram_Check.l1, if_neg (show ¬ i < (E.length : Int) by omega)]
    exact Gets.ret rfl
  | succ d ih =>
    intro i h0 h1
    have hw : wrap64 (i + 1) = i + 1 := w64 (by omega) (by omega)
    have hm : rd E i ∈ E := by rw [rd_lt h0 (by omega)]; exact List.getElem_mem _
    obtain ⟨e0, e1⟩ := hE.1 _ hm
    have hnm : rd E i ∉ E.take i.toNat := by
      rw [rd_lt h0 (by omega)]
      intro hmem
      obtain ⟨j, hj, e⟩ := List.getElem_of_mem hmem
      rw [List.getElem_take] at e
      have hj2 : j < i.toNat := by rw [List.length_take] at hj; omega
      exact (List.pairwise_iff_getElem.1 hE.2) j i.toNat (by omega) (by omega) hj2 e
    refine Gets.up ?_
    simp only [gram_Check.l1, if_pos (show i < (E.length : Int) by omega), if_pos h0, if_neg (show ¬ rd E i < 0 by omega)]
    refine Gets.up ?_
    simp only [gram_Check.j3, show decide (rd E i ≥ n) = false by simp; omega, if_neg (show ¬ (false = true) by decide), if_pos h0, if_pos (show i ≤ (E.length : Int) by omega), hw]
    refine Gets.bind (contains_f (E.take i.toNat) (rd E i) hnm (by rw [List.length_take]; omega)) ?_
    rintro r rfl
    simp only [if_neg (show ¬ (false = true) by decide)]
    exact ih (i + 1) (by omega) (by omega)
theorem check_l0 (n : Int) (M : List S131) (E : List Int) (hM8 : M.length ≤ 200) (hM : ∀ m ∈ M, MoveOk n m) (hE8 : E.length ≤ 8) (hE : EndsOk n E) (d : Nat) : ∀ i : Int, 0 ≤ i → i + d = M.length → Gets (fun k => gram_Check.l0 k M (M.length : Int) i n M E) (fun r => r = 0) := by
  induction d with
  | zero =>
    intro i h0 h1
    refine Gets.up ?_
    simp only [gram_Check.l0, if_neg (show ¬ i < (M.length : Int) by omega)]
    exact check_l1 n M E hE8 hE E.length 0 (by omega) (by omega)
  | succ d ih =>
    intro i h0 h1
    obtain ⟨m0, m1, m2, m3, m4⟩ := hM _ (rdM M h0 (show i < M.length by omega))
    have hw : wrap64 (i + 1) = i + 1 := w64 (by omega) (by omega)
    refine Gets.up ?_
    simp only [gram_Check.l0, if_pos (show i < (M.length : Int) by omega), if_pos h0, if_neg (Int.not_lt.2 m0), if_neg (show ¬ (rd_T131 M i).f0 ≥ n by omega), if_neg (Int.not_lt.2 m2), if_neg (show ¬ (rd_T131 M i).f1 ≥ n by omega), if_neg (show ¬ (rd_T131 M i).f2 > (rd_T131 M i).f3 by omega), hw]
    exact ih (i + 1) (by omega) (by omega)
theorem check_f (n : Int) (M : List S131) (E : List Int) (h : MachOk (n, M, E)) : Gets (fun k => gram_Check.f k n M E) (fun r => r = 0) := by
  obtain ⟨h1, h2, h3, h4, h5, h6⟩ := h
  simp only at h1 h2 h3 h4 h5 h6
  simp only [gram_Check.f, if_neg (show ¬ n < 1 by omega), if_neg (show ¬ n > 32 by omega)]
  refine Gets.up ?_
  simp only [gram_Check.j0, show decide ((M.length : Int) > 200) = false by simp; omega, if_neg (show ¬ (false = true) by decide)]
  exact check_l0 n M E h3 h4 h5 h6 M.length 0 (by omega) (by omega)


/-- A number of a set: an Int that is a Nat below 2^32. -/
def Set32 (x : Int) (P : Nat → Prop) : Prop := ∃ X : Nat, x = X ∧ X < 2 ^ 32 ∧ ∀ q, X.testBit q = true ↔ P q
theorem Set32.imp {x : Int} {P Q : Nat → Prop} (h : Set32 x P) (e : ∀ q, P q ↔ Q q) : Set32 x Q := by
  obtain ⟨X, hx, hl, hb⟩ := h
  exact ⟨X, hx, hl, fun q => (hb q).trans (e q)⟩
theorem toN {x : Int} (h0 : 0 ≤ x) : ((x.toNat : Nat) : Int) = x := by omega
theorem Set32.has {x : Int} {P : Nat → Prop} (h : Set32 x P) {q : Int} (q0 : 0 ≤ q) (q1 : q < 32) : (Go.bits .and .u32 (shr .u32 x q) 1 = 1) ↔ P q.toNat := by
  obtain ⟨X, rfl, hl, hb⟩ := h
  rw [← hb, ← has32 X q.toNat hl (by omega), toN q0]
theorem Set32.put {x : Int} {P : Nat → Prop} (h : Set32 x P) {q : Int} (q0 : 0 ≤ q) (q1 : q < 32) : Set32 (Go.bits .or .u32 x (shl .u32 1 q)) (fun r => P r ∨ q.toNat = r) := by
  obtain ⟨X, rfl, hl, hb⟩ := h
  refine ⟨X ||| 2 ^ q.toNat, ?_, put32_lt hl (by omega), fun r => ?_⟩
  · rw [← put32 X q.toNat hl (by omega), toN q0]
  · rw [put32_has, hb]
theorem Set32.meet {x y : Int} {P Q : Nat → Prop} (h : Set32 x P) (h' : Set32 y Q) : (Go.bits .and .u32 x y != 0) = true ↔ ∃ q, P q ∧ Q q := by
  obtain ⟨X, rfl, hl, hb⟩ := h
  obtain ⟨Y, rfl, hl', hb'⟩ := h'
  rw [meet32 hl hl']
  simp only [hb, hb']
theorem set_zero : Set32 0 (fun _ => False) := ⟨0, rfl, by decide, fun q => by simp⟩
theorem set_one : Set32 1 (fun q => q = 0) := ⟨1, rfl, by decide, fun q => by rw [show (1 : Nat) = 2 ^ 0 from rfl, Nat.testBit_two_pow]; simp [eq_comm]⟩

section sets
variable (n : Int) (M : List S131) (E : List Int)
/-- A move by c from p to q. -/
def Goes (c : Int) (p q : Nat) : Prop := ∃ m ∈ M, m.f0.toNat = p ∧ m.f2 ≤ c ∧ c ≤ m.f3 ∧ m.f1.toNat = q
def Path : List Int → Nat → Nat → Prop
  | [], p, q => p = q
  | c :: t, p, q => ∃ r, Goes M c p r ∧ Path t r q
theorem path_split (a b : List Int) : ∀ p q, Path M (a ++ b) p q ↔ ∃ r, Path M a p r ∧ Path M b r q := by
  induction a with
  | nil => intro p q; simp [Path]
  | cons c t ih =>
    intro p q
    simp only [List.cons_append, Path, ih]
    constructor
    · rintro ⟨r, hg, s, h1, h2⟩; exact ⟨s, ⟨r, hg, h1⟩, h2⟩
    · rintro ⟨s, ⟨r, hg, h1⟩, h2⟩; exact ⟨r, hg, s, h1, h2⟩
theorem drop_at {i : Int} (h0 : 0 ≤ i) (h1 : i < M.length) : M.drop i.toNat = rd_T131 M i :: M.drop (i + 1).toNat := by
  rw [List.drop_eq_getElem_cons (show i.toNat < M.length by omega), show (i + 1).toNat = i.toNat + 1 by omega]
  congr 1
  unfold rd_T131
  rw [List.getD_eq_getElem?_getD, List.getElem?_eq_getElem (by omega)]
  rfl
theorem drop_int {l : List Int} {i : Int} (h0 : 0 ≤ i) (h1 : i < l.length) : l.drop i.toNat = rd l i :: l.drop (i + 1).toNat := by
  rw [List.drop_eq_getElem_cons (show i.toNat < l.length by omega), show (i + 1).toNat = i.toNat + 1 by omega, rd_lt h0 h1]

theorem step_l0 (hn8 : n ≤ 8) (hM8 : M.length ≤ 200) (hM : ∀ m ∈ M, MoveOk n m) (x c : Int) (P : Nat → Prop) (hx : Set32 x P) (d : Nat) : ∀ (i a : Int) (A : Nat → Prop), 0 ≤ i → i + d = M.length → Set32 a A →
    Gets (fun k => gram_step.l0 k x c a M (M.length : Int) i) (fun r => Set32 r (fun q => A q ∨ ∃ m ∈ M.drop i.toNat, P m.f0.toNat ∧ m.f2 ≤ c ∧ c ≤ m.f3 ∧ m.f1.toNat = q)) := by
  induction d with
  | zero =>
    intro i a A h0 h1 ha
    refine Gets.up ?_
    simp only [gram_step.l0, if_neg (show ¬ i < (M.length : Int) by omega)]
    refine Gets.ret (ha.imp fun q => ?_)
    rw [List.drop_of_length_le (by omega)]
    simp
  | succ d ih =>
    intro i a A h0 h1 ha
    obtain ⟨m0, m1, m2, m3, m4⟩ := hM _ (rdM M h0 (show i < M.length by omega))
    have hw : wrap64 (i + 1) = i + 1 := w64 (by omega) (by omega)
    have hd := drop_at M h0 (show i < M.length by omega)
    obtain ⟨m, hmd⟩ : ∃ m, rd_T131 M i = m := ⟨_, rfl⟩
    rw [hmd] at m0 m1 m2 m3 m4 hd
    have skip : ∀ (Q : Nat → Prop), (∀ q, Q q → False) → ∀ r, Set32 r (fun q => A q ∨ ∃ m ∈ M.drop (i + 1).toNat, P m.f0.toNat ∧ m.f2 ≤ c ∧ c ≤ m.f3 ∧ m.f1.toNat = q) → (∀ q, (P m.f0.toNat ∧ m.f2 ≤ c ∧ c ≤ m.f3 ∧ m.f1.toNat = q) → Q q) → Set32 r (fun q => A q ∨ ∃ m ∈ M.drop i.toNat, P m.f0.toNat ∧ m.f2 ≤ c ∧ c ≤ m.f3 ∧ m.f1.toNat = q) := by
      intro Q hQ r hr hm
      refine hr.imp fun q => ?_
      rw [hd]
      simp only [List.mem_cons, exists_eq_or_imp]
      constructor
      · rintro (h | h)
        · exact .inl h
        · exact .inr (.inr h)
      · rintro (h | h | h)
        · exact .inl h
        · exact (hQ q (hm q h)).elim
        · exact .inr h
    refine Gets.up ?_
    by_cases c1 : P m.f0.toNat
    · have b1 : Go.bits .and .u32 (shr .u32 x m.f0) 1 = 1 := (hx.has m0 (by omega)).2 c1
      by_cases c2 : c ≥ m.f2
      · by_cases c3 : c ≤ m.f3
        · simp only [gram_step.l0, if_pos (show i < (M.length : Int) by omega), if_pos h0, hmd, if_pos m0, if_pos b1, if_pos c2, if_pos c3, if_pos m2, hw]
          refine (ih (i + 1) _ _ (by omega) (by omega) (ha.put m2 (by omega))).imp fun r hr => hr.imp fun q => ?_
          rw [hd]
          simp only [List.mem_cons, exists_eq_or_imp]
          constructor
          · rintro ((h | h) | h)
            · exact .inl h
            · exact .inr (.inl ⟨c1, c2, c3, h⟩)
            · exact .inr (.inr h)
          · rintro (h | h | h)
            · exact .inl (.inl h)
            · exact .inl (.inr h.2.2.2)
            · exact .inr h
        · simp only [gram_step.l0, if_pos (show i < (M.length : Int) by omega), if_pos h0, hmd, if_pos m0, if_pos b1, if_pos c2, if_neg c3, hw]
          exact (ih (i + 1) a A (by omega) (by omega) ha).imp fun r hr => skip (fun _ => False) (fun _ h => h) r hr (fun q h => c3 h.2.2.1)
      · simp only [gram_step.l0, if_pos (show i < (M.length : Int) by omega), if_pos h0, hmd, if_pos m0, if_pos b1, if_neg c2, hw]
        exact (ih (i + 1) a A (by omega) (by omega) ha).imp fun r hr => skip (fun _ => False) (fun _ h => h) r hr (fun q h => c2 h.2.1)
    · have b1 : ¬ Go.bits .and .u32 (shr .u32 x m.f0) 1 = 1 := fun e => c1 ((hx.has m0 (by omega)).1 e)
      simp only [gram_step.l0, if_pos (show i < (M.length : Int) by omega), if_pos h0, hmd, if_pos m0, if_neg b1, hw]
      exact (ih (i + 1) a A (by omega) (by omega) ha).imp fun r hr => skip (fun _ => False) (fun _ h => h) r hr (fun q h => c1 h.1)
theorem step_f (hn8 : n ≤ 8) (hM8 : M.length ≤ 200) (hM : ∀ m ∈ M, MoveOk n m) (x c : Int) (P : Nat → Prop) (hx : Set32 x P) : Gets (fun k => gram_step.f k n M E x c) (fun r => Set32 r (fun q => ∃ p, P p ∧ Goes M c p q)) := by
  unfold gram_step.f
  refine (step_l0 n M hn8 hM8 hM x c P hx M.length 0 0 _ (by omega) (by omega) set_zero).imp fun r hr => hr.imp fun q => ?_
  simp only [Int.toNat_zero, List.drop_zero, false_or]
  constructor
  · rintro ⟨m, hm, h1, h2, h3, h4⟩; exact ⟨_, h1, m, hm, rfl, h2, h3, h4⟩
  · rintro ⟨p, h1, m, hm, rfl, h2, h3, h4⟩; exact ⟨m, hm, h1, h2, h3, h4⟩
theorem run_l0 (hn8 : n ≤ 8) (hM8 : M.length ≤ 200) (hM : ∀ m ∈ M, MoveOk n m) (t : List Int) (ht : t.length ≤ 8) (d : Nat) : ∀ (i x : Int) (P : Nat → Prop), 0 ≤ i → i + d = t.length → Set32 x P →
    Gets (fun k => gram_run.l0 k x t (t.length : Int) i n M E) (fun r => Set32 r (fun q => ∃ p, P p ∧ Path M (t.drop i.toNat) p q)) := by
  induction d with
  | zero =>
    intro i x P h0 h1 hx
    refine Gets.up ?_
    simp only [gram_run.l0, if_neg (show ¬ i < (t.length : Int) by omega)]
    refine Gets.ret (hx.imp fun q => ?_)
    rw [List.drop_of_length_le (by omega)]
    simp [Path]
  | succ d ih =>
    intro i x P h0 h1 hx
    have hw : wrap64 (i + 1) = i + 1 := w64 (by omega) (by omega)
    refine Gets.up ?_
    simp only [gram_run.l0, if_pos (show i < (t.length : Int) by omega), if_pos h0, hw]
    refine Gets.bind (step_f n M E hn8 hM8 hM x (rd t i) P hx) fun y hy => ?_
    refine (ih (i + 1) y _ (by omega) (by omega) hy).imp fun r hr => hr.imp fun q => ?_
    rw [drop_int h0 (show i < t.length by omega)]
    simp only [Path]
    constructor
    · rintro ⟨r, ⟨p, hp, hg⟩, h⟩; exact ⟨p, hp, r, hg, h⟩
    · rintro ⟨p, hp, r, hg, h⟩; exact ⟨r, ⟨p, hp, hg⟩, h⟩
theorem run_f (hn8 : n ≤ 8) (hM8 : M.length ≤ 200) (hM : ∀ m ∈ M, MoveOk n m) (t : List Int) (ht : t.length ≤ 8) (x : Int) (P : Nat → Prop) (hx : Set32 x P) :
    Gets (fun k => gram_run.f k n M E x t) (fun r => Set32 r (fun q => ∃ p, P p ∧ Path M t p q)) := by
  unfold gram_run.f
  exact run_l0 n M E hn8 hM8 hM t ht t.length 0 x P (by omega) (by omega) hx
theorem ends_l0 (hn8 : n ≤ 8) (hE8 : E.length ≤ 8) (hE : EndsOk n E) (d : Nat) : ∀ (i a : Int) (A : Nat → Prop), 0 ≤ i → i + d = E.length → Set32 a A → Gets (fun k => gram_ends.l0 k a E (E.length : Int) i) (fun r => ∃ A', Set32 r A') := by
  induction d with
  | zero =>
    intro i a A h0 h1 ha
    refine Gets.up ?_
    simp only [gram_ends.l0, if_neg (show ¬ i < (E.length : Int) by omega)]
    exact Gets.ret ⟨A, ha⟩
  | succ d ih =>
    intro i a A h0 h1 ha
    have hw : wrap64 (i + 1) = i + 1 := w64 (by omega) (by omega)
    obtain ⟨e0, e1⟩ := hE.1 (rd E i) (by rw [rd_lt h0 (by omega)]; exact List.getElem_mem _)
    refine Gets.up ?_
    simp only [gram_ends.l0, if_pos (show i < (E.length : Int) by omega), if_pos h0, if_pos e0, hw]
    exact ih (i + 1) _ _ (by omega) (by omega) (ha.put e0 (by omega))
theorem ends_f (hn8 : n ≤ 8) (hE8 : E.length ≤ 8) (hE : EndsOk n E) : Gets (fun k => gram_ends.f k n M E) (fun r => ∃ A', Set32 r A') := by
  unfold gram_ends.f
  exact ends_l0 n E hn8 hE8 hE E.length 0 0 _ (by omega) (by omega) set_zero
theorem reach_l1 (hn8 : n ≤ 8) (hM8 : M.length ≤ 200) (hM : ∀ m ∈ M, MoveOk n m) (x : Int) (P : Nat → Prop) (hx : Set32 x P)
    (Z : Int → Prop) (hout : ∀ (y : Int) (Q : Nat → Prop), Set32 y Q → (∀ q, P q → Q q) → y ≠ x → Gets (fun k => gram_reach.l0 k y n M E) Z) (hin : (∀ m ∈ M, P m.f0.toNat → P m.f1.toNat) → Z x) (d : Nat) :
    ∀ (i y : Int) (Q : Nat → Prop), 0 ≤ i → i + d = M.length → Set32 y Q → (∀ q, P q → Q q) → (∀ m ∈ M.take i.toNat, P m.f0.toNat → Q m.f1.toNat) →
      Gets (fun k => gram_reach.l1 k x y M (M.length : Int) i n M E) Z := by
  induction d with
  | zero =>
    intro i y Q h0 h1 hy hs hc
    refine Gets.up ?_
    simp only [gram_reach.l1, if_neg (show ¬ i < (M.length : Int) by omega)]
    rw [List.take_of_length_le (by omega)] at hc
    by_cases e : y = x
    · subst e
      simp only [if_true]
      refine Gets.ret (hin fun m hm hp => ?_)
      obtain ⟨X, e1, _, b1⟩ := hx
      obtain ⟨Y, e2, _, b2⟩ := hy
      have : X = Y := by omega
      subst this
      exact (b1 _).1 ((b2 _).2 (hc m hm hp))
    · simp only [if_neg e]
      exact hout y Q hy hs e
  | succ d ih =>
    intro i y Q h0 h1 hy hs hc
    have hw : wrap64 (i + 1) = i + 1 := w64 (by omega) (by omega)
    have hlt : i < M.length := by omega
    obtain ⟨m0, m1, m2, m3, m4⟩ := hM _ (rdM M h0 hlt)
    have ht : M.take (i + 1).toNat = M.take i.toNat ++ [rd_T131 M i] := by
      rw [show (i + 1).toNat = i.toNat + 1 by omega, List.take_succ_eq_append_getElem (show i.toNat < M.length by omega)]
      congr 2
      unfold rd_T131
      rw [List.getD_eq_getElem?_getD, List.getElem?_eq_getElem (by omega)]
      rfl
    obtain ⟨m, hmd⟩ : ∃ m, rd_T131 M i = m := ⟨_, rfl⟩
    rw [hmd] at m0 m1 m2 m3 m4 ht
    refine Gets.up ?_
    by_cases c1 : P m.f0.toNat
    · have b1 : Go.bits .and .u32 (shr .u32 x m.f0) 1 = 1 := (hx.has (by omega) (by omega)).2 c1
      simp only [gram_reach.l1, if_pos (show i < (M.length : Int) by omega), if_pos h0, hmd, if_pos (show 0 ≤ m.f0 by omega), if_pos b1, if_pos (show 0 ≤ m.f1 by omega), hw]
      refine ih (i + 1) _ _ (by omega) (by omega) (hy.put (by omega) (by omega)) (fun q hq => .inl (hs q hq)) ?_
      rw [ht]
      intro m' hm' hp
      rcases List.mem_append.1 hm' with hm' | hm'
      · exact .inl (hc m' hm' hp)
      · have : m' = m := by simpa using hm'
        subst this
        exact .inr rfl
    · have b1 : ¬ Go.bits .and .u32 (shr .u32 x m.f0) 1 = 1 := fun e => c1 ((hx.has (by omega) (by omega)).1 e)
      simp only [gram_reach.l1, if_pos (show i < (M.length : Int) by omega), if_pos h0, hmd, if_pos (show 0 ≤ m.f0 by omega), if_neg b1, hw]
      refine ih (i + 1) y Q (by omega) (by omega) hy hs ?_
      rw [ht]
      intro m' hm' hp
      rcases List.mem_append.1 hm' with hm' | hm'
      · exact hc m' hm' hp
      · have : m' = m := by simpa using hm'
        subst this
        exact (c1 hp).elim
theorem reach_l0 (hn8 : n ≤ 8) (hM8 : M.length ≤ 200) (hM : ∀ m ∈ M, MoveOk n m) (S : Nat → Prop) (d : Nat) : ∀ (x : Int) (P : Nat → Prop), Set32 x P → (4294967296 - x ≤ d) → (∀ q, S q → P q) →
    Gets (fun k => gram_reach.l0 k x n M E) (fun r => ∃ R, Set32 r R ∧ (∀ q, S q → R q) ∧ ∀ m ∈ M, R m.f0.toNat → R m.f1.toNat) := by
  induction d with
  | zero =>
    intro x P hx hd
    obtain ⟨X, e, h, _⟩ := hx
    omega
  | succ d ih =>
    intro x P hx hd hS
    refine Gets.up ?_
    simp only [gram_reach.l0]
    refine reach_l1 n M E hn8 hM8 hM x P hx _ ?_ ?_ M.length 0 x P (by omega) (by omega) hx (fun _ h => h) (by simp)
    · intro y Q hy hs hne
      refine ih y Q hy ?_ (fun q hq => hs q (hS q hq))
      obtain ⟨X, e1, _, b1⟩ := hx
      obtain ⟨Y, e2, _, b2⟩ := hy
      have : X ≤ Y := sub_le (fun q hq => (b2 q).2 (hs q ((b1 q).1 hq)))
      omega
    · intro h
      exact ⟨P, hx, hS, h⟩
theorem reach_f (hn8 : n ≤ 8) (hM8 : M.length ≤ 200) (hM : ∀ m ∈ M, MoveOk n m) (x : Int) (P : Nat → Prop) (hx : Set32 x P) :
    Gets (fun k => gram_reach.f k n M E x) (fun r => ∃ R, Set32 r R ∧ (∀ q, P q → R q) ∧ ∀ m ∈ M, R m.f0.toNat → R m.f1.toNat) := by
  unfold gram_reach.f
  refine reach_l0 n M E hn8 hM8 hM P 4294967296 x P hx ?_ (fun _ h => h)
  obtain ⟨X, e, h, _⟩ := hx
  omega

theorem lead_l1 (hn8 : n ≤ 8) (hM8 : M.length ≤ 200) (hM : ∀ m ∈ M, MoveOk n m) (x : Int) (P : Nat → Prop) (hx : Set32 x P)
    (Z : Int → Prop) (hout : ∀ (y : Int) (Q : Nat → Prop), Set32 y Q → (∀ q, P q → Q q) → y ≠ x → Gets (fun k => gram_lead.l0 k y n M E) Z) (hin : (∀ m ∈ M, P m.f1.toNat → P m.f0.toNat) → Z x) (d : Nat) :
    ∀ (i y : Int) (Q : Nat → Prop), 0 ≤ i → i + d = M.length → Set32 y Q → (∀ q, P q → Q q) → (∀ m ∈ M.take i.toNat, P m.f1.toNat → Q m.f0.toNat) →
      Gets (fun k => gram_lead.l1 k x y M (M.length : Int) i n M E) Z := by
  induction d with
  | zero =>
    intro i y Q h0 h1 hy hs hc
    refine Gets.up ?_
    simp only [gram_lead.l1, if_neg (show ¬ i < (M.length : Int) by omega)]
    rw [List.take_of_length_le (by omega)] at hc
    by_cases e : y = x
    · subst e
      simp only [if_true]
      refine Gets.ret (hin fun m hm hp => ?_)
      obtain ⟨X, e1, _, b1⟩ := hx
      obtain ⟨Y, e2, _, b2⟩ := hy
      have : X = Y := by omega
      subst this
      exact (b1 _).1 ((b2 _).2 (hc m hm hp))
    · simp only [if_neg e]
      exact hout y Q hy hs e
  | succ d ih =>
    intro i y Q h0 h1 hy hs hc
    have hw : wrap64 (i + 1) = i + 1 := w64 (by omega) (by omega)
    have hlt : i < M.length := by omega
    obtain ⟨m0, m1, m2, m3, m4⟩ := hM _ (rdM M h0 hlt)
    have ht : M.take (i + 1).toNat = M.take i.toNat ++ [rd_T131 M i] := by
      rw [show (i + 1).toNat = i.toNat + 1 by omega, List.take_succ_eq_append_getElem (show i.toNat < M.length by omega)]
      congr 2
      unfold rd_T131
      rw [List.getD_eq_getElem?_getD, List.getElem?_eq_getElem (by omega)]
      rfl
    obtain ⟨m, hmd⟩ : ∃ m, rd_T131 M i = m := ⟨_, rfl⟩
    rw [hmd] at m0 m1 m2 m3 m4 ht
    refine Gets.up ?_
    by_cases c1 : P m.f1.toNat
    · have b1 : Go.bits .and .u32 (shr .u32 x m.f1) 1 = 1 := (hx.has (by omega) (by omega)).2 c1
      simp only [gram_lead.l1, if_pos (show i < (M.length : Int) by omega), if_pos h0, hmd, if_pos (show 0 ≤ m.f1 by omega), if_pos b1, if_pos (show 0 ≤ m.f0 by omega), hw]
      refine ih (i + 1) _ _ (by omega) (by omega) (hy.put (by omega) (by omega)) (fun q hq => .inl (hs q hq)) ?_
      rw [ht]
      intro m' hm' hp
      rcases List.mem_append.1 hm' with hm' | hm'
      · exact .inl (hc m' hm' hp)
      · have : m' = m := by simpa using hm'
        subst this
        exact .inr rfl
    · have b1 : ¬ Go.bits .and .u32 (shr .u32 x m.f1) 1 = 1 := fun e => c1 ((hx.has (by omega) (by omega)).1 e)
      simp only [gram_lead.l1, if_pos (show i < (M.length : Int) by omega), if_pos h0, hmd, if_pos (show 0 ≤ m.f1 by omega), if_neg b1, hw]
      refine ih (i + 1) y Q (by omega) (by omega) hy hs ?_
      rw [ht]
      intro m' hm' hp
      rcases List.mem_append.1 hm' with hm' | hm'
      · exact hc m' hm' hp
      · have : m' = m := by simpa using hm'
        subst this
        exact (c1 hp).elim
theorem lead_l0 (hn8 : n ≤ 8) (hM8 : M.length ≤ 200) (hM : ∀ m ∈ M, MoveOk n m) (S : Nat → Prop) (d : Nat) : ∀ (x : Int) (P : Nat → Prop), Set32 x P → (4294967296 - x ≤ d) → (∀ q, S q → P q) →
    Gets (fun k => gram_lead.l0 k x n M E) (fun r => ∃ R, Set32 r R ∧ (∀ q, S q → R q) ∧ ∀ m ∈ M, R m.f1.toNat → R m.f0.toNat) := by
  induction d with
  | zero =>
    intro x P hx hd
    obtain ⟨X, e, h, _⟩ := hx
    omega
  | succ d ih =>
    intro x P hx hd hS
    refine Gets.up ?_
    simp only [gram_lead.l0]
    refine lead_l1 n M E hn8 hM8 hM x P hx _ ?_ ?_ M.length 0 x P (by omega) (by omega) hx (fun _ h => h) (by simp)
    · intro y Q hy hs hne
      refine ih y Q hy ?_ (fun q hq => hs q (hS q hq))
      obtain ⟨X, e1, _, b1⟩ := hx
      obtain ⟨Y, e2, _, b2⟩ := hy
      have : X ≤ Y := sub_le (fun q hq => (b2 q).2 (hs q ((b1 q).1 hq)))
      omega
    · intro h
      exact ⟨P, hx, hS, h⟩
theorem lead_f (hn8 : n ≤ 8) (hM8 : M.length ≤ 200) (hM : ∀ m ∈ M, MoveOk n m) (x : Int) (P : Nat → Prop) (hx : Set32 x P) :
    Gets (fun k => gram_lead.f k n M E x) (fun r => ∃ R, Set32 r R ∧ (∀ q, P q → R q) ∧ ∀ m ∈ M, R m.f1.toNat → R m.f0.toNat) := by
  unfold gram_lead.f
  refine lead_l0 n M E hn8 hM8 hM P 4294967296 x P hx ?_ (fun _ h => h)
  obtain ⟨X, e, h, _⟩ := hx
  omega

/-- What the answers of Stands and Accepts say, Z being the ends, A what leads to them, R what is reached. -/
def Tells (Z A R : Nat → Prop) (t : List Int) (s : Bool × Bool × Bool × Int) : Prop :=
  (s.1 = true ↔ ∃ q, (∃ p, p = 0 ∧ Path M t p q) ∧ A q) ∧ (s.2.1 = true ↔ ∃ q, (∃ p, R p ∧ Path M t p q) ∧ A q) ∧ (s.2.2.1 = true ↔ ∃ q, (∃ p, R p ∧ Path M t p q) ∧ Z q) ∧ s.2.2.2 = 0
theorem stands_f (h : MachOk (n, M, E)) (e0 a0 r0 : Int) (Z A R : Nat → Prop) (hZ : Set32 e0 Z) (hA : Set32 a0 A) (hR : Set32 r0 R)
    (ke : ∃ K, ∀ k, K ≤ k → gram_ends.f k n M E = some e0) (ka : ∃ K, ∀ k, K ≤ k → gram_lead.f k n M E e0 = some a0) (kr : ∃ K, ∀ k, K ≤ k → gram_reach.f k n M E 1 = some r0)
    (t : List Int) (ht : t.length ≤ 8) : Gets (fun k => gram_Stands.f k n M E t) (Tells M Z A R t) := by
  have hh := h
  obtain ⟨h1, h2, h3, h4, h5, h6⟩ := hh
  simp only at h1 h2 h3 h4 h5 h6
  simp only [gram_Stands.f]
  refine Gets.bind (check_f n M E h) ?_
  rintro _ rfl
  simp only [if_true]
  refine Gets.bind (P := fun r => r = e0) ⟨e0, rfl, ke⟩ ?_
  rintro _ rfl
  refine Gets.bind (P := fun r => r = a0) ⟨a0, rfl, ka⟩ ?_
  rintro _ rfl
  refine Gets.bind (P := fun r => r = r0) ⟨r0, rfl, kr⟩ ?_
  rintro _ rfl
  refine Gets.bind (run_f n M E h2 h3 h4 t ht 1 _ set_one) fun x hx => ?_
  refine Gets.bind (run_f n M E h2 h3 h4 t ht _ _ hR) fun y hy => ?_
  refine Gets.bind (run_f n M E h2 h3 h4 t ht _ _ hR) fun y' hy' => ?_
  refine Gets.bind (P := fun r => r = _) ⟨_, rfl, ke⟩ ?_
  rintro _ rfl
  exact Gets.ret ⟨hx.meet hA, hy.meet hA, hy'.meet hZ, rfl⟩
theorem accepts_f (h : MachOk (n, M, E)) (e0 : Int) (Z : Nat → Prop) (hZ : Set32 e0 Z) (ke : ∃ K, ∀ k, K ≤ k → gram_ends.f k n M E = some e0)
    (t : List Int) (ht : t.length ≤ 8) : Gets (fun k => gram_Accepts.f k n M E t) (fun s => (s.1 = true ↔ ∃ q, (∃ p, p = 0 ∧ Path M t p q) ∧ Z q) ∧ s.2 = 0) := by
  have hh := h
  obtain ⟨h1, h2, h3, h4, h5, h6⟩ := hh
  simp only at h1 h2 h3 h4 h5 h6
  simp only [gram_Accepts.f]
  refine Gets.bind (check_f n M E h) ?_
  rintro _ rfl
  simp only [if_true]
  refine Gets.bind (run_f n M E h2 h3 h4 t ht 1 _ set_one) fun x hx => ?_
  refine Gets.bind (P := fun r => r = e0) ⟨e0, rfl, ke⟩ ?_
  rintro _ rfl
  exact Gets.ret ⟨hx.meet hZ, rfl⟩
theorem path_alive (A : Nat → Prop) (hA : ∀ m ∈ M, A m.f1.toNat → A m.f0.toNat) (t : List Int) : ∀ p q, Path M t p q → A q → A p := by
  induction t with
  | nil => intro p q h; simp only [Path] at h; subst h; exact id
  | cons c t ih =>
    intro p q h ha
    obtain ⟨r, ⟨m, hm, e1, _, _, e2⟩, h2⟩ := h
    rw [← e1]
    exact hA m hm (by rw [e2]; exact ih r q h2 ha)
theorem path_reach (R : Nat → Prop) (hR : ∀ m ∈ M, R m.f0.toNat → R m.f1.toNat) (t : List Int) : ∀ p q, Path M t p q → R p → R q := by
  induction t with
  | nil => intro p q h; simp only [Path] at h; subst h; exact id
  | cons c t ih =>
    intro p q h hp
    obtain ⟨r, ⟨m, hm, e1, _, _, e2⟩, h2⟩ := h
    exact ih r q h2 (by rw [← e2]; exact hR m hm (by rw [e1]; exact hp))
end sets
theorem j0_ok (k : Nat) (a b c d e f g h : Bool) (h1 : a = true → b = true) (h2 : c = true → b = true) (h3 : d = true → a = true ∧ b = true ∧ c = true) (h4 : a = true → e = true) (h5 : b = true → f = true ∧ g = true) (h6 : c = true → h = true) :
    wrackkeep3_GramParts.j0 (k + 1) a b c d e f g h false = some true := by
  simp only [wrackkeep3_GramParts.j0]
  cases a <;> cases b <;> cases c <;> cases d <;> cases e <;> cases f <;> cases g <;> cases h <;> simp_all
theorem stands_ok : wrackkeep3_stands.f 100 = some true := by decide +kernel
end GramP
open GramP
theorem GramParts : wrackkeep3_GramParts.Pure := by
  intro l0 l1 a2 _ _ _ _ _ _ _
  suffices hs : Gets (fun k => wrackkeep3_GramParts.f k l0 l1 a2) (fun r => r = true) by
    obtain ⟨k, r, h, rfl⟩ := hs.get
    exact ⟨k, h⟩
  simp only [wrackkeep3_GramParts.f]
  refine Gets.bind (machine_f l0) ?_
  rintro ⟨n, M, E⟩ hm
  have hm' := hm
  obtain ⟨h1, h2, h3, h4, h5, h6⟩ := hm'
  simp only at h1 h2 h3 h4 h5 h6
  simp only
  refine Gets.bind (letters_f l1) fun t ht => ?_
  obtain ⟨e0, ⟨Z, hZ⟩, ke⟩ := ends_f n M E h2 h5 h6
  obtain ⟨a0, ⟨A, hA, hZA, hAc⟩, ka⟩ := lead_f n M E h2 h3 h4 e0 Z hZ
  obtain ⟨r0, ⟨R, hR, h1R, hRc⟩, kr⟩ := reach_f n M E h2 h3 h4 1 _ set_one
  refine Gets.bind (stands_f n M E hm e0 a0 r0 Z A R hZ hA hR ke ka kr t ht) ?_
  rintro ⟨x1, x2, x3, x4⟩ ⟨p1, p2, p3, p4⟩
  refine Gets.bind (accepts_f n M E hm e0 Z hZ ke t ht) ?_
  rintro ⟨y1, y2⟩ ⟨q1, q2⟩
  simp only at p1 p2 p3 p4 q1 q2
  have hlen : wrap64 ((t.length : Int) + 1) = (t.length : Int) + 1 := w64 (by omega) (by omega)
  simp only [hlen, below_f (a := a2) (n := (t.length : Int) + 1) (by omega) (by omega), Option.bind_some]
  have c0 := Int.emod_nonneg a2 (show (t.length : Int) + 1 ≠ 0 by omega)
  have c1 := Int.emod_lt_of_pos a2 (show 0 < (t.length : Int) + 1 by omega)
  obtain ⟨j, hj⟩ : ∃ j, a2 % ((t.length : Int) + 1) = j := ⟨_, rfl⟩
  rw [hj] at c0 c1
  simp only [hj, if_pos c0, if_pos (show j ≤ (t.length : Int) by omega)]
  refine Gets.bind (stands_f n M E hm e0 a0 r0 Z A R hZ hA hR ke ka kr (t.take j.toNat) (by rw [List.length_take]; omega)) ?_
  rintro ⟨u1, u2, u3, u4⟩ ⟨s1, s2, s3, s4⟩
  refine Gets.bind (stands_f n M E hm e0 a0 r0 Z A R hZ hA hR ke ka kr (t.drop j.toNat) (by rw [List.length_drop]; omega)) ?_
  rintro ⟨v1, v2, v3, v4⟩ ⟨r1, r2, r3, r4⟩
  refine Gets.bind (Gets.of_mono wrackkeep3_stands.mono stands_ok rfl) ?_
  rintro _ rfl
  simp only at s1 s2 s3 s4 r1 r2 r3 r4
  subst p4 q2 s4 r4
  simp only [if_true]
  have split : ∀ p q, Path M t p q → ∃ r, Path M (t.take j.toNat) p r ∧ Path M (t.drop j.toNat) r q := fun p q h => (path_split M _ _ p q).1 (by rw [List.take_append_drop]; exact h)
  simp only [show ((0 : Int) != 0) = false from rfl]
  refine Gets.up ((Gets.ret (r := true) (P := fun r => r = true) rfl).congr fun k => ?_)
  have al := path_alive M A hAc
  have re := path_reach M R hRc
  refine j0_ok k x1 x2 x3 y1 u1 u2 v2 v3 ?_ ?_ ?_ ?_ ?_ ?_
  · intro h
    obtain ⟨q, ⟨p, rfl, hp⟩, hq⟩ := p1.1 h
    exact p2.2 ⟨q, ⟨0, h1R 0 rfl, hp⟩, hq⟩
  · intro h
    obtain ⟨q, hp, hq⟩ := p3.1 h
    exact p2.2 ⟨q, hp, hZA q hq⟩
  · intro h
    obtain ⟨q, ⟨p, rfl, hp⟩, hq⟩ := q1.1 h
    exact ⟨p1.2 ⟨q, ⟨0, rfl, hp⟩, hZA q hq⟩, p2.2 ⟨q, ⟨0, h1R 0 rfl, hp⟩, hZA q hq⟩, p3.2 ⟨q, ⟨0, h1R 0 rfl, hp⟩, hq⟩⟩
  · intro h
    obtain ⟨q, ⟨p, rfl, hp⟩, hq⟩ := p1.1 h
    obtain ⟨r, ha, hb⟩ := split _ _ hp
    exact s1.2 ⟨r, ⟨0, rfl, ha⟩, al _ _ _ hb hq⟩
  · intro h
    obtain ⟨q, ⟨p, hR0, hp⟩, hq⟩ := p2.1 h
    obtain ⟨r, ha, hb⟩ := split _ _ hp
    exact ⟨s2.2 ⟨r, ⟨p, hR0, ha⟩, al _ _ _ hb hq⟩, r2.2 ⟨q, ⟨r, re _ _ _ ha hR0, hb⟩, hq⟩⟩
  · intro h
    obtain ⟨q, ⟨p, hR0, hp⟩, hq⟩ := p3.1 h
    obtain ⟨r, ha, hb⟩ := split _ _ hp
    exact r3.2 ⟨q, ⟨r, re _ _ _ ha hR0, hb⟩, hq⟩
end Go.Proofs.Ytehkplafehlkgaa.Pure
