/- wrackkeep3.GramShown: a fragment that can occur in a string is in the text that is shown; one that cannot is shown in none. For every input. -/
import Derived.Test.YtnlmdmpfgdiipaaPGramShownx8
import Derived.Test.YtnlmdmpfgdiipaaPlibBits
namespace Go.Proofs.Ytnlmdmpfgdiipaa.Pure
set_option linter.unusedVariables false
set_option linter.unusedSimpArgs false
set_option linter.unusedSectionVars false
open Go.RowKit Go.Proofs.Ytnlmdmpfgdiipaa.PGramShown Go.Proofs.YtnlmdmpfgdiipaaW.PrintWords Go.Proofs.YtnlmdmpfgdiipaaW.PrintLast Go.Proofs.YtnlmdmpfgdiipaaW.PrintMore Go.Proofs.YtnlmdmpfgdiipaaW.Plib
namespace GramP

theorem below_f {a n : Int} (hn : 0 < n) (hn2 : n ≤ 9223372036854775807) : wrackmake_Below.f a n = some (a % n) := by
  unfold wrackmake_Below.f
  rw [if_neg (by omega), ← below_val hn hn2]
  split <;> rfl
theorem next_f (l : List Int) {n : Int} (hn : 0 < n) (hn2 : n ≤ 9223372036854775807) : ∃ v l', wrackmake_Stream_Next.f l n = some (v, l') ∧ 0 ≤ v ∧ v < n := by
  unfold wrackmake_Stream_Next.f
  by_cases h : (l.length : Int) = 0
  · exact ⟨0, l, by rw [if_pos h], by omega, hn⟩
  · refine ⟨rd l 0 % n, l.drop 1, ?_, Int.emod_nonneg _ (by omega), Int.emod_lt_of_pos _ hn⟩
    rw [if_neg h, if_neg (by omega), below_f hn hn2, Option.bind_some]

/-- A right move of a machine of n states. -/
def MoveOk (n : Int) (m : S109) : Prop := 0 ≤ m.f0 ∧ m.f0 < n ∧ 0 ≤ m.f1 ∧ m.f1 < n ∧ m.f2 ≤ m.f3 ∧ 0 ≤ m.f2 ∧ m.f3 < 256
def EndsOk (n : Int) (E : List Int) : Prop := (∀ x ∈ E, 0 ≤ x ∧ x < n) ∧ E.Nodup
def MachOk (r : Int × List S109 × List Int) : Prop := 1 ≤ r.1 ∧ r.1 ≤ 8 ∧ r.2.1.length ≤ 200 ∧ (∀ m ∈ r.2.1, MoveOk r.1 m) ∧ r.2.2.length ≤ 8 ∧ EndsOk r.1 r.2.2

theorem machine_l1 (n : Int) (M : List S109) (hn1 : 1 ≤ n) (hn8 : n ≤ 8) (hM : M.length ≤ 200) (hMo : ∀ m ∈ M, MoveOk n m) (d : Nat) : ∀ (i : Int) (s E : List Int), 0 ≤ i → i + d = n → (E.length : Int) ≤ i → (∀ x ∈ E, 0 ≤ x ∧ x < i) → E.Nodup →
    Gets (fun k => wrackkeep3_machine.l1 k n i s n M E) MachOk := by
  induction d with
  | zero =>
    intro i s E h0 h1 h2 h3 h4
    refine Gets.up ?_
    simp only [wrackkeep3_machine.l1, if_neg (show ¬ i < n by omega)]
    exact Gets.ret ⟨hn1, hn8, hM, hMo, by simp only; omega, fun x hx => ⟨(h3 x hx).1, by have := (h3 x hx).2; simp only; omega⟩, h4⟩
  | succ d ih =>
    intro i s E h0 h1 h2 h3 h4
    obtain ⟨v, s', hv, _, _⟩ := next_f s (n := 3) (by omega) (by omega)
    refine Gets.up ?_
    simp only [wrackkeep3_machine.l1, if_pos (show i < n by omega), hv, Option.bind_some]
    have hw : wrap64 (i + 1) = i + 1 := w64 (by omega) (by omega)
    by_cases c : v = 0
    · simp only [if_pos c, if_pos (show E.length < 17592186044416 by omega), hw]
      refine ih (i + 1) s' (E ++ [i]) (by omega) (by omega) (by simp; omega) ?_ ?_
      · intro x hx
        rcases List.mem_append.1 hx with hx | hx
        · have := h3 x hx; omega
        · have : x = i := by simpa using hx
          omega
      · rw [List.nodup_append]
        refine ⟨h4, by simp, fun a ha b hb => ?_⟩
        have hb' : b = i := by simpa using hb
        have := h3 a ha
        omega
    · simp only [if_neg c, hw]
      exact ih (i + 1) s' E (by omega) (by omega) (by omega) (fun x hx => by have := h3 x hx; omega) h4
theorem machine_l0 (n c : Int) (hn1 : 1 ≤ n) (hn8 : n ≤ 8) (hc : c ≤ 16) (d : Nat) : ∀ (i : Int) (s : List Int) (M : List S109), 0 ≤ i → i + d = c → (M.length : Int) ≤ i → (∀ m ∈ M, MoveOk n m) →
    Gets (fun k => wrackkeep3_machine.l0 k c i s n M) MachOk := by
  induction d with
  | zero =>
    intro i s M h0 h1 h2 h3
    refine Gets.up ?_
    simp only [wrackkeep3_machine.l0, if_neg (show ¬ i < c by omega)]
    exact machine_l1 n M hn1 hn8 (by omega) h3 n.toNat 0 s [] (by omega) (by omega) (by simp) (by simp) (by simp)
  | succ d ih =>
    intro i s M h0 h1 h2 h3
    obtain ⟨a, s1, ha, a0, a1⟩ := next_f s (n := 4) (by omega) (by omega)
    obtain ⟨b, s2, hb, b0, b1⟩ := next_f s1 (n := n) (by omega) (by omega)
    obtain ⟨e, s3, he, e0, e1⟩ := next_f s2 (n := n) (by omega) (by omega)
    obtain ⟨f, s4, hf, f0, f1⟩ := next_f s3 (n := 2) (by omega) (by omega)
    refine Gets.up ?_
    simp only [wrackkeep3_machine.l0, if_pos (show i < c by omega), ha, hb, he, hf, Option.bind_some, if_pos (show M.length < 5864062014805 by omega)]
    have hw : wrap64 (i + 1) = i + 1 := w64 (by omega) (by omega)
    have hw1 : wrap64 (97 + a) = 97 + a := w64 (by omega) (by omega)
    have hw2 : wrap64 (97 + a + f) = 97 + a + f := w64 (by omega) (by omega)
    rw [hw, hw1, hw2]
    refine ih (i + 1) s4 _ (by omega) (by omega) (by simp; omega) ?_
    intro m hm
    rcases List.mem_append.1 hm with hm | hm
    · exact h3 m hm
    · have : m = ⟨b, e, (97 + a) % 256, (97 + a + f) % 256⟩ := by simpa using hm
      subst this
      exact ⟨b0, b1, e0, e1, by simp only; omega, by simp only; omega, by simp only; omega⟩
theorem machine_f (l : List Int) : Gets (fun k => wrackkeep3_machine.f k l) MachOk := by
  obtain ⟨a, s1, ha, a0, a1⟩ := next_f l (n := 8) (by omega) (by omega)
  obtain ⟨b, s2, hb, b0, b1⟩ := next_f s1 (n := 16) (by omega) (by omega)
  have hw : wrap64 (1 + a) = 1 + a := w64 (by omega) (by omega)
  simp only [wrackkeep3_machine.f, ha, hb, Option.bind_some, hw]
  exact machine_l0 (1 + a) b (by omega) (by omega) (by omega) b.toNat 0 s2 [] (by omega) (by omega) (by simp) (by simp)

theorem letters_l0 (l : List Int) (hl : l.length ≤ 8) (d : Nat) : ∀ (i : Int) (acc : List Int), 0 ≤ i → i + d = l.length → (acc.length : Int) ≤ i → (∀ c ∈ acc, 0 ≤ c ∧ c < 256) → Gets (fun k => wrackkeep3_letters.l0 k acc l (l.length : Int) i) (fun r => r.length ≤ 8 ∧ ∀ c ∈ r, 0 ≤ c ∧ c < 256) := by
  induction d with
  | zero =>
    intro i acc h0 h1 h2 h3
    refine Gets.up ?_
    simp only [wrackkeep3_letters.l0, if_neg (show ¬ i < (l.length : Int) by omega)]
    exact Gets.ret ⟨by omega, h3⟩
  | succ d ih =>
    intro i acc h0 h1 h2 h3
    refine Gets.up ?_
    have hw : wrap64 (i + 1) = i + 1 := w64 (by omega) (by omega)
    simp only [wrackkeep3_letters.l0, if_pos (show i < (l.length : Int) by omega), if_pos h0, below_f (a := rd l i) (n := 5) (by omega) (by omega), Option.bind_some, if_pos (show acc.length < 140737488355328 by omega), hw]
    refine ih (i + 1) _ (by omega) (by omega) (by simp; omega) (fun c hc => ?_)
    rcases List.mem_append.1 hc with hc | hc
    · exact h3 c hc
    · have := List.mem_singleton.1 hc
      rw [this]
      exact ⟨Int.emod_nonneg _ (by omega), Int.emod_lt_of_pos _ (by omega)⟩
theorem letters_f (l : List Int) : Gets (fun k => wrackkeep3_letters.f k l 8) (fun r => r.length ≤ 8 ∧ ∀ c ∈ r, 0 ≤ c ∧ c < 256) := by
  have h1 : mn (l.length : Int) 8 = ((min l.length 8 : Nat) : Int) := by unfold mn; split <;> omega
  simp only [wrackkeep3_letters.f, h1, Int.toNat_natCast, Option.bind_some, if_pos (show (0 : Int) ≤ ((min l.length 8 : Nat) : Int) by omega), if_pos (show ((min l.length 8 : Nat) : Int) ≤ (l.length : Int) by omega)]
  refine letters_l0 (l.take (min l.length 8)) ?_ (l.take (min l.length 8)).length 0 [] (by omega) (by omega) (by simp) (fun c hc => by simp at hc)
  rw [List.length_take]
  omega

section mach
variable (n : Int) (M : List S109) (E : List Int)
theorem rdM {i : Int} (h0 : 0 ≤ i) (h1 : i < M.length) : rd_T109 M i ∈ M := by
  unfold rd_T109
  rw [List.getD_eq_getElem?_getD, List.getElem?_eq_getElem (by omega)]
  simp
end mach

theorem contains_l0 (l : List Int) (x : Int) (hx : x ∉ l) (hl : l.length ≤ 8) (d : Nat) : ∀ i : Int, 0 ≤ i → i + d = l.length → Gets (fun k => slices_Index_int_int.l0 k l x (l.length : Int) i) (fun r => r = -1) := by
  induction d with
  | zero =>
    intro i h0 h1
    refine Gets.up ?_
    simp only [slices_Index_int_int.l0, if_neg (show ¬ i < (l.length : Int) by omega)]
    exact Gets.ret rfl
  | succ d ih =>
    intro i h0 h1
    refine Gets.up ?_
    have hw : wrap64 (i + 1) = i + 1 := w64 (by omega) (by omega)
    have hne : ¬ x = rd l i := by
      rw [rd_lt h0 (by omega)]
      exact fun e => hx (e ▸ List.getElem_mem _)
    simp only [slices_Index_int_int.l0, if_pos (show i < (l.length : Int) by omega), if_pos h0, if_neg hne, hw]
    exact ih (i + 1) (by omega) (by omega)
theorem contains_f (l : List Int) (x : Int) (hx : x ∉ l) (hl : l.length ≤ 8) : Gets (fun k => slices_Contains_int_int.f k l x) (fun r => r = false) := by
  unfold slices_Contains_int_int.f
  refine Gets.bind (P := fun r => r = -1) ?_ ?_
  · unfold slices_Index_int_int.f
    exact contains_l0 l x hx hl l.length 0 (by omega) (by omega)
  · rintro r rfl
    exact Gets.ret (by decide)

theorem check_l1 (n : Int) (M : List S109) (E : List Int) (hE8 : E.length ≤ 8) (hE : EndsOk n E) (d : Nat) : ∀ i : Int, 0 ≤ i → i + d = E.length → Gets (fun k => gram_Check.l1 k E (E.length : Int) i n M E) (fun r => r = 0) := by
  induction d with
  | zero =>
    intro i h0 h1
    refine Gets.up ?_
    simp only [gram_Check.l1, if_neg (show ¬ i < (E.length : Int) by omega)]
    exact Gets.ret rfl
  | succ d ih =>
    intro i h0 h1
    have hw : wrap64 (i + 1) = i + 1 := w64 (by omega) (by omega)
    have hm : rd E i ∈ E := by rw [rd_lt h0 (by omega)]; exact List.getElem_mem _
    obtain ⟨e0, e1⟩ := hE.1 _ hm
    have hnm : rd E i ∉ E.take i.toNat := by
      rw [rd_lt h0 (by omega)]
      intro hmem
      obtain ⟨j, hj, e⟩ := List.getElem_of_mem hmem
      rw [List.getElem_take] at e
      have hj2 : j < i.toNat := by rw [List.length_take] at hj; omega
      exact (List.pairwise_iff_getElem.1 hE.2) j i.toNat (by omega) (by omega) hj2 e
    refine Gets.up ?_
    simp only [gram_Check.l1, if_pos (show i < (E.length : Int) by omega), if_pos h0, if_neg (show ¬ rd E i < 0 by omega)]
    refine Gets.up ?_
    simp only [gram_Check.j3, show decide (rd E i ≥ n) = false by simp; omega, if_neg (show ¬ (false = true) by decide), if_pos h0, if_pos (show i ≤ (E.length : Int) by omega), hw]
    refine Gets.bind (contains_f (E.take i.toNat) (rd E i) hnm (by rw [List.length_take]; omega)) ?_
    rintro r rfl
    simp only [if_neg (show ¬ (false = true) by decide)]
    exact ih (i + 1) (by omega) (by omega)
theorem check_l0 (n : Int) (M : List S109) (E : List Int) (hM8 : M.length ≤ 200) (hM : ∀ m ∈ M, MoveOk n m) (hE8 : E.length ≤ 8) (hE : EndsOk n E) (d : Nat) : ∀ i : Int, 0 ≤ i → i + d = M.length → Gets (fun k => gram_Check.l0 k M (M.length : Int) i n M E) (fun r => r = 0) := by
  induction d with
  | zero =>
    intro i h0 h1
    refine Gets.up ?_
    simp only [gram_Check.l0, if_neg (show ¬ i < (M.length : Int) by omega)]
    exact check_l1 n M E hE8 hE E.length 0 (by omega) (by omega)
  | succ d ih =>
    intro i h0 h1
    obtain ⟨m0, m1, m2, m3, m4, m5, m6⟩ := hM _ (rdM M h0 (show i < M.length by omega))
    have hw : wrap64 (i + 1) = i + 1 := w64 (by omega) (by omega)
    refine Gets.up ?_
    simp only [gram_Check.l0, if_pos (show i < (M.length : Int) by omega), if_pos h0, if_neg (Int.not_lt.2 m0), if_neg (show ¬ (rd_T109 M i).f0 ≥ n by omega), if_neg (Int.not_lt.2 m2), if_neg (show ¬ (rd_T109 M i).f1 ≥ n by omega), if_neg (show ¬ (rd_T109 M i).f2 > (rd_T109 M i).f3 by omega), hw]
    exact ih (i + 1) (by omega) (by omega)
theorem check_f (n : Int) (M : List S109) (E : List Int) (h : MachOk (n, M, E)) : Gets (fun k => gram_Check.f k n M E) (fun r => r = 0) := by
  obtain ⟨h1, h2, h3, h4, h5, h6⟩ := h
  simp only at h1 h2 h3 h4 h5 h6
  simp only [gram_Check.f, if_neg (show ¬ n < 1 by omega), if_neg (show ¬ n > 32 by omega)]
  refine Gets.up ?_
  simp only [gram_Check.j0, show decide ((M.length : Int) > 200) = false by simp; omega, if_neg (show ¬ (false = true) by decide)]
  exact check_l0 n M E h3 h4 h5 h6 M.length 0 (by omega) (by omega)


/-- A number of a set: an Int that is a Nat below 2^32. -/
def Set32 (x : Int) (P : Nat → Prop) : Prop := ∃ X : Nat, x = X ∧ X < 2 ^ 32 ∧ ∀ q, X.testBit q = true ↔ P q
theorem Set32.imp {x : Int} {P Q : Nat → Prop} (h : Set32 x P) (e : ∀ q, P q ↔ Q q) : Set32 x Q := by
  obtain ⟨X, hx, hl, hb⟩ := h
  exact ⟨X, hx, hl, fun q => (hb q).trans (e q)⟩
theorem toN {x : Int} (h0 : 0 ≤ x) : ((x.toNat : Nat) : Int) = x := by omega
theorem Set32.has {x : Int} {P : Nat → Prop} (h : Set32 x P) {q : Int} (q0 : 0 ≤ q) (q1 : q < 32) : (Go.bits .and .u32 (shr .u32 x q) 1 = 1) ↔ P q.toNat := by
  obtain ⟨X, rfl, hl, hb⟩ := h
  rw [← hb, ← has32 X q.toNat hl (by omega), toN q0]
theorem Set32.put {x : Int} {P : Nat → Prop} (h : Set32 x P) {q : Int} (q0 : 0 ≤ q) (q1 : q < 32) : Set32 (Go.bits .or .u32 x (shl .u32 1 q)) (fun r => P r ∨ q.toNat = r) := by
  obtain ⟨X, rfl, hl, hb⟩ := h
  refine ⟨X ||| 2 ^ q.toNat, ?_, put32_lt hl (by omega), fun r => ?_⟩
  · rw [← put32 X q.toNat hl (by omega), toN q0]
  · rw [put32_has, hb]
theorem Set32.meet {x y : Int} {P Q : Nat → Prop} (h : Set32 x P) (h' : Set32 y Q) : (Go.bits .and .u32 x y != 0) = true ↔ ∃ q, P q ∧ Q q := by
  obtain ⟨X, rfl, hl, hb⟩ := h
  obtain ⟨Y, rfl, hl', hb'⟩ := h'
  rw [meet32 hl hl']
  simp only [hb, hb']
theorem set_zero : Set32 0 (fun _ => False) := ⟨0, rfl, by decide, fun q => by simp⟩
theorem set_one : Set32 1 (fun q => q = 0) := ⟨1, rfl, by decide, fun q => by rw [show (1 : Nat) = 2 ^ 0 from rfl, Nat.testBit_two_pow]; simp [eq_comm]⟩

section sets
variable (n : Int) (M : List S109) (E : List Int)
/-- A move by c from p to q. -/
def Goes (c : Int) (p q : Nat) : Prop := ∃ m ∈ M, m.f0.toNat = p ∧ m.f2 ≤ c ∧ c ≤ m.f3 ∧ m.f1.toNat = q
def Path : List Int → Nat → Nat → Prop
  | [], p, q => p = q
  | c :: t, p, q => ∃ r, Goes M c p r ∧ Path t r q
theorem path_split (a b : List Int) : ∀ p q, Path M (a ++ b) p q ↔ ∃ r, Path M a p r ∧ Path M b r q := by
  induction a with
  | nil => intro p q; simp [Path]
  | cons c t ih =>
    intro p q
    simp only [List.cons_append, Path, ih]
    constructor
    · rintro ⟨r, hg, s, h1, h2⟩; exact ⟨s, ⟨r, hg, h1⟩, h2⟩
    · rintro ⟨s, ⟨r, hg, h1⟩, h2⟩; exact ⟨r, hg, s, h1, h2⟩
theorem drop_at {i : Int} (h0 : 0 ≤ i) (h1 : i < M.length) : M.drop i.toNat = rd_T109 M i :: M.drop (i + 1).toNat := by
  rw [List.drop_eq_getElem_cons (show i.toNat < M.length by omega), show (i + 1).toNat = i.toNat + 1 by omega]
  congr 1
  unfold rd_T109
  rw [List.getD_eq_getElem?_getD, List.getElem?_eq_getElem (by omega)]
  rfl
theorem drop_int {l : List Int} {i : Int} (h0 : 0 ≤ i) (h1 : i < l.length) : l.drop i.toNat = rd l i :: l.drop (i + 1).toNat := by
  rw [List.drop_eq_getElem_cons (show i.toNat < l.length by omega), show (i + 1).toNat = i.toNat + 1 by omega, rd_lt h0 h1]

theorem step_l0 (hn8 : n ≤ 8) (hM8 : M.length ≤ 200) (hM : ∀ m ∈ M, MoveOk n m) (x c : Int) (P : Nat → Prop) (hx : Set32 x P) (d : Nat) : ∀ (i a : Int) (A : Nat → Prop), 0 ≤ i → i + d = M.length → Set32 a A →
    Gets (fun k => gram_step.l0 k x c a M (M.length : Int) i) (fun r => Set32 r (fun q => A q ∨ ∃ m ∈ M.drop i.toNat, P m.f0.toNat ∧ m.f2 ≤ c ∧ c ≤ m.f3 ∧ m.f1.toNat = q)) := by
  induction d with
  | zero =>
    intro i a A h0 h1 ha
    refine Gets.up ?_
    simp only [gram_step.l0, if_neg (show ¬ i < (M.length : Int) by omega)]
    refine Gets.ret (ha.imp fun q => ?_)
    rw [List.drop_of_length_le (by omega)]
    simp
  | succ d ih =>
    intro i a A h0 h1 ha
    obtain ⟨m0, m1, m2, m3, m4, m5, m6⟩ := hM _ (rdM M h0 (show i < M.length by omega))
    have hw : wrap64 (i + 1) = i + 1 := w64 (by omega) (by omega)
    have hd := drop_at M h0 (show i < M.length by omega)
    obtain ⟨m, hmd⟩ : ∃ m, rd_T109 M i = m := ⟨_, rfl⟩
    rw [hmd] at m0 m1 m2 m3 m4 m5 m6 hd
    have skip : ∀ (Q : Nat → Prop), (∀ q, Q q → False) → ∀ r, Set32 r (fun q => A q ∨ ∃ m ∈ M.drop (i + 1).toNat, P m.f0.toNat ∧ m.f2 ≤ c ∧ c ≤ m.f3 ∧ m.f1.toNat = q) → (∀ q, (P m.f0.toNat ∧ m.f2 ≤ c ∧ c ≤ m.f3 ∧ m.f1.toNat = q) → Q q) → Set32 r (fun q => A q ∨ ∃ m ∈ M.drop i.toNat, P m.f0.toNat ∧ m.f2 ≤ c ∧ c ≤ m.f3 ∧ m.f1.toNat = q) := by
      intro Q hQ r hr hm
      refine hr.imp fun q => ?_
      rw [hd]
      simp only [List.mem_cons, exists_eq_or_imp]
      constructor
      · rintro (h | h)
        · exact .inl h
        · exact .inr (.inr h)
      · rintro (h | h | h)
        · exact .inl h
        · exact (hQ q (hm q h)).elim
        · exact .inr h
    refine Gets.up ?_
    by_cases c1 : P m.f0.toNat
    · have b1 : Go.bits .and .u32 (shr .u32 x m.f0) 1 = 1 := (hx.has m0 (by omega)).2 c1
      by_cases c2 : c ≥ m.f2
      · by_cases c3 : c ≤ m.f3
        · simp only [gram_step.l0, if_pos (show i < (M.length : Int) by omega), if_pos h0, hmd, if_pos m0, if_pos b1, if_pos c2, if_pos c3, if_pos m2, hw]
          refine (ih (i + 1) _ _ (by omega) (by omega) (ha.put m2 (by omega))).imp fun r hr => hr.imp fun q => ?_
          rw [hd]
          simp only [List.mem_cons, exists_eq_or_imp]
          constructor
          · rintro ((h | h) | h)
            · exact .inl h
            · exact .inr (.inl ⟨c1, c2, c3, h⟩)
            · exact .inr (.inr h)
          · rintro (h | h | h)
            · exact .inl (.inl h)
            · exact .inl (.inr h.2.2.2)
            · exact .inr h
        · simp only [gram_step.l0, if_pos (show i < (M.length : Int) by omega), if_pos h0, hmd, if_pos m0, if_pos b1, if_pos c2, if_neg c3, hw]
          exact (ih (i + 1) a A (by omega) (by omega) ha).imp fun r hr => skip (fun _ => False) (fun _ h => h) r hr (fun q h => c3 h.2.2.1)
      · simp only [gram_step.l0, if_pos (show i < (M.length : Int) by omega), if_pos h0, hmd, if_pos m0, if_pos b1, if_neg c2, hw]
        exact (ih (i + 1) a A (by omega) (by omega) ha).imp fun r hr => skip (fun _ => False) (fun _ h => h) r hr (fun q h => c2 h.2.1)
    · have b1 : ¬ Go.bits .and .u32 (shr .u32 x m.f0) 1 = 1 := fun e => c1 ((hx.has m0 (by omega)).1 e)
      simp only [gram_step.l0, if_pos (show i < (M.length : Int) by omega), if_pos h0, hmd, if_pos m0, if_neg b1, hw]
      exact (ih (i + 1) a A (by omega) (by omega) ha).imp fun r hr => skip (fun _ => False) (fun _ h => h) r hr (fun q h => c1 h.1)
theorem step_f (hn8 : n ≤ 8) (hM8 : M.length ≤ 200) (hM : ∀ m ∈ M, MoveOk n m) (x c : Int) (P : Nat → Prop) (hx : Set32 x P) : Gets (fun k => gram_step.f k n M E x c) (fun r => Set32 r (fun q => ∃ p, P p ∧ Goes M c p q)) := by
  unfold gram_step.f
  refine (step_l0 n M hn8 hM8 hM x c P hx M.length 0 0 _ (by omega) (by omega) set_zero).imp fun r hr => hr.imp fun q => ?_
  simp only [Int.toNat_zero, List.drop_zero, false_or]
  constructor
  · rintro ⟨m, hm, h1, h2, h3, h4⟩; exact ⟨_, h1, m, hm, rfl, h2, h3, h4⟩
  · rintro ⟨p, h1, m, hm, rfl, h2, h3, h4⟩; exact ⟨m, hm, h1, h2, h3, h4⟩
theorem run_l0 (hn8 : n ≤ 8) (hM8 : M.length ≤ 200) (hM : ∀ m ∈ M, MoveOk n m) (t : List Int) (ht : t.length ≤ 4096) (d : Nat) : ∀ (i x : Int) (P : Nat → Prop), 0 ≤ i → i + d = t.length → Set32 x P →
    Gets (fun k => gram_run.l0 k x t (t.length : Int) i n M E) (fun r => Set32 r (fun q => ∃ p, P p ∧ Path M (t.drop i.toNat) p q)) := by
  induction d with
  | zero =>
    intro i x P h0 h1 hx
    refine Gets.up ?_
    simp only [gram_run.l0, if_neg (show ¬ i < (t.length : Int) by omega)]
    refine Gets.ret (hx.imp fun q => ?_)
    rw [List.drop_of_length_le (by omega)]
    simp [Path]
  | succ d ih =>
    intro i x P h0 h1 hx
    have hw : wrap64 (i + 1) = i + 1 := w64 (by omega) (by omega)
    refine Gets.up ?_
    simp only [gram_run.l0, if_pos (show i < (t.length : Int) by omega), if_pos h0, hw]
    refine Gets.bind (step_f n M E hn8 hM8 hM x (rd t i) P hx) fun y hy => ?_
    refine (ih (i + 1) y _ (by omega) (by omega) hy).imp fun r hr => hr.imp fun q => ?_
    rw [drop_int h0 (show i < t.length by omega)]
    simp only [Path]
    constructor
    · rintro ⟨r, ⟨p, hp, hg⟩, h⟩; exact ⟨p, hp, r, hg, h⟩
    · rintro ⟨p, hp, r, hg, h⟩; exact ⟨r, ⟨p, hp, hg⟩, h⟩
theorem run_f (hn8 : n ≤ 8) (hM8 : M.length ≤ 200) (hM : ∀ m ∈ M, MoveOk n m) (t : List Int) (ht : t.length ≤ 4096) (x : Int) (P : Nat → Prop) (hx : Set32 x P) :
    Gets (fun k => gram_run.f k n M E x t) (fun r => Set32 r (fun q => ∃ p, P p ∧ Path M t p q)) := by
  unfold gram_run.f
  exact run_l0 n M E hn8 hM8 hM t ht t.length 0 x P (by omega) (by omega) hx
theorem ends_l0 (hn8 : n ≤ 8) (hE8 : E.length ≤ 8) (hE : EndsOk n E) (d : Nat) : ∀ (i a : Int) (A : Nat → Prop), 0 ≤ i → i + d = E.length → Set32 a A → (∀ q, A q → (q : Int) < n) → Gets (fun k => gram_ends.l0 k a E (E.length : Int) i) (fun r => ∃ A', Set32 r A' ∧ ∀ q, A' q → (q : Int) < n) := by
  induction d with
  | zero =>
    intro i a A h0 h1 ha hA
    refine Gets.up ?_
    simp only [gram_ends.l0, if_neg (show ¬ i < (E.length : Int) by omega)]
    exact Gets.ret ⟨A, ha, hA⟩
  | succ d ih =>
    intro i a A h0 h1 ha hA
    have hw : wrap64 (i + 1) = i + 1 := w64 (by omega) (by omega)
    obtain ⟨e0, e1⟩ := hE.1 (rd E i) (by rw [rd_lt h0 (by omega)]; exact List.getElem_mem _)
    refine Gets.up ?_
    simp only [gram_ends.l0, if_pos (show i < (E.length : Int) by omega), if_pos h0, if_pos e0, hw]
    exact ih (i + 1) _ _ (by omega) (by omega) (ha.put e0 (by omega)) (fun q hq => by rcases hq with hq | hq; exact hA q hq; omega)
theorem ends_f (hn8 : n ≤ 8) (hE8 : E.length ≤ 8) (hE : EndsOk n E) : Gets (fun k => gram_ends.f k n M E) (fun r => ∃ A', Set32 r A' ∧ ∀ q, A' q → (q : Int) < n) := by
  unfold gram_ends.f
  exact ends_l0 n E hn8 hE8 hE E.length 0 0 _ (by omega) (by omega) set_zero (fun q hq => hq.elim)
theorem reach_l1 (hn8 : n ≤ 8) (hM8 : M.length ≤ 200) (hM : ∀ m ∈ M, MoveOk n m) (x : Int) (P : Nat → Prop) (hx : Set32 x P)
    (Z : Int → Prop) (hout : ∀ (y : Int) (Q : Nat → Prop), Set32 y Q → (∀ q, P q → Q q) → (∀ C : Nat → Prop, (∀ q, P q → C q) → (∀ m ∈ M, C m.f0.toNat → C m.f1.toNat) → ∀ q, Q q → C q) → y ≠ x → Gets (fun k => gram_reach.l0 k y n M E) Z) (hin : (∀ m ∈ M, P m.f0.toNat → P m.f1.toNat) → Z x) (d : Nat) :
    ∀ (i y : Int) (Q : Nat → Prop), 0 ≤ i → i + d = M.length → Set32 y Q → (∀ q, P q → Q q) → (∀ C : Nat → Prop, (∀ q, P q → C q) → (∀ m ∈ M, C m.f0.toNat → C m.f1.toNat) → ∀ q, Q q → C q) → (∀ m ∈ M.take i.toNat, P m.f0.toNat → Q m.f1.toNat) →
      Gets (fun k => gram_reach.l1 k x y M (M.length : Int) i n M E) Z := by
  induction d with
  | zero =>
    intro i y Q h0 h1 hy hs hl hc
    refine Gets.up ?_
    simp only [gram_reach.l1, if_neg (show ¬ i < (M.length : Int) by omega)]
    rw [List.take_of_length_le (by omega)] at hc
    by_cases e : y = x
    · subst e
      simp only [if_true]
      refine Gets.ret (hin fun m hm hp => ?_)
      obtain ⟨X, e1, _, b1⟩ := hx
      obtain ⟨Y, e2, _, b2⟩ := hy
      have : X = Y := by omega
      subst this
      exact (b1 _).1 ((b2 _).2 (hc m hm hp))
    · simp only [if_neg e]
      exact hout y Q hy hs hl e
  | succ d ih =>
    intro i y Q h0 h1 hy hs hl hc
    have hw : wrap64 (i + 1) = i + 1 := w64 (by omega) (by omega)
    have hlt : i < M.length := by omega
    obtain ⟨m0, m1, m2, m3, m4, m5, m6⟩ := hM _ (rdM M h0 hlt)
    have ht : M.take (i + 1).toNat = M.take i.toNat ++ [rd_T109 M i] := by
      rw [show (i + 1).toNat = i.toNat + 1 by omega, List.take_succ_eq_append_getElem (show i.toNat < M.length by omega)]
      congr 2
      unfold rd_T109
      rw [List.getD_eq_getElem?_getD, List.getElem?_eq_getElem (by omega)]
      rfl
    obtain ⟨m, hmd⟩ : ∃ m, rd_T109 M i = m := ⟨_, rfl⟩
    rw [hmd] at m0 m1 m2 m3 m4 m5 m6 ht
    refine Gets.up ?_
    by_cases c1 : P m.f0.toNat
    · have b1 : Go.bits .and .u32 (shr .u32 x m.f0) 1 = 1 := (hx.has (by omega) (by omega)).2 c1
      simp only [gram_reach.l1, if_pos (show i < (M.length : Int) by omega), if_pos h0, hmd, if_pos (show 0 ≤ m.f0 by omega), if_pos b1, if_pos (show 0 ≤ m.f1 by omega), hw]
      refine ih (i + 1) _ _ (by omega) (by omega) (hy.put (by omega) (by omega)) (fun q hq => .inl (hs q hq)) (fun C hP hC q hq => ?_) ?_
      · rcases hq with hq | rfl
        · exact hl C hP hC q hq
        · exact hC m (by rw [← hmd]; exact rdM M h0 hlt) (hP _ c1)
      rw [ht]
      intro m' hm' hp
      rcases List.mem_append.1 hm' with hm' | hm'
      · exact .inl (hc m' hm' hp)
      · have : m' = m := by simpa using hm'
        subst this
        exact .inr rfl
    · have b1 : ¬ Go.bits .and .u32 (shr .u32 x m.f0) 1 = 1 := fun e => c1 ((hx.has (by omega) (by omega)).1 e)
      simp only [gram_reach.l1, if_pos (show i < (M.length : Int) by omega), if_pos h0, hmd, if_pos (show 0 ≤ m.f0 by omega), if_neg b1, hw]
      refine ih (i + 1) y Q (by omega) (by omega) hy hs hl ?_
      rw [ht]
      intro m' hm' hp
      rcases List.mem_append.1 hm' with hm' | hm'
      · exact hc m' hm' hp
      · have : m' = m := by simpa using hm'
        subst this
        exact (c1 hp).elim
theorem reach_l0 (hn8 : n ≤ 8) (hM8 : M.length ≤ 200) (hM : ∀ m ∈ M, MoveOk n m) (S : Nat → Prop) (d : Nat) : ∀ (x : Int) (P : Nat → Prop), Set32 x P → (4294967296 - x ≤ d) → (∀ q, S q → P q) → (∀ C : Nat → Prop, (∀ q, S q → C q) → (∀ m ∈ M, C m.f0.toNat → C m.f1.toNat) → ∀ q, P q → C q) →
    Gets (fun k => gram_reach.l0 k x n M E) (fun r => ∃ R, Set32 r R ∧ (∀ q, S q → R q) ∧ (∀ m ∈ M, R m.f0.toNat → R m.f1.toNat) ∧ (∀ C : Nat → Prop, (∀ q, S q → C q) → (∀ m ∈ M, C m.f0.toNat → C m.f1.toNat) → ∀ q, R q → C q)) := by
  induction d with
  | zero =>
    intro x P hx hd _ _
    obtain ⟨X, e, h, _⟩ := hx
    omega
  | succ d ih =>
    intro x P hx hd hS hL
    refine Gets.up ?_
    simp only [gram_reach.l0]
    refine reach_l1 n M E hn8 hM8 hM x P hx _ ?_ ?_ M.length 0 x P (by omega) (by omega) hx (fun _ h => h) (fun C hP _ q hq => hP q hq) (by simp)
    · intro y Q hy hs hl hne
      refine ih y Q hy ?_ (fun q hq => hs q (hS q hq)) (fun C hC1 hC2 => hl C (hL C hC1 hC2) hC2)
      obtain ⟨X, e1, _, b1⟩ := hx
      obtain ⟨Y, e2, _, b2⟩ := hy
      have : X ≤ Y := sub_le (fun q hq => (b2 q).2 (hs q ((b1 q).1 hq)))
      omega
    · intro h
      exact ⟨P, hx, hS, h, hL⟩
theorem reach_f (hn8 : n ≤ 8) (hM8 : M.length ≤ 200) (hM : ∀ m ∈ M, MoveOk n m) (x : Int) (P : Nat → Prop) (hx : Set32 x P) :
    Gets (fun k => gram_reach.f k n M E x) (fun r => ∃ R, Set32 r R ∧ (∀ q, P q → R q) ∧ (∀ m ∈ M, R m.f0.toNat → R m.f1.toNat) ∧ (∀ C : Nat → Prop, (∀ q, P q → C q) → (∀ m ∈ M, C m.f0.toNat → C m.f1.toNat) → ∀ q, R q → C q)) := by
  unfold gram_reach.f
  refine reach_l0 n M E hn8 hM8 hM P 4294967296 x P hx ?_ (fun _ h => h) (fun C hP _ q hq => hP q hq)
  obtain ⟨X, e, h, _⟩ := hx
  omega

theorem lead_l1 (hn8 : n ≤ 8) (hM8 : M.length ≤ 200) (hM : ∀ m ∈ M, MoveOk n m) (x : Int) (P : Nat → Prop) (hx : Set32 x P)
    (Z : Int → Prop) (hout : ∀ (y : Int) (Q : Nat → Prop), Set32 y Q → (∀ q, P q → Q q) → (∀ C : Nat → Prop, (∀ q, P q → C q) → (∀ m ∈ M, C m.f1.toNat → C m.f0.toNat) → ∀ q, Q q → C q) → y ≠ x → Gets (fun k => gram_lead.l0 k y n M E) Z) (hin : (∀ m ∈ M, P m.f1.toNat → P m.f0.toNat) → Z x) (d : Nat) :
    ∀ (i y : Int) (Q : Nat → Prop), 0 ≤ i → i + d = M.length → Set32 y Q → (∀ q, P q → Q q) → (∀ C : Nat → Prop, (∀ q, P q → C q) → (∀ m ∈ M, C m.f1.toNat → C m.f0.toNat) → ∀ q, Q q → C q) → (∀ m ∈ M.take i.toNat, P m.f1.toNat → Q m.f0.toNat) →
      Gets (fun k => gram_lead.l1 k x y M (M.length : Int) i n M E) Z := by
  induction d with
  | zero =>
    intro i y Q h0 h1 hy hs hl hc
    refine Gets.up ?_
    simp only [gram_lead.l1, if_neg (show ¬ i < (M.length : Int) by omega)]
    rw [List.take_of_length_le (by omega)] at hc
    by_cases e : y = x
    · subst e
      simp only [if_true]
      refine Gets.ret (hin fun m hm hp => ?_)
      obtain ⟨X, e1, _, b1⟩ := hx
      obtain ⟨Y, e2, _, b2⟩ := hy
      have : X = Y := by omega
      subst this
      exact (b1 _).1 ((b2 _).2 (hc m hm hp))
    · simp only [if_neg e]
      exact hout y Q hy hs hl e
  | succ d ih =>
    intro i y Q h0 h1 hy hs hl hc
    have hw : wrap64 (i + 1) = i + 1 := w64 (by omega) (by omega)
    have hlt : i < M.length := by omega
    obtain ⟨m0, m1, m2, m3, m4, m5, m6⟩ := hM _ (rdM M h0 hlt)
    have ht : M.take (i + 1).toNat = M.take i.toNat ++ [rd_T109 M i] := by
      rw [show (i + 1).toNat = i.toNat + 1 by omega, List.take_succ_eq_append_getElem (show i.toNat < M.length by omega)]
      congr 2
      unfold rd_T109
      rw [List.getD_eq_getElem?_getD, List.getElem?_eq_getElem (by omega)]
      rfl
    obtain ⟨m, hmd⟩ : ∃ m, rd_T109 M i = m := ⟨_, rfl⟩
    rw [hmd] at m0 m1 m2 m3 m4 m5 m6 ht
    refine Gets.up ?_
    by_cases c1 : P m.f1.toNat
    · have b1 : Go.bits .and .u32 (shr .u32 x m.f1) 1 = 1 := (hx.has (by omega) (by omega)).2 c1
      simp only [gram_lead.l1, if_pos (show i < (M.length : Int) by omega), if_pos h0, hmd, if_pos (show 0 ≤ m.f1 by omega), if_pos b1, if_pos (show 0 ≤ m.f0 by omega), hw]
      refine ih (i + 1) _ _ (by omega) (by omega) (hy.put (by omega) (by omega)) (fun q hq => .inl (hs q hq)) (fun C hP hC q hq => ?_) ?_
      · rcases hq with hq | rfl
        · exact hl C hP hC q hq
        · exact hC m (by rw [← hmd]; exact rdM M h0 hlt) (hP _ c1)
      rw [ht]
      intro m' hm' hp
      rcases List.mem_append.1 hm' with hm' | hm'
      · exact .inl (hc m' hm' hp)
      · have : m' = m := by simpa using hm'
        subst this
        exact .inr rfl
    · have b1 : ¬ Go.bits .and .u32 (shr .u32 x m.f1) 1 = 1 := fun e => c1 ((hx.has (by omega) (by omega)).1 e)
      simp only [gram_lead.l1, if_pos (show i < (M.length : Int) by omega), if_pos h0, hmd, if_pos (show 0 ≤ m.f1 by omega), if_neg b1, hw]
      refine ih (i + 1) y Q (by omega) (by omega) hy hs hl ?_
      rw [ht]
      intro m' hm' hp
      rcases List.mem_append.1 hm' with hm' | hm'
      · exact hc m' hm' hp
      · have : m' = m := by simpa using hm'
        subst this
        exact (c1 hp).elim
theorem lead_l0 (hn8 : n ≤ 8) (hM8 : M.length ≤ 200) (hM : ∀ m ∈ M, MoveOk n m) (S : Nat → Prop) (d : Nat) : ∀ (x : Int) (P : Nat → Prop), Set32 x P → (4294967296 - x ≤ d) → (∀ q, S q → P q) → (∀ C : Nat → Prop, (∀ q, S q → C q) → (∀ m ∈ M, C m.f1.toNat → C m.f0.toNat) → ∀ q, P q → C q) →
    Gets (fun k => gram_lead.l0 k x n M E) (fun r => ∃ R, Set32 r R ∧ (∀ q, S q → R q) ∧ (∀ m ∈ M, R m.f1.toNat → R m.f0.toNat) ∧ (∀ C : Nat → Prop, (∀ q, S q → C q) → (∀ m ∈ M, C m.f1.toNat → C m.f0.toNat) → ∀ q, R q → C q)) := by
  induction d with
  | zero =>
    intro x P hx hd _ _
    obtain ⟨X, e, h, _⟩ := hx
    omega
  | succ d ih =>
    intro x P hx hd hS hL
    refine Gets.up ?_
    simp only [gram_lead.l0]
    refine lead_l1 n M E hn8 hM8 hM x P hx _ ?_ ?_ M.length 0 x P (by omega) (by omega) hx (fun _ h => h) (fun C hP _ q hq => hP q hq) (by simp)
    · intro y Q hy hs hl hne
      refine ih y Q hy ?_ (fun q hq => hs q (hS q hq)) (fun C hC1 hC2 => hl C (hL C hC1 hC2) hC2)
      obtain ⟨X, e1, _, b1⟩ := hx
      obtain ⟨Y, e2, _, b2⟩ := hy
      have : X ≤ Y := sub_le (fun q hq => (b2 q).2 (hs q ((b1 q).1 hq)))
      omega
    · intro h
      exact ⟨P, hx, hS, h, hL⟩
theorem lead_f (hn8 : n ≤ 8) (hM8 : M.length ≤ 200) (hM : ∀ m ∈ M, MoveOk n m) (x : Int) (P : Nat → Prop) (hx : Set32 x P) :
    Gets (fun k => gram_lead.f k n M E x) (fun r => ∃ R, Set32 r R ∧ (∀ q, P q → R q) ∧ (∀ m ∈ M, R m.f1.toNat → R m.f0.toNat) ∧ (∀ C : Nat → Prop, (∀ q, P q → C q) → (∀ m ∈ M, C m.f1.toNat → C m.f0.toNat) → ∀ q, R q → C q)) := by
  unfold gram_lead.f
  refine lead_l0 n M E hn8 hM8 hM P 4294967296 x P hx ?_ (fun _ h => h) (fun C hP _ q hq => hP q hq)
  obtain ⟨X, e, h, _⟩ := hx
  omega

/-- What the answers of Stands and Accepts say, Z being the ends, A what leads to them, R what is reached. -/
def Tells (Z A R : Nat → Prop) (t : List Int) (s : Bool × Bool × Bool × Int) : Prop :=
  (s.1 = true ↔ ∃ q, (∃ p, p = 0 ∧ Path M t p q) ∧ A q) ∧ (s.2.1 = true ↔ ∃ q, (∃ p, R p ∧ Path M t p q) ∧ A q) ∧ (s.2.2.1 = true ↔ ∃ q, (∃ p, R p ∧ Path M t p q) ∧ Z q) ∧ s.2.2.2 = 0
theorem stands_f (h : MachOk (n, M, E)) (e0 a0 r0 : Int) (Z A R : Nat → Prop) (hZ : Set32 e0 Z) (hA : Set32 a0 A) (hR : Set32 r0 R)
    (ke : ∃ K, ∀ k, K ≤ k → gram_ends.f k n M E = some e0) (ka : ∃ K, ∀ k, K ≤ k → gram_lead.f k n M E e0 = some a0) (kr : ∃ K, ∀ k, K ≤ k → gram_reach.f k n M E 1 = some r0)
    (t : List Int) (ht : t.length ≤ 4096) : Gets (fun k => gram_Stands.f k n M E t) (Tells M Z A R t) := by
  have hh := h
  obtain ⟨h1, h2, h3, h4, h5, h6⟩ := hh
  simp only at h1 h2 h3 h4 h5 h6
  simp only [gram_Stands.f]
  refine Gets.bind (check_f n M E h) ?_
  rintro _ rfl
  simp only [if_true]
  refine Gets.bind (P := fun r => r = e0) ⟨e0, rfl, ke⟩ ?_
  rintro _ rfl
  refine Gets.bind (P := fun r => r = a0) ⟨a0, rfl, ka⟩ ?_
  rintro _ rfl
  refine Gets.bind (P := fun r => r = r0) ⟨r0, rfl, kr⟩ ?_
  rintro _ rfl
  refine Gets.bind (run_f n M E h2 h3 h4 t ht 1 _ set_one) fun x hx => ?_
  refine Gets.bind (run_f n M E h2 h3 h4 t ht _ _ hR) fun y hy => ?_
  refine Gets.bind (run_f n M E h2 h3 h4 t ht _ _ hR) fun y' hy' => ?_
  refine Gets.bind (P := fun r => r = _) ⟨_, rfl, ke⟩ ?_
  rintro _ rfl
  exact Gets.ret ⟨hx.meet hA, hy.meet hA, hy'.meet hZ, rfl⟩
theorem accepts_f (h : MachOk (n, M, E)) (e0 : Int) (Z : Nat → Prop) (hZ : Set32 e0 Z) (ke : ∃ K, ∀ k, K ≤ k → gram_ends.f k n M E = some e0)
    (t : List Int) (ht : t.length ≤ 4096) : Gets (fun k => gram_Accepts.f k n M E t) (fun s => (s.1 = true ↔ ∃ q, (∃ p, p = 0 ∧ Path M t p q) ∧ Z q) ∧ s.2 = 0) := by
  have hh := h
  obtain ⟨h1, h2, h3, h4, h5, h6⟩ := hh
  simp only at h1 h2 h3 h4 h5 h6
  simp only [gram_Accepts.f]
  refine Gets.bind (check_f n M E h) ?_
  rintro _ rfl
  simp only [if_true]
  refine Gets.bind (run_f n M E h2 h3 h4 t ht 1 _ set_one) fun x hx => ?_
  refine Gets.bind (P := fun r => r = e0) ⟨e0, rfl, ke⟩ ?_
  rintro _ rfl
  exact Gets.ret ⟨hx.meet hZ, rfl⟩
theorem path_alive (A : Nat → Prop) (hA : ∀ m ∈ M, A m.f1.toNat → A m.f0.toNat) (t : List Int) : ∀ p q, Path M t p q → A q → A p := by
  induction t with
  | nil => intro p q h; simp only [Path] at h; subst h; exact id
  | cons c t ih =>
    intro p q h ha
    obtain ⟨r, ⟨m, hm, e1, _, _, e2⟩, h2⟩ := h
    rw [← e1]
    exact hA m hm (by rw [e2]; exact ih r q h2 ha)
theorem path_reach (R : Nat → Prop) (hR : ∀ m ∈ M, R m.f0.toNat → R m.f1.toNat) (t : List Int) : ∀ p q, Path M t p q → R p → R q := by
  induction t with
  | nil => intro p q h; simp only [Path] at h; subst h; exact id
  | cons c t ih =>
    intro p q h hp
    obtain ⟨r, ⟨m, hm, e1, _, _, e2⟩, h2⟩ := h
    exact ih r q h2 (by rw [← e2]; exact hR m hm (by rw [e1]; exact hp))
end sets

/-! ## sets again -/
theorem Set32.none {x : Int} {P : Nat → Prop} (h : Set32 x P) : x = 0 ↔ ∀ q, ¬ P q := by
  obtain ⟨X, rfl, hl, hb⟩ := h
  constructor
  · intro e q hq
    have e0 : X = 0 := by omega
    have := (hb q).2 hq
    rw [e0, Nat.zero_testBit] at this
    exact absurd this (by decide)
  · intro hq
    have e0 : X = 0 := Nat.eq_of_testBit_eq fun q => by
      rw [Nat.zero_testBit]
      cases c : X.testBit q with
      | false => rfl
      | true => exact absurd ((hb q).1 c) (hq q)
    rw [e0]; rfl
theorem Set32.inter {x y : Int} {P Q : Nat → Prop} (h : Set32 x P) (h' : Set32 y Q) : Set32 (Go.bits .and .u32 x y) (fun q => P q ∧ Q q) := by
  obtain ⟨X, rfl, hl, hb⟩ := h
  obtain ⟨Y, rfl, hl', hb'⟩ := h'
  refine ⟨X &&& Y, and32 hl hl', Nat.and_lt_two_pow _ hl', fun q => ?_⟩
  rw [Nat.testBit_and, Bool.and_eq_true, hb, hb']
theorem Set32.single {q : Nat} (hq : q < 32) : Set32 (shl .u32 1 (q : Int)) (fun r => q = r) := by
  refine ⟨2 ^ q, shl1 q hq, Nat.pow_lt_pow_right (by omega) hq, fun r => ?_⟩
  rw [Nat.testBit_two_pow]
  simp
theorem Set32.hasN {x : Int} {P : Nat → Prop} (h : Set32 x P) {q : Nat} (q1 : q < 32) : (Go.bits .and .u32 (shr .u32 x (q : Int)) 1 = 1) ↔ P q := by
  have := h.has (q := (q : Int)) (by omega) (by omega)
  rwa [Int.toNat_natCast] at this
theorem Set32.putN {x : Int} {P : Nat → Prop} (h : Set32 x P) {q : Nat} (q1 : q < 32) : Set32 (Go.bits .or .u32 x (shl .u32 1 (q : Int))) (fun r => P r ∨ q = r) := by
  have := h.put (q := (q : Int)) (by omega) (by omega)
  rwa [Int.toNat_natCast] at this
theorem gd_set {α : Type} (xs : List α) (i j : Nat) (v d : α) : (xs.set i v).getD j d = if i = j ∧ i < xs.length then v else xs.getD j d := by
  rw [List.getD_eq_getElem?_getD, List.getD_eq_getElem?_getD, List.getElem?_set]
  by_cases c : i = j
  · subst c
    by_cases c2 : i < xs.length
    · rw [if_pos rfl, if_pos c2, if_pos ⟨rfl, c2⟩]; rfl
    · rw [if_pos rfl, if_neg c2, if_neg (fun h => c2 h.2), List.getElem?_eq_none (by omega)]
  · rw [if_neg c, if_neg (fun h => c h.1)]
theorem at_one (X : List Int) (i : Nat) : rd X (i : Int) = X.getD i 0 := by simp only [rd, Int.toNat_natCast]
theorem w1 (q n : Nat) (h : q < n) (hn : n ≤ 4096) : wrap64 ((q : Int) + 1) = ((q + 1 : Nat) : Int) := by rw [w64] <;> omega
theorem nodup_len : ∀ (n : Nat) (o : List Nat), o.Nodup → (∀ k ∈ o, k < n) → o.length ≤ n := by
  intro n o h hm
  have h1 := List.Nodup.length_le_of_subset h (l₂ := List.range n) (fun k hk => List.mem_range.2 (hm k hk))
  rwa [List.length_range] at h1

/-! ## within -/
theorem within_l0 (D : List Int) (hD : D.length ≤ 8) (x d : Int) (P : Nat → Prop) (hx : Set32 x P) (e : Nat) : ∀ (i : Nat) (a : Int) (A : Nat → Prop), i + e = D.length → Set32 a A →
    Gets (fun k => gram_within.l0 k x d a D (D.length : Int) (i : Int)) (fun r => Set32 r (fun q => A q ∨ (i ≤ q ∧ q < D.length ∧ P q ∧ D.getD q 0 = d))) := by
  induction e with
  | zero =>
    intro i a A hi ha
    refine Gets.up ?_
    simp only [gram_within.l0, if_neg (show ¬ (i : Int) < (D.length : Int) by omega)]
    refine Gets.ret (ha.imp fun q => ⟨.inl, fun h => ?_⟩)
    rcases h with h | ⟨h1, h2, _⟩
    · exact h
    · omega
  | succ e ih =>
    intro i a A hi ha
    have q1 : (i : Int) < (D.length : Int) := by omega
    have q2 : (0 : Int) ≤ (i : Int) := by omega
    have hw := w1 i D.length (by omega) (by omega)
    have skip : ¬ (P i ∧ D.getD i 0 = d) → ∀ r, Set32 r (fun q => A q ∨ (i + 1 ≤ q ∧ q < D.length ∧ P q ∧ D.getD q 0 = d)) → Set32 r (fun q => A q ∨ (i ≤ q ∧ q < D.length ∧ P q ∧ D.getD q 0 = d)) := by
      intro hn r hr
      refine hr.imp fun q => ⟨?_, ?_⟩
      · rintro (h | ⟨h1, h2, h3, h4⟩)
        · exact .inl h
        · exact .inr ⟨by omega, h2, h3, h4⟩
      · rintro (h | ⟨h1, h2, h3, h4⟩)
        · exact .inl h
        · by_cases c : q = i
          · subst c; exact absurd ⟨h3, h4⟩ hn
          · exact .inr ⟨by omega, h2, h3, h4⟩
    refine Gets.up ?_
    by_cases c1 : P i
    · have b1 := (hx.hasN (show i < 32 by omega)).2 c1
      by_cases c2 : D.getD i 0 = d
      · simp only [gram_within.l0, at_one, hw]
        simp -implicitDefEqProofs only [if_pos q1, if_pos q2, if_pos b1, if_pos c2]
        refine (ih (i + 1) _ _ (by omega) (ha.putN (show i < 32 by omega))).imp fun r hr => hr.imp fun q => ⟨?_, ?_⟩
        · rintro ((h | h) | ⟨h1, h2, h3, h4⟩)
          · exact .inl h
          · subst h; exact .inr ⟨by omega, by omega, c1, c2⟩
          · exact .inr ⟨by omega, h2, h3, h4⟩
        · rintro (h | ⟨h1, h2, h3, h4⟩)
          · exact .inl (.inl h)
          · by_cases c : i = q
            · exact .inl (.inr c)
            · exact .inr ⟨by omega, h2, h3, h4⟩
      · simp only [gram_within.l0, at_one, hw]
        simp -implicitDefEqProofs only [if_pos q1, if_pos q2, if_pos b1, if_neg c2]
        exact (ih (i + 1) a A (by omega) ha).imp fun r hr => skip (fun h => c2 h.2) r hr
    · have b1 : ¬ Go.bits .and .u32 (shr .u32 x (i : Int)) 1 = 1 := fun e => c1 ((hx.hasN (show i < 32 by omega)).1 e)
      simp only [gram_within.l0, at_one, hw]
      simp -implicitDefEqProofs only [if_pos q1, if_pos q2, if_neg b1]
      exact (ih (i + 1) a A (by omega) ha).imp fun r hr => skip (fun h => c1 h.1) r hr
theorem within_f (D : List Int) (hD : D.length ≤ 8) (x d : Int) (P : Nat → Prop) (hx : Set32 x P) : Gets (fun k => gram_within.f k D x d) (fun r => Set32 r (fun q => q < D.length ∧ P q ∧ D.getD q 0 = d)) := by
  unfold gram_within.f
  refine (within_l0 D hD x d P hx D.length 0 0 _ (by omega) set_zero).imp fun r hr => hr.imp fun q => ⟨?_, ?_⟩
  · rintro (h | ⟨_, h⟩)
    · exact h.elim
    · exact h
  · exact fun h => .inr ⟨Nat.zero_le _, h⟩

/-! ## far -/
section far
variable (n : Nat) (M : List S109) (E : List Int)
/-- Distances, in round b, behind j moves. -/
structure Far (b : Nat) (Q : Nat → Prop) (j : Nat) (D : List Int) : Prop where
  len : D.length = n
  rng : ∀ s, s < n → -1 ≤ D.getD s 0 ∧ D.getD s 0 ≤ (b : Int) + 1
  old : ∀ s, s < n → Q s → D.getD s 0 = 0
  zero : ∀ s, s < n → D.getD s 0 = 0 → Q s
  step : ∀ s, s < n → 0 < D.getD s 0 → ∃ m ∈ M, m.f0.toNat = s ∧ D.getD m.f1.toNat 0 = D.getD s 0 - 1
  up : ∀ m ∈ M, 0 ≤ D.getD m.f1.toNat 0 → D.getD m.f1.toNat 0 < (b : Int) → 0 ≤ D.getD m.f0.toNat 0
  now : ∀ m ∈ M.take j, D.getD m.f1.toNat 0 = (b : Int) → 0 ≤ D.getD m.f0.toNat 0
variable {n M}
theorem take_snoc {j : Nat} (hj : j < M.length) : M.take (j + 1) = M.take j ++ [rd_T109 M (j : Int)] := by
  rw [List.take_succ_eq_append_getElem hj]
  congr 2
  unfold rd_T109
  rw [Int.toNat_natCast, List.getD_eq_getElem?_getD, List.getElem?_eq_getElem hj]
  rfl
theorem Far.skip {b j : Nat} {Q : Nat → Prop} {D : List Int} (h : Far n M b Q j D) (hj : j < M.length) (hs : D.getD (rd_T109 M (j : Int)).f1.toNat 0 = (b : Int) → 0 ≤ D.getD (rd_T109 M (j : Int)).f0.toNat 0) : Far n M b Q (j + 1) D := by
  refine ⟨h.len, h.rng, h.old, h.zero, h.step, h.up, fun m hm he => ?_⟩
  rw [take_snoc hj] at hm
  rcases List.mem_append.1 hm with hm | hm
  · exact h.now m hm he
  · have : m = rd_T109 M (j : Int) := by simpa using hm
    subst this
    exact hs he
theorem Far.set {b j a t : Nat} {Q : Nat → Prop} {D : List Int} (h : Far n M b Q j D) (hj : j < M.length) (ha : (rd_T109 M (j : Int)).f0.toNat = a) (ht : (rd_T109 M (j : Int)).f1.toNat = t) (han : a < n)
    (hneg : D.getD a 0 < 0) (hb : D.getD t 0 = (b : Int)) : Far n M b Q (j + 1) (D.set a ((b : Int) + 1)) := by
  have hl := h.len
  have g : ∀ s, (D.set a ((b : Int) + 1)).getD s 0 = if a = s then (b : Int) + 1 else D.getD s 0 := by
    intro s
    rw [gd_set]
    by_cases c : a = s
    · rw [if_pos ⟨c, by omega⟩, if_pos c]
    · rw [if_neg (fun h => c h.1), if_neg c]
  have hm : rd_T109 M (j : Int) ∈ M := rdM M (by omega) (by omega)
  refine ⟨by rw [List.length_set, hl], fun s hs => ?_, fun s hs hq => ?_, fun s hs => ?_, fun s hs => ?_, fun m hm2 => ?_, fun m hm2 => ?_⟩
  · rw [g]; split
    · omega
    · exact h.rng s hs
  · rw [g, if_neg ?_]
    · exact h.old s hs hq
    · rintro rfl
      have := h.old a hs hq
      omega
  · rw [g]; split
    · intro e; omega
    · exact h.zero s hs
  · rw [g s]; split
    · rename_i c
      subst c
      intro _
      refine ⟨_, hm, ha, ?_⟩
      rw [ht, g, if_neg (by rintro rfl; omega), hb]
      omega
    · intro hp
      obtain ⟨m, h1, h2, h3⟩ := h.step s hs hp
      refine ⟨m, h1, h2, ?_⟩
      rw [g, if_neg (by intro e; rw [← e] at h3; omega), h3]
  · rw [g, g]
    split
    · intro _ h2; omega
    · intro h1 h2
      have := h.up m hm2 h1 h2
      split <;> omega
  · rw [g, g]
    rw [take_snoc hj] at hm2
    split
    · intro h2; omega
    · intro h1
      split
      · omega
      · rename_i c1 c2
        rcases List.mem_append.1 hm2 with hm3 | hm3
        · exact h.now m hm3 h1
        · have : m = rd_T109 M (j : Int) := by simpa using hm3
          subst this
          exact absurd ha.symm c2
theorem far_l2 (hn8 : n ≤ 8) (hM8 : M.length ≤ 200) (hM : ∀ m ∈ M, MoveOk n m) {b : Nat} (hb : b < n) {Q : Nat → Prop} {P : List Int → Prop}
    (K : ∀ D, Far n M b Q M.length D → Gets (fun k => gram_far.l1 k D (n : Int) ((b + 1 : Nat) : Int) (n : Int) M E) P) (e : Nat) :
    ∀ (j : Nat) (D : List Int), j + e = M.length → Far n M b Q j D → Gets (fun k => gram_far.l2 k D (b : Int) (n : Int) (b : Int) M (M.length : Int) (j : Int) (n : Int) M E) P := by
  induction e with
  | zero =>
    intro j D hj h
    obtain rfl : j = M.length := by omega
    refine Gets.up ?_
    simp only [gram_far.l2, if_neg (show ¬ (M.length : Int) < (M.length : Int) by omega), w1 b n hb (by omega)]
    exact K D h
  | succ e ih =>
    intro j D hj h
    have hj2 : j < M.length := by omega
    obtain ⟨m0, m1, m2, m3, m4, m5, m6⟩ := hM _ (rdM M (show (0 : Int) ≤ (j : Int) by omega) (show (j : Int) < M.length by omega))
    have hset := fun a t => h.set (a := a) (t := t) hj2
    have hskip := h.skip hj2
    obtain ⟨m, hmd⟩ : ∃ m, rd_T109 M (j : Int) = m := ⟨_, rfl⟩
    rw [hmd] at hset hskip m0 m1 m2 m3
    obtain ⟨a, ha⟩ : ∃ a : Nat, m.f0 = (a : Int) := ⟨m.f0.toNat, by omega⟩
    obtain ⟨t, ht⟩ : ∃ t : Nat, m.f1 = (t : Int) := ⟨m.f1.toNat, by omega⟩
    rw [ha, ht] at hset hskip
    rw [ha] at m0 m1
    rw [ht] at m2 m3
    simp only [Int.toNat_natCast] at hset hskip
    have hl := h.len
    have q1 : (j : Int) < (M.length : Int) := by omega
    have q2 : (0 : Int) ≤ (j : Int) := by omega
    have q3 : (t : Int) < (D.length : Int) := by omega
    have q4 : (a : Int) < (D.length : Int) := by omega
    have hc : ((b + 1 : Nat) : Int) = (b : Int) + 1 := by omega
    have hw := w1 j M.length hj2 (by omega)
    have hw2 := w1 b n hb (by omega)
    refine Gets.up ?_
    by_cases c1 : D.getD t 0 = (b : Int)
    · by_cases c2 : D.getD a 0 < 0
      · have key := ih (j + 1) _ (by clear hw hw2; omega) (hset a t rfl rfl (by clear hw hw2; omega) c2 c1)
        simp only [gram_far.l2, hmd, ha, ht, at_one, hw, hw2, Int.toNat_natCast]
        simp -implicitDefEqProofs only [if_pos q1, if_pos q2, if_pos m2, if_pos q3, if_pos c1, if_pos m0, if_pos q4, if_pos c2]
        rw [hc]
        exact key
      · have key := ih (j + 1) D (by clear hw hw2; omega) (hskip (fun _ => by clear hw hw2; omega))
        simp only [gram_far.l2, hmd, ha, ht, at_one, hw, hw2, Int.toNat_natCast]
        simp -implicitDefEqProofs only [if_pos q1, if_pos q2, if_pos m2, if_pos q3, if_pos c1, if_pos m0, if_pos q4, if_neg c2]
        exact key
    · have key := ih (j + 1) D (by clear hw hw2; omega) (hskip (fun e => absurd e c1))
      simp only [gram_far.l2, hmd, ha, ht, at_one, hw, hw2, Int.toNat_natCast]
      simp -implicitDefEqProofs only [if_pos q1, if_pos q2, if_pos m2, if_pos q3, if_neg c1]
      exact key
theorem Far.next {b : Nat} {Q : Nat → Prop} {D : List Int} (h : Far n M b Q M.length D) : Far n M (b + 1) Q 0 D := by
  refine ⟨h.len, fun s hs => ?_, h.old, h.zero, h.step, fun m hm h1 h2 => ?_, fun m hm => ?_⟩
  · have := h.rng s hs; omega
  · by_cases c : D.getD m.f1.toNat 0 = (b : Int)
    · exact h.now m (by rw [List.take_of_length_le (Nat.le_refl _)]; exact hm) c
    · exact h.up m hm h1 (by omega)
  · simp at hm
theorem chain {D : List Int} (hM : ∀ m ∈ M, MoveOk n m) (hstep : ∀ s, s < n → 0 < D.getD s 0 → ∃ m ∈ M, m.f0.toNat = s ∧ D.getD m.f1.toNat 0 = D.getD s 0 - 1) :
    ∀ (v s : Nat), s < n → D.getD s 0 = (v : Int) → ∃ l : List Nat, l.length = v + 1 ∧ l.Nodup ∧ ∀ k ∈ l, k < n ∧ D.getD k 0 ≤ (v : Int) := by
  intro v
  induction v with
  | zero =>
    intro s hs hv
    refine ⟨[s], rfl, by simp, fun k hk => ?_⟩
    have : k = s := by simpa using hk
    subst this
    exact ⟨hs, by omega⟩
  | succ v ih =>
    intro s hs hv
    obtain ⟨m, hm, h1, h2⟩ := hstep s hs (by omega)
    obtain ⟨m0, m1, m2, m3, _⟩ := hM m hm
    obtain ⟨l, l1, l2, l3⟩ := ih m.f1.toNat (by omega) (by omega)
    refine ⟨s :: l, by rw [List.length_cons, l1], List.nodup_cons.2 ⟨fun hc => ?_, l2⟩, fun k hk => ?_⟩
    · have := (l3 s hc).2; omega
    · rcases List.mem_cons.1 hk with rfl | hk
      · exact ⟨hs, by omega⟩
      · have := l3 k hk; exact ⟨this.1, by omega⟩
/-- Distances to Q. -/
structure Dist (n : Nat) (M : List S109) (Q : Nat → Prop) (D : List Int) : Prop where
  len : D.length = n
  rng : ∀ s, s < n → -1 ≤ D.getD s 0 ∧ D.getD s 0 < n
  old : ∀ s, s < n → Q s → D.getD s 0 = 0
  zero : ∀ s, s < n → D.getD s 0 = 0 → Q s
  step : ∀ s, s < n → 0 < D.getD s 0 → ∃ m ∈ M, m.f0.toNat = s ∧ D.getD m.f1.toNat 0 = D.getD s 0 - 1
  up : ∀ m ∈ M, 0 ≤ D.getD m.f1.toNat 0 → 0 ≤ D.getD m.f0.toNat 0
theorem Far.dist {Q : Nat → Prop} {D : List Int} (hM : ∀ m ∈ M, MoveOk n m) (h : Far n M n Q 0 D) : Dist n M Q D := by
  have hr : ∀ s, s < n → -1 ≤ D.getD s 0 ∧ D.getD s 0 < n := by
    intro s hs
    refine ⟨(h.rng s hs).1, ?_⟩
    by_cases c : D.getD s 0 < 0
    · omega
    · obtain ⟨l, l1, l2, l3⟩ := chain hM h.step (D.getD s 0).toNat s hs (by omega)
      have := nodup_len n l l2 (fun k hk => (l3 k hk).1)
      omega
  refine ⟨h.len, hr, h.old, h.zero, h.step, fun m hm h1 => ?_⟩
  obtain ⟨m0, m1, m2, m3, _⟩ := hM m hm
  exact h.up m hm h1 (hr _ (by omega)).2
theorem far_l1 (hn8 : n ≤ 8) (hM8 : M.length ≤ 200) (hM : ∀ m ∈ M, MoveOk n m) {Q : Nat → Prop} (e : Nat) :
    ∀ (b : Nat) (D : List Int), b + e = n → Far n M b Q 0 D → Gets (fun k => gram_far.l1 k D (n : Int) (b : Int) (n : Int) M E) (Dist n M Q) := by
  induction e with
  | zero =>
    intro b D hb h
    obtain rfl : b = n := by omega
    refine Gets.up ?_
    simp only [gram_far.l1, if_neg (show ¬ (b : Int) < (b : Int) by omega)]
    exact Gets.ret (h.dist hM)
  | succ e ih =>
    intro b D hb h
    refine Gets.up ?_
    simp only [gram_far.l1, if_pos (show (b : Int) < (n : Int) by omega)]
    exact far_l2 E hn8 hM8 hM (show b < n by omega) (fun D' h' => ih (b + 1) D' (by omega) h'.next) M.length 0 D (by omega) h
theorem far_l0 (hn8 : n ≤ 8) (hM8 : M.length ≤ 200) (hM : ∀ m ∈ M, MoveOk n m) {x : Int} {Q : Nat → Prop} (hx : Set32 x Q) (e : Nat) :
    ∀ (i : Nat) (D : List Int), i + e = n → D.length = n → (∀ s, s < i → (Q s → D.getD s 0 = 0) ∧ (¬ Q s → D.getD s 0 = -1)) → Gets (fun k => gram_far.l0 k x D (n : Int) (i : Int) (n : Int) M E) (Dist n M Q) := by
  induction e with
  | zero =>
    intro i D hi hl h
    obtain rfl : i = n := by omega
    refine Gets.up ?_
    simp only [gram_far.l0, if_neg (show ¬ (i : Int) < (i : Int) by omega)]
    refine far_l1 E hn8 hM8 hM i 0 D (by omega) ⟨hl, fun s hs => ?_, fun s hs hq => (h s hs).1 hq, fun s hs hz => ?_, fun s hs hp => ?_, fun m hm h1 h2 => by omega, fun m hm => by simp at hm⟩
    · by_cases c : Q s
      · have := (h s hs).1 c; omega
      · have := (h s hs).2 c; omega
    · by_cases c : Q s
      · exact c
      · have := (h s hs).2 c; omega
    · by_cases c : Q s
      · have := (h s hs).1 c; omega
      · have := (h s hs).2 c; omega
  | succ e ih =>
    intro i D hi hl h
    have q1 : (i : Int) < (n : Int) := by omega
    have q2 : (0 : Int) ≤ (i : Int) := by omega
    have q3 : (i : Int) < (D.length : Int) := by omega
    have hw := w1 i n (by omega) (by omega)
    refine Gets.up ?_
    by_cases c : Q i
    · have b1 := (hx.hasN (show i < 32 by clear hw; omega)).2 c
      have key := ih (i + 1) ((D.set i (-1)).set i 0) (by clear hw; omega) (by rw [List.length_set, List.length_set]; exact hl) (fun s hs => by
        clear hw
        rw [gd_set, gd_set, List.length_set]
        by_cases c2 : i = s
        · subst c2
          rw [if_pos ⟨rfl, by omega⟩]
          exact ⟨fun _ => rfl, fun hn => absurd c hn⟩
        · rw [if_neg (fun h => c2 h.1), if_neg (fun h => c2 h.1)]
          exact h s (by omega))
      simp only [gram_far.l0, hw, Int.toNat_natCast, Option.bind_some]
      simp -implicitDefEqProofs only [if_pos q1, if_pos q2, if_pos q3, if_pos b1]
      exact key
    · have b1 : ¬ Go.bits .and .u32 (shr .u32 x (i : Int)) 1 = 1 := fun e => c ((hx.hasN (show i < 32 by clear hw; omega)).1 e)
      have key := ih (i + 1) (D.set i (-1)) (by clear hw; omega) (by rw [List.length_set]; exact hl) (fun s hs => by
        clear hw
        rw [gd_set]
        by_cases c2 : i = s
        · subst c2
          rw [if_pos ⟨rfl, by omega⟩]
          exact ⟨fun hq => absurd hq c, fun _ => rfl⟩
        · rw [if_neg (fun h => c2 h.1)]
          exact h s (by omega))
      simp only [gram_far.l0, hw, Int.toNat_natCast, Option.bind_some]
      simp -implicitDefEqProofs only [if_pos q1, if_pos q2, if_pos q3, if_neg b1]
      exact key
theorem far_f (hn8 : n ≤ 8) (hM8 : M.length ≤ 200) (hM : ∀ m ∈ M, MoveOk n m) {x : Int} {Q : Nat → Prop} (hx : Set32 x Q) : Gets (fun k => gram_far.f k (n : Int) M E x) (Dist n M Q) := by
  have q1 : (0 : Int) ≤ (n : Int) := by omega
  have q2 : n ≤ 35184372088832 := by omega
  simp only [gram_far.f, Int.toNat_natCast, Option.bind_some, List.length_replicate]
  simp -implicitDefEqProofs only [if_pos q1, if_pos q2]
  exact far_l0 E hn8 hM8 hM hx n 0 _ (by omega) List.length_replicate (fun s hs => absurd hs (Nat.not_lt_zero s))

/-! ## path -/
/-- A text from P to Q; or a set of states, P aside, that leads to Q. -/
def PathRes (n : Nat) (M : List S109) (P Q : Nat → Prop) (r : List Int × Bool) : Prop :=
  (r.2 = true → r.1.length ≤ 8 ∧ (∀ c ∈ r.1, 0 ≤ c ∧ c < 256) ∧ ∃ p q, P p ∧ Q q ∧ Path M r.1 p q) ∧
  (r.2 = false → r.1 = [] ∧ ∃ C : Nat → Prop, (∀ q, Q q → q < n → C q) ∧ (∀ m ∈ M, C m.f1.toNat → C m.f0.toNat) ∧ ∀ p, P p → p < n → ¬ C p)
theorem path_snoc {t : List Int} {c : Int} {p r q : Nat} (h : Path M t p r) (hg : Goes M c r q) : Path M (t ++ [c]) p q := (path_split M t [c] p q).2 ⟨r, h, q, hg, rfl⟩
variable {Q P0 : Nat → Prop} {D : List Int}
theorem path_l2 (hn8 : n ≤ 8) (hM8 : M.length ≤ 200) (hM : ∀ m ∈ M, MoveOk n m) (hD : Dist n M Q D) {d : Nat} (hd : d < n) {x at_ : Int} {A : Nat → Prop} (hA : Set32 at_ A) {text : List Int} (htl : text.length ≤ 9) {Z : List Int × Bool → Prop}
    (K : ∀ (c y : Int) (B : Nat → Prop), 0 ≤ c → c < 256 → Set32 y B → (∃ q, B q) → (∀ q, B q → q < n ∧ (∃ p, A p ∧ Goes M c p q) ∧ D.getD q 0 = (d : Int)) → Gets (fun k => gram_path.l1 k y D (text ++ [c]) (d : Int) (n : Int) M E) Z) (e : Nat) :
    ∀ c : Nat, c + e = 256 → (∃ c' : Int, (c : Int) ≤ c' ∧ c' < 256 ∧ ∃ q, q < n ∧ (∃ p, A p ∧ Goes M c' p q) ∧ D.getD q 0 = (d : Int)) → Gets (fun k => gram_path.l2 k x D text ((d + 1 : Nat) : Int) at_ (c : Int) (n : Int) M E) Z := by
  induction e with
  | zero => intro c hc ⟨c', h1, h2, _⟩; omega
  | succ e ih =>
    intro c hc hex
    have q1 : (c : Int) < 256 := by omega
    have hm : (c : Int) % 256 = (c : Int) := by omega
    have q2 : text.length < 140737488355328 := by omega
    have q0 : (0 : Int) ≤ (c : Int) := by omega
    have hl := hD.len
    have hih : (∃ c' : Int, ((c + 1 : Nat) : Int) ≤ c' ∧ c' < 256 ∧ ∃ q, q < n ∧ (∃ p, A p ∧ Goes M c' p q) ∧ D.getD q 0 = (d : Int)) → Gets (fun k => gram_path.l2 k x D text ((d + 1 : Nat) : Int) at_ ((c + 1 : Nat) : Int) (n : Int) M E) Z := ih (c + 1) (by omega)
    have hw := w1 c 256 (by omega) (by omega)
    have hw2 : wrap64 (((d + 1 : Nat) : Int) - 1) = (d : Int) := by clear hw; rw [w64] <;> omega
    refine Gets.up ?_
    simp only [gram_path.l2, hm, hw, hw2]
    simp -implicitDefEqProofs only [if_pos q1]
    refine (step_f n M E (by clear hw hw2; omega) hM8 hM at_ (c : Int) A hA).bind fun y hy => ?_
    refine (within_f D (by clear hw hw2; omega) y (d : Int) _ hy).bind fun z hz => ?_
    rw [hl] at hz
    by_cases c0 : z = 0
    · simp -implicitDefEqProofs only [if_pos c0]
      refine hih ?_
      obtain ⟨c', h1, h2, q, h3, h4, h5⟩ := hex
      refine ⟨c', ?_, h2, q, h3, h4, h5⟩
      by_cases c1 : c' = (c : Int)
      · subst c1
        exact absurd ⟨h3, h4, h5⟩ ((hz.none).1 c0 q)
      · clear hw hw2; omega
    · simp -implicitDefEqProofs only [if_neg c0, if_pos q2]
      refine K (c : Int) z _ q0 q1 hz ?_ (fun q hq => hq)
      by_cases c1 : ∃ q, q < n ∧ (∃ p, A p ∧ Goes M (c : Int) p q) ∧ D.getD q 0 = (d : Int)
      · exact c1
      · exact absurd (hz.none.2 fun q hq => c1 ⟨q, hq⟩) c0
theorem path_l1 (hn8 : n ≤ 8) (hM8 : M.length ≤ 200) (hM : ∀ m ∈ M, MoveOk n m) (hD : Dist n M Q D) : ∀ (d : Nat) (x : Int) (P : Nat → Prop) (text : List Int), d < n → Set32 x P → (∃ p, p < n ∧ P p ∧ D.getD p 0 = (d : Int)) →
    (∀ q, P q → ∃ p, P0 p ∧ Path M text p q) → text.length + d ≤ 8 → (∀ c ∈ text, 0 ≤ c ∧ c < 256) → Gets (fun k => gram_path.l1 k x D text (d : Int) (n : Int) M E) (PathRes n M P0 Q) := by
  intro d
  induction d with
  | zero =>
    intro x P text hd hx ⟨p, hp, hPp, hz⟩ hto hlen hbytes
    refine Gets.up ?_
    simp only [gram_path.l1, if_neg (show ¬ ((0 : Nat) : Int) > 0 by omega)]
    obtain ⟨p0, h0, h1⟩ := hto p hPp
    exact Gets.ret ⟨fun _ => ⟨by simpa using hlen, hbytes, p0, p, h0, hD.zero p hp hz, h1⟩, fun h => absurd h (by simp)⟩
  | succ d ih =>
    intro x P text hd hx ⟨p, hp, hPp, hz⟩ hto hlen hbytes
    have hl := hD.len
    refine Gets.up ?_
    simp only [gram_path.l1, if_pos (show ((d + 1 : Nat) : Int) > 0 by omega)]
    refine (within_f D (by omega) x ((d + 1 : Nat) : Int) P hx).bind fun a ha => ?_
    obtain ⟨m, hm, m1, m2⟩ := hD.step p hp (by omega)
    obtain ⟨a0, a1, a2, a3, a4, a5, a6⟩ := hM m hm
    refine path_l2 E hn8 hM8 hM hD (show d < n by omega) ha (by omega) (fun c y B c0 c1 hy hne hB => ?_) 256 0 (by omega) ⟨m.f2, by omega, by omega, m.f1.toNat, by omega, ⟨p, ⟨by omega, hPp, hz⟩, m, hm, m1, Int.le_refl _, a4, rfl⟩, by omega⟩
    obtain ⟨q, hq⟩ := hne
    refine ih y B _ (by omega) hy ⟨q, (hB q hq).1, hq, (hB q hq).2.2⟩ (fun q hq => ?_) (by rw [List.length_append, List.length_singleton]; omega) (fun b hb => ?_)
    · obtain ⟨_, ⟨r, hr, hg⟩, _⟩ := hB q hq
      obtain ⟨p0, h0, h1⟩ := hto r hr.2.1
      exact ⟨p0, h0, path_snoc h1 hg⟩
    · rcases List.mem_append.1 hb with hb | hb
      · exact hbytes b hb
      · have : b = c := by simpa using hb
        subst this
        exact ⟨c0, c1⟩
theorem path_l0 (hn8 : n ≤ 8) (hM8 : M.length ≤ 200) (hM : ∀ m ∈ M, MoveOk n m) (hD : Dist n M Q D) {x : Int} (hx : Set32 x P0) (e : Nat) :
    ∀ (i : Nat) (b : Int), i + e = n → (b = -1 ∧ (∀ s, s < i → P0 s → D.getD s 0 < 0) ∨ 0 ≤ b ∧ ∃ p, p < n ∧ P0 p ∧ D.getD p 0 = b) → Gets (fun k => gram_path.l0 k x D b D (n : Int) (i : Int) (n : Int) M E) (PathRes n M P0 Q) := by
  have hl := hD.len
  induction e with
  | zero =>
    intro i b hi h
    obtain rfl : i = n := by omega
    refine Gets.up ?_
    simp only [gram_path.l0, if_neg (show ¬ (i : Int) < (i : Int) by omega)]
    rcases h with ⟨rfl, h⟩ | ⟨hb, p, h1, h2, h3⟩
    · simp -implicitDefEqProofs only [if_pos (show (-1 : Int) < 0 by omega)]
      refine Gets.ret ⟨fun h => absurd h (by simp), fun _ => ⟨rfl, fun q => 0 ≤ D.getD q 0 ∧ q < i, fun q hq hqn => ⟨by rw [hD.old q hqn hq]; exact Int.le_refl _, hqn⟩, fun m hm hc => ⟨hD.up m hm hc.1, ?_⟩, fun p hp hpn hc => ?_⟩⟩
      · obtain ⟨a0, a1, _⟩ := hM m hm
        omega
      · have := h p hpn hp
        omega
    · have := (hD.rng p h1).2
      obtain ⟨d, rfl⟩ : ∃ d : Nat, b = (d : Int) := ⟨b.toNat, by omega⟩
      simp -implicitDefEqProofs only [if_neg (show ¬ (d : Int) < 0 by omega)]
      exact path_l1 E hn8 hM8 hM hD d x P0 [] (by omega) hx ⟨p, h1, h2, h3⟩ (fun q hq => ⟨q, hq, rfl⟩) (by simp; omega) (fun c hc => by simp at hc)
  | succ e ih =>
    intro i b hi h
    have q1 : (i : Int) < (n : Int) := by omega
    have q2 : (0 : Int) ≤ (i : Int) := by omega
    have q3 : (i : Int) < (D.length : Int) := by omega
    have hr := hD.rng i (by omega)
    have keep : (P0 i → D.getD i 0 < 0 ∨ 0 ≤ b) → Gets (fun k => gram_path.l0 k x D b D (n : Int) ((i + 1 : Nat) : Int) (n : Int) M E) (PathRes n M P0 Q) := by
      intro hk
      refine ih (i + 1) b (by omega) ?_
      rcases h with ⟨h1, h2⟩ | h
      · refine .inl ⟨h1, fun s hs hp => ?_⟩
        by_cases c : s = i
        · subst c
          rcases hk hp with h | h
          · exact h
          · omega
        · exact h2 s (by omega) hp
      · exact .inr h
    have hw := w1 i n (by omega) (by omega)
    refine Gets.up ?_
    by_cases c : P0 i
    · have b1 := (hx.hasN (show i < 32 by clear hw; omega)).2 c
      by_cases c2 : D.getD i 0 ≥ 0
      · have take : Gets (fun k => gram_path.l0 k x D (D.getD i 0) D (n : Int) ((i + 1 : Nat) : Int) (n : Int) M E) (PathRes n M P0 Q) := ih (i + 1) _ (by clear hw; omega) (.inr ⟨c2, i, by clear hw; omega, c, rfl⟩)
        by_cases c3 : b < 0
        · simp only [gram_path.l0, at_one, hw]
          simp -implicitDefEqProofs only [if_pos q1, if_pos q2, if_pos q3, if_pos b1, if_pos c2, if_pos c3]
          exact take
        · by_cases c4 : D.getD i 0 < b
          · simp only [gram_path.l0, at_one, hw]
            simp -implicitDefEqProofs only [if_pos q1, if_pos q2, if_pos q3, if_pos b1, if_pos c2, if_neg c3, if_pos c4]
            exact take
          · simp only [gram_path.l0, at_one, hw]
            simp -implicitDefEqProofs only [if_pos q1, if_pos q2, if_pos q3, if_pos b1, if_pos c2, if_neg c3, if_neg c4]
            exact keep (fun _ => .inr (by clear hw; omega))
      · simp only [gram_path.l0, at_one, hw]
        simp -implicitDefEqProofs only [if_pos q1, if_pos q2, if_pos q3, if_pos b1, if_neg c2]
        exact keep (fun _ => .inl (by clear hw; omega))
    · have b1 : ¬ Go.bits .and .u32 (shr .u32 x (i : Int)) 1 = 1 := fun e => c ((hx.hasN (show i < 32 by clear hw; omega)).1 e)
      simp only [gram_path.l0, at_one, hw]
      simp -implicitDefEqProofs only [if_pos q1, if_pos q2, if_pos q3, if_neg b1]
      exact keep (fun hp => absurd hp c)
theorem path_f (hn8 : n ≤ 8) (hM8 : M.length ≤ 200) (hM : ∀ m ∈ M, MoveOk n m) {x y : Int} {P0 Q : Nat → Prop} (hx : Set32 x P0) (hy : Set32 y Q) : Gets (fun k => gram_path.f k (n : Int) M E x y) (PathRes n M P0 Q) := by
  simp only [gram_path.f]
  refine (far_f E hn8 hM8 hM hy).bind fun D hD => ?_
  rw [hD.len]
  exact path_l0 E hn8 hM8 hM hD hx n 0 (-1) (by omega) (.inl ⟨rfl, fun s hs => absurd hs (Nat.not_lt_zero s)⟩)
/-! ## Concat -/
theorem concat_l1 (L : List (List Int)) (hL : L.length ≤ 8) (hl : ∀ x ∈ L, x.length ≤ 8) (e : Nat) : ∀ (i : Nat) (acc : List Int), i + e = L.length → acc.length ≤ 8 * i → Gets (fun k => slices_Concat_byte_byte.l1 k acc L (L.length : Int) (i : Int)) (· = acc ++ (L.drop i).flatten) := by
  induction e with
  | zero =>
    intro i acc hi ha
    refine Gets.up ?_
    simp only [slices_Concat_byte_byte.l1, if_neg (show ¬ (i : Int) < (L.length : Int) by omega)]
    refine Gets.ret ?_
    rw [List.drop_of_length_le (by omega), List.flatten_nil, List.append_nil]
  | succ e ih =>
    intro i acc hi ha
    have hi2 : i < L.length := by omega
    have hr : rd_L3 L (i : Int) = L[i] := by
      unfold rd_L3
      rw [Int.toNat_natCast, List.getD_eq_getElem?_getD, List.getElem?_eq_getElem hi2]
      rfl
    have hle := hl L[i] (List.getElem_mem _)
    have q1 : (i : Int) < (L.length : Int) := by omega
    have q2 : (0 : Int) ≤ (i : Int) := by omega
    have q3 : acc.length + L[i].length < 140737488355328 := by omega
    have key := ih (i + 1) (acc ++ L[i]) (by omega) (by rw [List.length_append]; omega)
    rw [List.append_assoc] at key
    refine Gets.up ?_
    simp only [slices_Concat_byte_byte.l1, hr, w1 i L.length hi2 (by omega)]
    simp -implicitDefEqProofs only [if_pos q1, if_pos q2, if_pos q3]
    rw [List.drop_eq_getElem_cons hi2, List.flatten_cons]
    exact key
theorem concat_l0 (L : List (List Int)) (hL : L.length ≤ 8) (hl : ∀ x ∈ L, x.length ≤ 8) (e : Nat) : ∀ (i m : Nat), i + e = L.length → m ≤ 8 * i → Gets (fun k => slices_Concat_byte_byte.l0 k L (m : Int) L (L.length : Int) (i : Int)) (· = L.flatten) := by
  induction e with
  | zero =>
    intro i m hi hm
    have hg : slices_Grow_byte_byte.f ([] : List Int) (m : Int) = some [] := by
      unfold slices_Grow_byte_byte.f
      rw [if_pos (by simp), if_pos (by omega), if_pos (by rw [Int.toNat_natCast]; omega)]
    have key := concat_l1 L hL hl L.length 0 [] (by omega) (by simp)
    refine Gets.up ?_
    simp only [slices_Concat_byte_byte.l0, hg]
    simp -implicitDefEqProofs only [if_neg (show ¬ (i : Int) < (L.length : Int) by omega), Option.bind_some]
    exact key
  | succ e ih =>
    intro i m hi hm
    have hi2 : i < L.length := by omega
    have hr : rd_L3 L (i : Int) = L[i] := by
      unfold rd_L3
      rw [Int.toNat_natCast, List.getD_eq_getElem?_getD, List.getElem?_eq_getElem hi2]
      rfl
    have hle := hl L[i] (List.getElem_mem _)
    have q1 : (i : Int) < (L.length : Int) := by omega
    have q2 : (0 : Int) ≤ (i : Int) := by omega
    have q3 : ¬ ((m + L[i].length : Nat) : Int) < 0 := by omega
    have key := ih (i + 1) (m + L[i].length) (by omega) (by omega)
    have hw : wrap64 ((m : Int) + (L[i].length : Int)) = ((m + L[i].length : Nat) : Int) := by rw [w64] <;> omega
    refine Gets.up ?_
    simp only [slices_Concat_byte_byte.l0, hr, w1 i L.length hi2 (by clear hw; omega), hw]
    simp -implicitDefEqProofs only [if_pos q1, if_pos q2, if_neg q3]
    exact key
theorem concat_f (L : List (List Int)) (hL : L.length ≤ 8) (hl : ∀ x ∈ L, x.length ≤ 8) : Gets (fun k => slices_Concat_byte_byte.f k L) (· = L.flatten) := by
  unfold slices_Concat_byte_byte.f
  exact concat_l0 L hL hl L.length 0 0 (by omega) (by omega)

/-! ## Show -/
/-- What Show answers: a text with the fragment; or nothing, and a set that leads to all good states, without 0. -/
def ShowRes (n : Nat) (M : List S109) (Z A : Nat → Prop) (t : List Int) (r : List Int × Bool × Int) : Prop :=
  r.2.2 = 0 ∧
  (r.2.1 = true → ∃ b h, r.1 = b ++ t ++ h ∧ b.length ≤ 8 ∧ h.length ≤ 8 ∧ (∀ c ∈ b, 0 ≤ c ∧ c < 256) ∧ (∀ c ∈ h, 0 ≤ c ∧ c < 256) ∧ ∃ s z, Path M b 0 s ∧ (∃ a, Path M t s a ∧ A a) ∧ Path M (b ++ t ++ h) 0 z ∧ Z z) ∧
  (r.2.1 = false → r.1 = [] ∧ ∃ C : Nat → Prop, (∀ s, s < n → (∃ a, Path M t s a ∧ A a) → C s) ∧ (∀ m ∈ M, C m.f1.toNat → C m.f0.toNat) ∧ ¬ C 0)
variable {Z A : Nat → Prop}
theorem show_l0 (hn1 : 1 ≤ n) (hn8 : n ≤ 8) (hM8 : M.length ≤ 200) (hM : ∀ m ∈ M, MoveOk n m) {t : List Int} (ht : t.length ≤ 8) {a0 e0 : Int} (hA : Set32 a0 A) (hZ : Set32 e0 Z) (hZn : ∀ q, Z q → q < n)
    (ke : ∃ K, ∀ k, K ≤ k → gram_ends.f k (n : Int) M E = some e0) (hleast : ∀ C : Nat → Prop, (∀ q, Z q → C q) → (∀ m ∈ M, C m.f1.toNat → C m.f0.toNat) → ∀ q, A q → C q) (e : Nat) :
    ∀ (i : Nat) (g : Int), i + e = n → Set32 g (fun q => q < i ∧ ∃ a, Path M t q a ∧ A a) → Gets (fun k => gram_Show.l0 k t a0 g (n : Int) (i : Int) (n : Int) M E) (ShowRes n M Z A t) := by
  induction e with
  | zero =>
    intro i g hi hg
    obtain rfl : i = n := by omega
    refine Gets.up ?_
    simp only [gram_Show.l0, if_neg (show ¬ (i : Int) < (i : Int) by omega)]
    refine (path_f E hn8 hM8 hM set_one hg).bind fun r hr => ?_
    obtain ⟨b, ok⟩ := r
    obtain ⟨h1, h2⟩ := hr
    simp only at h1 h2
    cases ok with
    | false =>
      simp only [if_neg (show ¬ (false = true) by decide)]
      obtain ⟨_, C, c1, c2, c3⟩ := h2 rfl
      exact Gets.ret ⟨rfl, fun h => absurd h (by simp), fun _ => ⟨rfl, C, fun s hs ha => c1 s ⟨hs, ha⟩ hs, c2, c3 0 rfl (by omega)⟩⟩
    | true =>
      simp only [if_true]
      obtain ⟨hbl, hbb, p, s, rfl, ⟨hs, a, hta, haA⟩, hbp⟩ := h1 rfl
      refine (run_f i M E (by omega) hM8 hM b (by omega) 1 _ set_one).bind fun x hx => ?_
      refine (run_f i M E (by omega) hM8 hM t (by omega) _ _ (hx.inter hg)).bind fun y hy => ?_
      refine Gets.bind (P := fun r => r = e0) ⟨e0, rfl, ke⟩ ?_
      rintro _ rfl
      refine (path_f E hn8 hM8 hM hy hZ).bind fun r hr => ?_
      obtain ⟨h, ok⟩ := r
      obtain ⟨g1, g2⟩ := hr
      simp only at g1 g2
      cases ok with
      | false =>
        exfalso
        obtain ⟨_, C, c1, c2, c3⟩ := g2 rfl
        have hAC : ∀ q, A q → C q := hleast C (fun q hq => c1 q hq (hZn q hq)) c2
        have hAn : ∀ q, A q → q < i := hleast (fun q => q < i) hZn (fun m hm _ => by obtain ⟨m0, m1, _⟩ := hM m hm; omega)
        exact c3 a ⟨s, ⟨⟨0, rfl, hbp⟩, hs, a, hta, haA⟩, hta⟩ (hAn a haA) (hAC a haA)
      | true =>
        simp only [if_true]
        obtain ⟨hhl, hhb, r, z, ⟨s', ⟨⟨p', rfl, hbp'⟩, hs', ha'⟩, htr⟩, hz, hhp⟩ := g1 rfl
        refine (concat_f [b, t, h] (by simp) (fun x hx => by
          simp only [List.mem_cons, List.not_mem_nil, or_false] at hx
          rcases hx with rfl | rfl | rfl <;> assumption)).bind fun w hw => ?_
        subst hw
        refine Gets.ret ⟨rfl, fun _ => ⟨b, h, by simp, hbl, hhl, hbb, hhb, s', z, hbp', ha', ?_, hz⟩, fun h => absurd h (by simp)⟩
        exact (path_split M _ _ 0 z).2 ⟨r, (path_split M _ _ 0 r).2 ⟨s', hbp', htr⟩, hhp⟩
  | succ e ih =>
    intro i g hi hg
    have q1 : (i : Int) < (n : Int) := by omega
    have q2 : (0 : Int) ≤ (i : Int) := by omega
    have hw := w1 i n (by omega) (by omega)
    refine Gets.up ?_
    simp only [gram_Show.l0, hw]
    simp -implicitDefEqProofs only [if_pos q1, if_pos q2]
    refine (run_f n M E (by clear hw; omega) hM8 hM t (by clear hw; omega) _ _ (Set32.single (show i < 32 by clear hw; omega))).bind fun x hx => ?_
    have hin := hx.inter hA
    by_cases c : Go.bits .and .u32 x a0 = 0
    · simp -implicitDefEqProofs only [if_pos c]
      refine ih (i + 1) g (by clear hw; omega) (hg.imp fun q => ⟨fun h => ⟨by have := h.1; clear hw; omega, h.2⟩, fun h => ⟨?_, h.2⟩⟩)
      by_cases c1 : q = i
      · subst c1
        obtain ⟨_, a, h1, h2⟩ := h
        exact absurd ⟨⟨q, rfl, h1⟩, h2⟩ (hin.none.1 c a)
      · have := h.1; clear hw; omega
    · simp -implicitDefEqProofs only [if_neg c]
      refine ih (i + 1) _ (by clear hw; omega) ((hg.putN (show i < 32 by clear hw; omega)).imp fun q => ⟨?_, fun h => ?_⟩)
      · rintro (h | rfl)
        · exact ⟨by have := h.1; clear hw; omega, h.2⟩
        · refine ⟨by clear hw; omega, ?_⟩
          by_cases c1 : ∃ a, Path M t i a ∧ A a
          · exact c1
          · exfalso
            refine c (hin.none.2 fun a ha => c1 ⟨a, ?_, ha.2⟩)
            obtain ⟨⟨p, rfl, hp⟩, _⟩ := ha
            exact hp
      · by_cases c1 : i = q
        · exact .inr c1
        · exact .inl ⟨by have := h.1; clear hw; omega, h.2⟩
end far
theorem index_infix (x y sub : List UInt8) : 0 ≤ Go.Lib.index (x ++ (sub ++ y)) sub := by
  induction x with
  | nil =>
    rw [List.nil_append]
    cases hs : sub ++ y with
    | nil =>
      have : sub = [] := (List.append_eq_nil_iff.1 hs).1
      subst this
      simp [Go.Lib.index]
    | cons b l =>
      have hp : sub.isPrefixOf (b :: l) = true := by
        rw [← hs]
        exact List.isPrefixOf_iff_prefix.2 (List.prefix_append _ _)
      rw [Go.Lib.index, if_pos hp]
      exact Int.le_refl _
  | cons b l ih =>
    rw [List.cons_append, Go.Lib.index]
    split
    · exact Int.le_refl _
    · split
      · rename_i h
        have : Go.Lib.index (l ++ (sub ++ y)) sub = -1 := by simpa using h
        omega
      · omega
theorem contains_infix (b t h : List Int) : Go.Lib.contains (Go.Lib.bytesOf (b ++ t ++ h)) (Go.Lib.bytesOf t) = true := by
  unfold Go.Lib.contains Go.Lib.bytesOf
  rw [List.map_append, List.map_append, List.append_assoc]
  exact decide_eq_true (index_infix _ _ _)
theorem stands_ok : wrackkeep3_stands.f 100 = some true := by decide +kernel
end GramP
open GramP
theorem GramShown : wrackkeep3_GramShown.Pure := by
  intro l0 l1 _ _ _ _ _ _
  suffices hs : Gets (fun k => wrackkeep3_GramShown.f k l0 l1) (fun r => r = true) by
    obtain ⟨k, r, h, rfl⟩ := hs.get
    exact ⟨k, h⟩
  simp only [wrackkeep3_GramShown.f]
  refine Gets.bind (machine_f l0) ?_
  rintro ⟨n0, M, E⟩ hm
  have hm' := hm
  obtain ⟨h1, h2, h3, h4, h5, h6⟩ := hm'
  simp only at h1 h2 h3 h4 h5 h6
  obtain ⟨n, rfl⟩ : ∃ n : Nat, n0 = (n : Int) := ⟨n0.toNat, by omega⟩
  simp only
  refine Gets.bind (letters_f l1) fun t ht => ?_
  obtain ⟨ht, htb⟩ := ht
  obtain ⟨e0, ⟨Z, hZ, hZn⟩, ke⟩ := ends_f (n : Int) M E h2 h5 h6
  obtain ⟨a0, ⟨A, hA, hZA, hAc, hAl⟩, ka⟩ := lead_f (n : Int) M E h2 h3 h4 e0 Z hZ
  obtain ⟨r0, ⟨R, hR, h1R, hRc, hRl⟩, kr⟩ := reach_f (n : Int) M E h2 h3 h4 1 _ set_one
  refine Gets.bind (stands_f (n : Int) M E hm e0 a0 r0 Z A R hZ hA hR ke ka kr t (by omega)) ?_
  rintro ⟨x1, x2, x3, x4⟩ ⟨p1, p2, p3, p4⟩
  simp only at p1 p2 p3 p4
  have hshow : Gets (fun k => gram_Show.f k (n : Int) M E t) (ShowRes n M Z A t) := by
    simp only [gram_Show.f]
    refine Gets.bind (check_f (n : Int) M E hm) ?_
    rintro _ rfl
    simp only [if_true]
    refine Gets.bind (P := fun r => r = e0) ⟨e0, rfl, ke⟩ ?_
    rintro _ rfl
    refine Gets.bind (P := fun r => r = a0) ⟨a0, rfl, ka⟩ ?_
    rintro _ rfl
    exact show_l0 E (by omega) (by omega) h3 h4 ht hA hZ (fun q hq => by have := hZn q hq; omega) ke hAl n 0 0 (by omega) (set_zero.imp fun q => ⟨fun h => h.elim, fun h => absurd h.1 (Nat.not_lt_zero q)⟩)
  refine hshow.bind ?_
  rintro ⟨s, ok, er⟩ ⟨s1, s2, s3⟩
  simp only at s1 s2 s3
  refine Gets.bind (Gets.of_mono wrackkeep3_stands.mono stands_ok rfl) ?_
  rintro _ rfl
  subst p4 s1
  simp only [if_true]
  have hRn : ∀ q, R q → q < n := hRl (fun q => q < n) (fun q hq => by omega) (fun m hm _ => by obtain ⟨_, _, m2, m3, _⟩ := h4 m hm; omega)
  have hok : ok = x2 := by
    cases ok with
    | true =>
      obtain ⟨b, h, _, _, _, _, _, q, z, hb, ⟨a, ha, haA⟩, _⟩ := s2 rfl
      exact (p2.2 ⟨a, ⟨q, path_reach M R hRc b 0 q hb (h1R 0 rfl), ha⟩, haA⟩).symm
    | false =>
      obtain ⟨_, C, c1, c2, c3⟩ := s3 rfl
      cases c : x2 with
      | false => rfl
      | true =>
        exfalso
        obtain ⟨a, ⟨p, hp, hta⟩, haA⟩ := p2.1 c
        have hC : ∀ q, R q → C q → C 0 := hRl (fun q => C q → C 0) (fun q hq hc => by rw [← hq]; exact hc) (fun m hm ih hc => ih (c2 m hm hc))
        exact c3 (hC p hp (c1 p (hRn p hp) ⟨a, hta, haA⟩))
  subst hok
  rw [show (ok != ok) = false by cases ok <;> rfl]
  refine Gets.up ?_
  simp only [wrackkeep3_GramShown.j0, if_neg (show ¬ (false = true) by decide)]
  cases ok with
  | false =>
    simp only [if_neg (show ¬ (false = true) by decide)]
    obtain ⟨e, _⟩ := s3 rfl
    subst e
    exact Gets.ret (by decide)
  | true =>
    simp only [if_true]
    obtain ⟨b, h, e, hbl, hhl, hbb, hhb, q, z, _, _, hpz, hz⟩ := s2 rfl
    subst e
    have hlen : (b ++ t ++ h).length ≤ 24 := by rw [List.length_append, List.length_append]; omega
    refine Gets.bind (accepts_f (n : Int) M E hm e0 Z hZ ke (b ++ t ++ h) (by omega)) ?_
    rintro ⟨y1, y2⟩ ⟨u1, u2⟩
    simp only at u1 u2
    subst u2
    have hy : y1 = true := u1.2 ⟨z, ⟨0, rfl, hpz⟩, hz⟩
    subst hy
    simp only [if_true]
    have hcon : bytes_Contains.f (b ++ t ++ h) t = some true := by
      unfold bytes_Contains.f
      by_cases c : t.length = 0
      · rw [if_pos c]
      · have al : ∀ l : List Int, (∀ x ∈ l, 0 ≤ x ∧ x < 256) → (l.all fun x => decide (0 ≤ x) && decide (x < 256)) = true := by
          intro l hl
          rw [List.all_eq_true]
          intro x hx
          have := hl x hx
          simp [this.1, this.2]
        rw [if_neg c, if_neg (by rw [List.length_append, List.length_append]; omega), if_pos (by omega), if_pos (al _ ?_), if_pos (al _ htb), contains_infix]
        intro x hx
        rcases List.mem_append.1 hx with hx | hx
        · rcases List.mem_append.1 hx with hx | hx
          · exact hbb x hx
          · exact htb x hx
        · exact hhb x hx
    simp only [hcon, Option.bind_some]
    exact Gets.ret rfl
end Go.Proofs.Ytnlmdmpfgdiipaa.Pure
