/- Drives and passes, plain: how a drive is made of numbers, its faults, its check; how many attempts are made at most; the law's own loop. -/
import Derived.Test.YtcnabemeadnecaaPurePassJob
namespace Go.Proofs.Ytcnabemeadnecaa.Pure
set_option linter.unusedVariables false
set_option linter.unusedSimpArgs false
open Go.RowKit Go.Proofs.Ytcnabemeadnecaa.PPassPlans Go.Proofs.YtcnabemeadnecaaW.PrintWords Go.Proofs.YtcnabemeadnecaaW.PrintLast Go.Proofs.YtcnabemeadnecaaW.PrintMore Go.Proofs.YtcnabemeadnecaaW.PrintMine Go.Proofs.YtcnabemeadnecaaW.Plib
namespace PassP
theorem w1 (q n : Nat) (h : q < n) (hn : n ≤ 100000) : wrap64 ((q : Int) + 1) = ((q + 1 : Nat) : Int) := by rw [w64] <;> omega

theorem below_f {a n : Int} (hn : 0 < n) (hn2 : n ≤ 9223372036854775807) : wrackmake_Below.f a n = some (a % n) := by
  unfold wrackmake_Below.f
  rw [if_neg (by omega), ← below_val hn hn2]
  split <;> rfl

theorem next_f (l : List Int) {n : Int} (hn : 0 < n) (hn2 : n ≤ 9223372036854775807) : ∃ v l', wrackmake_Stream_Next.f l n = some (v, l') ∧ 0 ≤ v ∧ v < n := by
  unfold wrackmake_Stream_Next.f
  by_cases h : (l.length : Int) = 0
  · exact ⟨0, l, by rw [if_pos h], by omega, hn⟩
  · refine ⟨rd l 0 % n, l.drop 1, ?_, Int.emod_nonneg _ (by omega), Int.emod_lt_of_pos _ hn⟩
    rw [if_neg h, if_neg (by omega), below_f hn hn2, Option.bind_some]

/-- A fault as a drive may have it. -/
def Ent (x : S59) : Prop := 0 ≤ x.f0 ∧ ((x.f1 = 1 ∧ x.f2 = 0) ∨ (x.f1 = 2 ∧ 2 ≤ x.f2 ∧ x.f2 ≤ 16) ∨ (x.f1 = 3 ∧ 2 ≤ x.f2 ∧ x.f2 ≤ 100))
/-- Right faults of the blocks before n, in order. -/
def FOk (F : List S59) (n : Int) : Prop := (F.length : Int) ≤ n ∧ (∀ x ∈ F, Ent x ∧ x.f0 < n) ∧ F.Pairwise (fun a b => a.f0 < b.f0)
theorem FOk.nil (n : Int) (h : 0 ≤ n) : FOk [] n := ⟨by simpa using h, fun x hx => by simp at hx, List.Pairwise.nil⟩
theorem FOk.up {F : List S59} {i : Int} (h : FOk F i) : FOk F (i + 1) := ⟨by have := h.1; omega, fun x hx => ⟨(h.2.1 x hx).1, by have := (h.2.1 x hx).2; omega⟩, h.2.2⟩
theorem FOk.push {F : List S59} {i : Int} (h : FOk F i) {x : S59} (hx : Ent x) (e : x.f0 = i) : FOk (F ++ [x]) (i + 1) := by
  refine ⟨by have := h.1; simp; omega, fun y hy => ?_, ?_⟩
  · rcases List.mem_append.1 hy with hy | hy
    · exact ⟨(h.2.1 y hy).1, by have := (h.2.1 y hy).2; omega⟩
    · obtain rfl := List.mem_singleton.1 hy
      exact ⟨hx, by omega⟩
  · rw [List.pairwise_append]
    refine ⟨h.2.2, List.pairwise_singleton _ _, fun a ha b hb => ?_⟩
    obtain rfl := List.mem_singleton.1 hb
    rw [e]
    exact (h.2.1 a ha).2

theorem drive_l1 (F : List S59) (N : Nat) (hN : N ≤ 1000) (d : Nat) : ∀ (i : Nat) (D s : List Int), i + d = N → D.length = N → Gets (fun k => wrackmake_Drive.l1 k (N : Int) (i : Int) s D F) (fun r => r.1.length = N ∧ r.2 = F) := by
  induction d with
  | zero =>
    intro i D s hi hD
    refine Gets.up ?_
    simp only [wrackmake_Drive.l1, if_neg (show ¬ (i : Int) < (N : Int) by omega)]
    exact Gets.ret ⟨hD, rfl⟩
  | succ d ih =>
    intro i D s hi hD
    have q1 : (i : Int) < (N : Int) := by omega
    have q2 : (0 : Int) ≤ (i : Int) := by omega
    have q3 : (i : Int) < (D.length : Int) := by omega
    have hw := w1 i N (by omega) (by omega)
    refine Gets.up ?_
    simp only [wrackmake_Drive.l1, hw]
    by_cases c : (s.length : Int) > 0
    · obtain ⟨v, s', hv, a, b⟩ := next_f s (n := 256) (by omega) (by omega)
      simp -implicitDefEqProofs only [if_pos q1, if_pos q2, if_pos q3, if_pos c, hv, Option.bind_some]
      exact ih (i + 1) _ s' (by clear hw; omega) (by rw [List.length_set]; exact hD)
    · simp -implicitDefEqProofs only [if_pos q1, if_pos q2, if_pos q3, if_neg c]
      exact ih (i + 1) _ s (by clear hw; omega) (by rw [List.length_set]; exact hD)

theorem drive_l0 (n : Nat) (hn1 : 1 ≤ n) (hn : n ≤ 12) (d : Nat) : ∀ (i : Nat) (s : List Int) (F : List S59), i + d = n → FOk F (i : Int) → Gets (fun k => wrackmake_Drive.l0 k (n : Int) (n : Int) (i : Int) s F) (fun r => r.1.length = n * 64 ∧ FOk r.2 (n : Int)) := by
  induction d with
  | zero =>
    intro i s F hi hF
    obtain rfl : i = n := by omega
    have e2 : wrap64 ((i : Int) * 64) = ((i * 64 : Nat) : Int) := by rw [w64] <;> omega
    have q1 : (0 : Int) ≤ ((i * 64 : Nat) : Int) := by omega
    have q2 : i * 64 ≤ 281474976710656 := by omega
    refine Gets.up ?_
    simp only [wrackmake_Drive.l0, if_neg (show ¬ (i : Int) < (i : Int) by omega), e2, Int.toNat_natCast]
    simp -implicitDefEqProofs only [if_pos q1, if_pos q2, Option.bind_some, List.length_replicate]
    exact (drive_l1 F (i * 64) (by omega) (i * 64) 0 _ s (by omega) (by rw [List.length_replicate])).imp fun r hr => ⟨hr.1, by rw [hr.2]; exact hF⟩
  | succ d ih =>
    intro i s F hi hF
    have q1 : (i : Int) < (n : Int) := by omega
    have q4 : F.length < 5864062014805 := by have := hF.1; omega
    have hw := w1 i n (by omega) (by omega)
    obtain ⟨v, s1, hv, a, b⟩ := next_f s (n := 4) (by omega) (by omega)
    refine Gets.up ?_
    simp only [wrackmake_Drive.l0, hw, hv, Option.bind_some]
    simp -implicitDefEqProofs only [if_pos q1]
    have hi1 : i + 1 + d = n := by clear hw; omega
    have ec : ((i + 1 : Nat) : Int) = (i : Int) + 1 := by clear hw; omega
    by_cases c : v > 0
    · simp -implicitDefEqProofs only [if_pos c]
      exact ih (i + 1) s1 F hi1 (by rw [ec]; exact hF.up)
    · obtain ⟨u, s2, hu, a2, b2⟩ := next_f s1 (n := 3) (by omega) (by omega)
      have eu : wrap64 (1 + u) = 1 + u := by rw [w64] <;> omega
      simp -implicitDefEqProofs only [if_neg c, hu, Option.bind_some, eu]
      by_cases c2 : 1 + u = 2
      · obtain ⟨t, s3, ht, a3, b3⟩ := next_f s2 (n := 5) (by omega) (by omega)
        have et : wrap64 (2 + t) = 2 + t := by rw [w64] <;> omega
        simp -implicitDefEqProofs only [if_pos c2, ht, Option.bind_some, et, if_pos q4]
        exact ih (i + 1) s3 _ hi1 (by rw [ec]; exact hF.push ⟨by show (0 : Int) ≤ i; omega, Or.inr (Or.inl ⟨c2, by show 2 ≤ 2 + t; omega, by show 2 + t ≤ 16; omega⟩)⟩ rfl)
      · by_cases c3 : 1 + u = 3
        · obtain ⟨t, s3, ht, a3, b3⟩ := next_f s2 (n := 9) (by omega) (by omega)
          have et : wrap64 (2 + t) = 2 + t := by rw [w64] <;> omega
          simp -implicitDefEqProofs only [if_neg c2, if_pos c3, ht, Option.bind_some, et, if_pos q4]
          exact ih (i + 1) s3 _ hi1 (by rw [ec]; exact hF.push ⟨by show (0 : Int) ≤ i; omega, Or.inr (Or.inr ⟨c3, by show 2 ≤ 2 + t; omega, by show 2 + t ≤ 100; omega⟩)⟩ rfl)
        · simp -implicitDefEqProofs only [if_neg c2, if_neg c3, if_pos q4]
          exact ih (i + 1) s2 _ hi1 (by rw [ec]; exact hF.push ⟨by show (0 : Int) ≤ i; omega, Or.inl ⟨by show 1 + u = 1; omega, rfl⟩⟩ rfl)

theorem drive_f (l : List Int) : Gets (fun k => wrackmake_Drive.f k l) (fun r => ∃ n : Nat, 1 ≤ n ∧ n ≤ 12 ∧ r.1.length = n * 64 ∧ FOk r.2 (n : Int)) := by
  obtain ⟨v, s, hv, a, b⟩ := next_f l (n := 12) (by omega) (by omega)
  obtain ⟨m, rfl⟩ : ∃ m : Nat, v = (m : Int) := ⟨v.toNat, by omega⟩
  have e1 : wrap64 (1 + (m : Int)) = ((1 + m : Nat) : Int) := by rw [w64] <;> omega
  simp -implicitDefEqProofs only [wrackmake_Drive.f, hv, Option.bind_some, e1]
  exact (drive_l0 (1 + m) (by omega) (by omega) (1 + m) 0 s [] (by omega) (FOk.nil _ (by omega))).imp fun r hr => ⟨1 + m, by omega, by omega, hr.1, hr.2⟩

theorem check_l0 (D : List Int) (n : Nat) (hn : n ≤ 12) (hD : D.length = n * 64) (F : List S59) (hF : F.length ≤ 100) : ∀ (G : List S59) (i : Nat) (p : Int), F.drop i = G → (∀ x ∈ G, Ent x ∧ x.f0 < n) → (∀ x ∈ G, p < x.f0) → G.Pairwise (fun a b => a.f0 < b.f0) →
    Gets (fun k => drive_Check.l0 k p F (F.length : Int) (i : Int) D F) (· = 0) := by
  intro G
  induction G with
  | nil =>
    intro i p hG _ _ _
    have hi : F.length ≤ i := by have := congrArg List.length hG; simp at this; omega
    refine Gets.up ?_
    simp only [drive_Check.l0, if_neg (show ¬ (i : Int) < (F.length : Int) by omega)]
    exact Gets.ret rfl
  | cons x G ih =>
    intro i p hG h1 h2 h3
    have hi : i < F.length := by have := congrArg List.length hG; simp at this; omega
    have hG2 := hG
    rw [List.drop_eq_getElem_cons hi] at hG2
    injection hG2 with e1 e2
    have hx : rd_T59 F (i : Int) = x := by
      simp only [rd_T59, Int.toNat_natCast]
      rw [List.getD_eq_getElem?_getD, List.getElem?_eq_getElem hi, e1]
      rfl
    have hw := w1 i F.length hi (by omega)
    obtain ⟨⟨x0, x1⟩, x2⟩ := h1 x List.mem_cons_self
    have x3 := h2 x List.mem_cons_self
    have key := ih (i + 1) x.f0 e2 (fun y hy => h1 y (List.mem_cons_of_mem _ hy)) (fun y hy => (List.pairwise_cons.1 h3).1 y hy) (List.pairwise_cons.1 h3).2
    have q1 : (i : Int) < (F.length : Int) := by clear hw; omega
    have q2 : (0 : Int) ≤ (i : Int) := by clear hw; omega
    have ed : wrap64 ((D.length : Int) / 64) = (n : Int) := by rw [hD, w64] <;> omega
    have q3 : decide (x.f0 ≥ (n : Int)) = false := decide_eq_false (by omega)
    refine Gets.up ?_
    simp -implicitDefEqProofs only [drive_Check.l0, hx, if_pos q1, if_pos q2, if_neg (show ¬ x.f0 < 0 by omega), ed, q3]
    refine Gets.up ?_
    simp -implicitDefEqProofs only [drive_Check.j1, Bool.false_eq_true, if_false, if_neg (show ¬ x.f0 ≤ p by omega), if_neg (show ¬ x.f1 < 1 by omega), decide_eq_false (show ¬ x.f1 > 3 by omega)]
    refine Gets.up ?_
    rcases x1 with ⟨y1, y2⟩ | ⟨y1, y2, y3⟩ | ⟨y1, y2, y3⟩
    · simp -implicitDefEqProofs only [drive_Check.j2, Bool.false_eq_true, if_false, if_pos y1, y2, bne_self_eq_false]
      refine Gets.up ?_
      simp -implicitDefEqProofs only [drive_Check.j3, Bool.false_eq_true, if_false, if_neg (show ¬ x.f1 = 2 by omega)]
      refine Gets.up ?_
      simp -implicitDefEqProofs only [drive_Check.j4, Bool.false_eq_true, if_false, if_neg (show ¬ x.f1 = 3 by omega), hw]
      exact key
    · simp -implicitDefEqProofs only [drive_Check.j2, Bool.false_eq_true, if_false, if_neg (show ¬ x.f1 = 1 by omega)]
      refine Gets.up ?_
      simp -implicitDefEqProofs only [drive_Check.j3, Bool.false_eq_true, if_false, if_pos y1, if_neg (show ¬ x.f2 < 2 by omega), decide_eq_false (show ¬ x.f2 > 16 by omega)]
      refine Gets.up ?_
      simp -implicitDefEqProofs only [drive_Check.j4, Bool.false_eq_true, if_false, if_neg (show ¬ x.f1 = 3 by omega), hw]
      exact key
    · simp -implicitDefEqProofs only [drive_Check.j2, Bool.false_eq_true, if_false, if_neg (show ¬ x.f1 = 1 by omega)]
      refine Gets.up ?_
      simp -implicitDefEqProofs only [drive_Check.j3, Bool.false_eq_true, if_false, if_neg (show ¬ x.f1 = 2 by omega)]
      refine Gets.up ?_
      simp -implicitDefEqProofs only [drive_Check.j4, Bool.false_eq_true, if_false, if_pos y1, if_neg (show ¬ x.f2 < 2 by omega), if_neg (show ¬ x.f2 > 100 by omega), hw]
      exact key

theorem check_f (D : List Int) (n : Nat) (hn : n ≤ 12) (hD : D.length = n * 64) (F : List S59) (hF : FOk F (n : Int)) : Gets (fun k => drive_Check.f k D F) (· = 0) := by
  simp -implicitDefEqProofs only [drive_Check.f, if_neg (show ¬ (D.length : Int) > 65536 by omega), if_pos (show (D.length : Int) % 64 = 0 by omega)]
  exact check_l0 D n hn hD F (by have := hF.1; omega) F 0 (-1) rfl hF.2.1 (fun x hx => by have := (hF.2.1 x hx).1.1; omega) hF.2.2

/-- The fault of a block: the same in all rounds. -/
theorem fault_f (D : List Int) (n : Nat) (hn : n ≤ 12) (F : List S59) (hF : FOk F (n : Int)) (blk : Int) : ∃ f, (∀ k, drive_fault.f k D F blk = some f) ∧ 0 ≤ ansT f ∧ ansT f ≤ 100 := by
  have hl : F.length ≤ 65536 := by have := hF.1; omega
  simp only [drive_fault.f, api_Fault_int.f, true_and, if_pos hl, Option.bind_some]
  generalize bs F blk F.length 0 F.length = I
  by_cases c : (decide (I < F.length) && (wrap64 ((rd_T59 F (I : Int)).f0 - blk) == 0)) = true
  · have hI : I < F.length := by
      rw [Bool.and_eq_true] at c
      exact of_decide_eq_true c.1
    rw [if_pos c, if_pos (show (0 : Int) ≤ (I : Int) by omega), if_pos (show (I : Int) < (F.length : Int) by omega)]
    refine ⟨_, fun _ => rfl, ?_⟩
    have hx : rd_T59 F (I : Int) = F[I] := by
      simp only [rd_T59, Int.toNat_natCast]
      rw [List.getD_eq_getElem?_getD, List.getElem?_eq_getElem hI]
      rfl
    rw [hx]
    obtain ⟨⟨x0, x1⟩, x2⟩ := hF.2.1 F[I] (List.getElem_mem hI)
    unfold ansT
    show 0 ≤ (if F[I].f1 = 3 then F[I].f2 else 1) ∧ (if F[I].f1 = 3 then F[I].f2 else 1) ≤ 100
    split <;> omega
  · rw [if_neg c]
    exact ⟨_, fun _ => rfl, by unfold ansT; decide⟩

theorem new_f (D : List Int) (n : Nat) (hn : n ≤ 12) (hD : D.length = n * 64) (F : List S59) (hF : FOk F (n : Int)) : Gets (fun k => drive_New.f k D F) (fun _ => True) := by
  simp only [drive_New.f]
  refine (check_f D n hn hD F hF).bind fun c e => ?_
  rw [if_pos ⟨e, by omega, by have := hF.1; omega⟩]
  exact Gets.ret trivial

theorem guardU {C : Nat → Prop} [∀ k, Decidable (C k)] (K : Nat) (h : ∀ k, K ≤ k → C k) : Gets (fun k => if C k then some () else none) (fun _ => True) := ⟨(), trivial, K, fun k hk => if_pos (h k hk)⟩
theorem guardT {C : Nat → Prop} [∀ k, Decidable (C k)] (K : Nat) (h : ∀ k, K ≤ k → C k) : Gets (fun k => if C k then some true else none) (· = true) := ⟨true, rfl, K, fun k hk => if_pos (h k hk)⟩
theorem equal_l0 (l : List Int) (hl : l.length ≤ 4000) (m : Nat) : ∀ d i : Nat, i + d = l.length → slices_Equal_byte_byte.l0 (d + 1 + m) l l (l.length : Int) (i : Int) = some true
  | 0, i, hi => by
    rw [show 0 + 1 + m = m + 1 by omega]
    simp only [slices_Equal_byte_byte.l0, if_neg (show ¬ (i : Int) < (l.length : Int) by omega)]
  | d + 1, i, hi => by
    have q1 : (i : Int) < (l.length : Int) := by omega
    have q2 : (0 : Int) ≤ (i : Int) := by omega
    have hw := w1 i l.length (by omega) (by omega)
    have key := equal_l0 l hl m d (i + 1) (by clear hw; omega)
    rw [show d + 1 + 1 + m = (d + 1 + m) + 1 by clear hw; omega]
    simp only [slices_Equal_byte_byte.l0, hw, if_true]
    simp -implicitDefEqProofs only [if_pos q1, if_pos q2]
    exact key
theorem equal_all (l : List Int) (hl : l.length ≤ 4000) (k : Nat) (hk : l.length + 1 ≤ k) : slices_Equal_byte_byte.f k l l = some true := by
  simp only [slices_Equal_byte_byte.f, if_true]
  have := equal_l0 l hl (k - (l.length + 1)) l.length 0 (by omega)
  rw [show l.length + 1 + (k - (l.length + 1)) = k by omega] at this
  exact this
theorem small_ok : FOk [(⟨0, 1, 0⟩ : S59)] ((3 : Nat) : Int) := by
  refine ⟨by decide, fun x hx => ?_, List.pairwise_singleton _ _⟩
  obtain rfl := List.mem_singleton.1 hx
  exact ⟨⟨by decide, Or.inl ⟨rfl, rfl⟩⟩, by decide⟩
theorem small_fault : ∀ k a : Nat, a < 3 → drive_fault.f k (List.replicate 192 0) [(⟨0, 1, 0⟩ : S59)] ((a : Nat) : Int) = some (pft a) := by
  intro k a ha
  have h : a = 0 ∨ a = 1 ∨ a = 2 := by omega
  have e : ∀ b : Nat, drive_fault.f k (List.replicate 192 0) [(⟨0, 1, 0⟩ : S59)] (b : Int) = drive_fault.f 0 (List.replicate 192 0) [(⟨0, 1, 0⟩ : S59)] (b : Int) := fun b => rfl
  rw [e]
  rcases h with rfl | rfl | rfl <;> decide +kernel
theorem fwd_ok {D : List Int} {ft : Nat → Int × Int × Int} {n : Nat} (hf : ∀ a < n, 0 ≤ ansT (ft a) ∧ ansT (ft a) ≤ 100) (K : Nat) : ∀ (fu i c : Nat) (j : JS), JOk n c j → JOk n (c + fu) (fwdJ D ft K n fu i j)
  | 0, i, c, j, h => h
  | fu + 1, i, c, j, h => by
    unfold fwdJ
    rw [show c + (fu + 1) = (c + 1) + fu by omega]
    by_cases g : i < n
    · rw [if_pos g]
      have h2 := tryJ_ok (D := D) (ft := ft) h g (hf i g)
      split
      · exact fwd_ok hf K fu _ _ _ h2
      · refine fwd_ok hf K fu _ _ _ ?_
        generalize min K (n - 1 - i) = s
        induction s with
        | zero => exact h2
        | succ s ih => exact ih.mark _ _
    · rw [if_neg g]
      exact h.more (by omega)
theorem bwd_ok {D : List Int} {ft : Nat → Int × Int × Int} {n : Nat} (hf : ∀ a < n, 0 ≤ ansT (ft a) ∧ ansT (ft a) ≤ 100) : ∀ (d c : Nat) (s : Bool) (j : JS), d ≤ n → JOk n c j → JOk n (c + d) (bwdJ D ft d s j)
  | 0, c, s, j, _, h => h
  | d + 1, c, s, j, hd, h => by
    unfold bwdJ
    rw [show c + (d + 1) = (c + 1) + d by omega]
    split
    · split
      · exact bwd_ok hf d _ _ _ (by omega) (h.more (by omega))
      · exact bwd_ok hf d _ _ _ (by omega) (tryJ_ok h (by omega) (hf d (by omega)))
    · exact bwd_ok hf d _ _ _ (by omega) (h.more (by omega))
theorem rounds_ok {D : List Int} {ft : Nat → Int × Int × Int} {n : Nat} (hf : ∀ a < n, 0 ≤ ansT (ft a) ∧ ansT (ft a) ≤ 100) : ∀ (r c : Nat) (j : JS), JOk n c j → JOk n (c + r * n) (eachR D ft n r j)
  | 0, c, j, h => by rw [Nat.zero_mul]; exact h
  | r + 1, c, j, h => by
    unfold eachR
    have e := Nat.succ_mul r n
    rw [Nat.succ_eq_add_one] at e
    rw [show c + (r + 1) * n = (c + n) + r * n by omega]
    exact rounds_ok hf r _ _ (eachJ_ok hf n 0 c j (by omega) h)
theorem run_ok {D : List Int} {ft : Nat → Int × Int × Int} {n : Nat} (hf : ∀ a < n, 0 ≤ ansT (ft a) ∧ ansT (ft a) ≤ 100) (K T : Nat) : JOk n (0 + n + n + n + (T - 1) * n) (runJ D ft K T n) :=
  rounds_ok hf (T - 1) _ _ (eachJ_ok hf n 0 _ _ (by omega) (bwd_ok hf n _ _ _ (Nat.le_refl _) (fwd_ok hf K n 0 0 _ (startJ_ok n))))
end PassP
end Go.Proofs.Ytcnabemeadnecaa.Pure
