/- wrackkeep1.SpanAlgebra: a set is what it has in common with another one, and what it has alone; bytes of both are counted once. For every input. -/
import Derived.Test.YtnlmdmpfgdiipaaPureNormSpanAlgebra
namespace Go.Proofs.Ytnlmdmpfgdiipaa.Pure
set_option linter.unusedVariables false
set_option linter.unusedSimpArgs false
open Go.RowKit Go.Proofs.Ytnlmdmpfgdiipaa.PSpanAlgebra Go.Proofs.YtnlmdmpfgdiipaaW.PrintWords Go.Proofs.YtnlmdmpfgdiipaaW.PrintLast Go.Proofs.YtnlmdmpfgdiipaaW.PrintMore Go.Proofs.YtnlmdmpfgdiipaaW.PrintMine Go.Proofs.YtnlmdmpfgdiipaaW.Plib Go.Proofs.Ytnlmdmpfgdiipaa.Pure.SpanSpanAlgebra Go.Proofs.Ytnlmdmpfgdiipaa.Pure.SetsSpanAlgebra Go.Proofs.Ytnlmdmpfgdiipaa.Pure.NormSpanAlgebra
namespace AlgebraP
/-! ## Meet -/
theorem drop_gap {M : Int} {x : List S53} (hx : Nf M x) {i : Nat} {s : S53} {l : List S53} (h : x.drop i = s :: l) : Nf M (s :: l) := by
  rw [← h]
  exact ⟨fun q hq => hx.1 q (List.mem_of_mem_drop hq), hx.2.drop⟩
theorem meet_l0 {M M' : Int} (hM : M ≤ 65536) (hM' : M' ≤ 65536) (x y : List S53) (hx : Nf M x) (hy : Nf M' y) (hxl : x.length ≤ 5000) (hyl : y.length ≤ 5000) (d : Nat) : ∀ (i j : Nat) (out : List S53), (x.length - i) + (y.length - j) = d → i ≤ x.length → j ≤ y.length → out.length ≤ i + j → Nf M out →
    (∀ q ∈ out, (∀ s ∈ x.drop i, Gap q s) ∨ (∀ t ∈ y.drop j, Gap q t)) →
    Gets (fun k => span_Meet.l0 k x y out (i : Int) (j : Int)) (fun r => Nf M r ∧ (∀ p, In r p ↔ In out p ∨ (In (x.drop i) p ∧ In (y.drop j) p)) ∧ r.length ≤ x.length + y.length) := by
  induction d with
  | zero =>
    intro i j out hd hi hj hol hn _
    refine Gets.up ?_
    simp only [span_Meet.l0, if_neg (show ¬ (i : Int) < (x.length : Int) by omega)]
    refine Gets.up ?_
    simp only [span_Meet.j1, Bool.false_eq_true, if_false]
    refine Gets.ret ⟨hn, fun p => ?_, by omega⟩
    rw [List.drop_of_length_le (show x.length ≤ i by omega)]
    exact ⟨.inl, fun w => w.elim id fun w => absurd w.1 (in_nil p)⟩
  | succ d ih =>
    intro i j out hd hi hj hol hn hsep
    by_cases ci : i < x.length
    · by_cases cj : j < y.length
      · have q1 : (i : Int) < (x.length : Int) := by omega
        have q2 : (j : Int) < (y.length : Int) := by omega
        have q3 : (0 : Int) ≤ (i : Int) := by omega
        have q4 : (0 : Int) ≤ (j : Int) := by omega
        have hdx : x.drop i = x[i] :: x.drop (i + 1) := List.drop_eq_getElem_cons ci
        have hdy : y.drop j = y[j] :: y.drop (j + 1) := List.drop_eq_getElem_cons cj
        have hrx := rdn x i ci
        have hry := rdn y j cj
        have hwi := w1 i x.length ci (by omega)
        have hwj := w1 j y.length cj (by omega)
        have nx := drop_gap hx hdx
        have ny := drop_gap hy hdy
        rw [hdx, hdy] at hsep ⊢
        generalize x[i] = s at *
        generalize y[j] = t at *
        have hs := nx.head
        have ht := ny.head
        have hes := end_f hM (s := s) ⟨hs.1, by omega, hs.2.2⟩
        have het := end_f hM' (s := t) ⟨ht.1, by omega, ht.2.2⟩
        -- one of both goes on
        have next : ∀ o2 : List S53, Nf M o2 → (∀ p, In o2 p ↔ In out p ∨ (At s p ∧ At t p)) → o2.length ≤ i + j + 1 →
            (∀ q ∈ o2, ((∀ s' ∈ s :: x.drop (i + 1), Gap q s') ∨ (∀ t' ∈ t :: y.drop (j + 1), Gap q t')) ∨ (q.f0 + q.f1 ≤ s.f0 + s.f1 ∧ q.f0 + q.f1 ≤ t.f0 + t.f1)) →
            Gets (fun k => span_Meet.j2 k x y o2 (i : Int) (j : Int)) (fun r => Nf M r ∧ (∀ p, In r p ↔ In out p ∨ (In (s :: x.drop (i + 1)) p ∧ In (t :: y.drop (j + 1)) p)) ∧ r.length ≤ x.length + y.length) := by
          intro o2 n2 hin hl2 hsep2
          refine Gets.up ?_
          simp only [span_Meet.j2, hrx, hry, hes, het, Option.bind_some, hwi, hwj]
          simp -implicitDefEqProofs only [if_pos q1, if_pos q2, if_pos q3, if_pos q4]
          clear hwi hwj
          by_cases c : s.f0 + s.f1 < t.f0 + t.f1
          · simp -implicitDefEqProofs only [if_pos c]
            refine (ih (i + 1) j o2 (by omega) (by omega) hj (by omega) n2 (fun q hq => ?_)).imp fun r hr => ⟨hr.1, fun p => ?_, hr.2.2⟩
            · rcases hsep2 q hq with (w | w) | w
              · exact .inl fun s' hs' => w s' (List.mem_cons_of_mem _ hs')
              · rw [hdy]; exact .inr w
              · refine .inl fun s' hs' => ?_
                have : s.f0 + s.f1 < s'.f0 := (List.pairwise_cons.1 nx.2).1 s' hs'
                show q.f0 + q.f1 < s'.f0
                omega
            · rw [hr.2.1 p, hin p, hdy, in_cons s]
              constructor
              · rintro ((w | ⟨w1, w2⟩) | ⟨w1, w2⟩)
                · exact .inl w
                · exact .inr ⟨.inl w1, (in_cons _ _ _).2 (.inl w2)⟩
                · exact .inr ⟨.inr w1, w2⟩
              · rintro (w | ⟨w1 | w1, w2⟩)
                · exact .inl (.inl w)
                · rcases (in_cons _ _ _).1 w2 with w2 | w2
                  · exact .inl (.inr ⟨w1, w2⟩)
                  · have := ny.later w2
                    have := w1.2
                    omega
                · exact .inr ⟨w1, w2⟩
          · simp -implicitDefEqProofs only [if_neg c]
            refine (ih i (j + 1) o2 (by omega) hi (by omega) (by omega) n2 (fun q hq => ?_)).imp fun r hr => ⟨hr.1, fun p => ?_, hr.2.2⟩
            · rcases hsep2 q hq with (w | w) | w
              · rw [hdx]; exact .inl w
              · exact .inr fun t' ht' => w t' (List.mem_cons_of_mem _ ht')
              · refine .inr fun t' ht' => ?_
                have : t.f0 + t.f1 < t'.f0 := (List.pairwise_cons.1 ny.2).1 t' ht'
                show q.f0 + q.f1 < t'.f0
                omega
            · rw [hr.2.1 p, hin p, hdx, in_cons t]
              constructor
              · rintro ((w | ⟨w1, w2⟩) | ⟨w1, w2⟩)
                · exact .inl w
                · exact .inr ⟨(in_cons _ _ _).2 (.inl w1), .inl w2⟩
                · exact .inr ⟨w1, .inr w2⟩
              · rintro (w | ⟨w1, w2 | w2⟩)
                · exact .inl (.inl w)
                · rcases (in_cons _ _ _).1 w1 with w1 | w1
                  · exact .inl (.inr ⟨w1, w2⟩)
                  · have := nx.later w1
                    have := w2.2
                    omega
                · exact .inr ⟨w1, w2⟩
        clear hwi hwj
        refine Gets.up ?_
        simp only [span_Meet.l0]
        simp -implicitDefEqProofs only [if_pos q1]
        rw [decide_eq_true q2]
        refine Gets.up ?_
        obtain ⟨lo, hlo⟩ : ∃ z, mx s.f0 t.f0 = z := ⟨_, rfl⟩
        obtain ⟨hi', hhi⟩ : ∃ z, mn (s.f0 + s.f1) (t.f0 + t.f1) = z := ⟨_, rfl⟩
        have hlo2 : lo = if s.f0 < t.f0 then t.f0 else s.f0 := by rw [← hlo]; rfl
        have hhi2 : hi' = if t.f0 + t.f1 < s.f0 + s.f1 then t.f0 + t.f1 else s.f0 + s.f1 := by rw [← hhi]; rfl
        have l1 : s.f0 ≤ lo ∧ t.f0 ≤ lo ∧ (lo = s.f0 ∨ lo = t.f0) := by rw [hlo2]; split <;> omega
        have l2 : hi' ≤ s.f0 + s.f1 ∧ hi' ≤ t.f0 + t.f1 ∧ (hi' = s.f0 + s.f1 ∨ hi' = t.f0 + t.f1) := by rw [hhi2]; split <;> omega
        simp only [span_Meet.j1, hrx, hry, hes, het, Option.bind_some, hlo, hhi, if_true]
        simp -implicitDefEqProofs only [if_pos q1, if_pos q2, if_pos q3, if_pos q4]
        have q5 : out.length < 8796093022208 := by omega
        clear hlo hhi hlo2 hhi2
        by_cases c : lo < hi'
        · have e3 : wrap64 (hi' - lo) = hi' - lo := by rw [w64] <;> omega
          simp -implicitDefEqProofs only [if_pos c, if_pos q5, e3]
          clear e3
          have key : ∀ p, At ⟨lo, hi' - lo⟩ p ↔ At s p ∧ At t p := fun p => by
            show (lo ≤ p ∧ p < lo + (hi' - lo)) ↔ (s.f0 ≤ p ∧ p < s.f0 + s.f1) ∧ (t.f0 ≤ p ∧ p < t.f0 + t.f1)
            omega
          refine next _ (nf_snoc (s := ⟨lo, hi' - lo⟩) hn ⟨by show 0 ≤ lo; omega, by show 0 < hi' - lo; omega, by show lo + (hi' - lo) ≤ M; omega⟩ (fun q hq => ?_)) (fun p => by rw [in_append, in_one, key]) (by simp; omega) (fun q hq => ?_)
          · show q.f0 + q.f1 < lo
            rcases hsep q hq with w | w
            · have : q.f0 + q.f1 < s.f0 := w s List.mem_cons_self
              omega
            · have : q.f0 + q.f1 < t.f0 := w t List.mem_cons_self
              omega
          · rcases List.mem_append.1 hq with hq | hq
            · exact .inl (hsep q hq)
            · rw [List.mem_singleton.1 hq]
              exact .inr ⟨by show lo + (hi' - lo) ≤ _; omega, by show lo + (hi' - lo) ≤ _; omega⟩
        · simp -implicitDefEqProofs only [if_neg c]
          refine next out hn (fun p => ⟨.inl, fun w => w.elim id fun w => ?_⟩) (by omega) (fun q hq => .inl (hsep q hq))
          have w1 := w.1; have w2 := w.2
          unfold At at w1 w2
          omega
      · have q1 : (i : Int) < (x.length : Int) := by omega
        have q2 : ¬ (j : Int) < (y.length : Int) := by omega
        refine Gets.up ?_
        simp only [span_Meet.l0]
        simp -implicitDefEqProofs only [if_pos q1]
        rw [decide_eq_false q2]
        refine Gets.up ?_
        simp only [span_Meet.j1, Bool.false_eq_true, if_false]
        refine Gets.ret ⟨hn, fun p => ?_, by omega⟩
        rw [List.drop_of_length_le (show y.length ≤ j by omega)]
        exact ⟨.inl, fun w => w.elim id fun w => absurd w.2 (in_nil p)⟩
    · refine Gets.up ?_
      simp only [span_Meet.l0, if_neg (show ¬ (i : Int) < (x.length : Int) by omega)]
      refine Gets.up ?_
      simp only [span_Meet.j1, Bool.false_eq_true, if_false]
      refine Gets.ret ⟨hn, fun p => ?_, by omega⟩
      rw [List.drop_of_length_le (show x.length ≤ i by omega)]
      exact ⟨.inl, fun w => w.elim id fun w => absurd w.1 (in_nil p)⟩
theorem meet_f {M M' : Int} (hM : M ≤ 65536) (hM' : M' ≤ 65536) (a b : List S53) (hal : a.length ≤ 4000) (hbl : b.length ≤ 4000) (ha : ∀ s ∈ a, Ok M s) (hb : ∀ s ∈ b, Ok M' s) :
    Gets (fun k => span_Meet.f k a b) (fun r => Nf M r ∧ (∀ p, In r p ↔ In a p ∧ In b p) ∧ r.length ≤ a.length + b.length) := by
  unfold span_Meet.f
  refine (norm_f hM a (by omega) ha).bind fun x hx => ?_
  refine (norm_f hM' b (by omega) hb).bind fun y hy => ?_
  obtain ⟨x1, x2, x3⟩ := hx
  obtain ⟨y1, y2, y3⟩ := hy
  refine (meet_l0 hM hM' x y x1 y1 (by omega) (by omega) _ 0 0 [] rfl (by omega) (by omega) (by simp) (Nf.nil M) (fun q hq => by simp at hq)).imp fun r hr => ⟨hr.1, fun p => ?_, by have := hr.2.2; omega⟩
  rw [hr.2.1 p, List.drop_zero, List.drop_zero, x2, y2]
  exact ⟨fun w => w.elim (fun w => absurd w (in_nil p)) id, .inr⟩
/-! ## Less -/
theorem less_l0 {M : Int} (hM : M ≤ 65536) (a nb : List S53) (hn : Nf M nb) (hl : nb.length ≤ 5000) {P : List S53 → Prop} (d : Nat) : ∀ (j : Nat) (at_ : Int) (rest : List S53), j + d = nb.length → 0 ≤ at_ → at_ ≤ 65536 → (∀ s ∈ nb.drop j, at_ ≤ s.f0) → rest.length + d ≤ 10000 →
    Gets (fun k => span_Meet.f k a (rest ++ comp at_ (nb.drop j))) P → Gets (fun k => span_Less.l0 k a rest at_ nb (nb.length : Int) (j : Int)) P := by
  induction d with
  | zero =>
    intro j at_ rest hj h0 h1 _ hrl hG
    have q5 : rest.length < 8796093022208 := by omega
    have e : wrap64 (65536 - at_) = 65536 - at_ := by rw [w64] <;> omega
    have qn : ¬ (j : Int) < (nb.length : Int) := by omega
    refine Gets.up ?_
    simp only [span_Less.l0, e]
    simp -implicitDefEqProofs only [if_neg qn, if_pos q5]
    rw [List.drop_of_length_le (show nb.length ≤ j by omega)] at hG
    exact hG.bind fun r hr => Gets.ret hr
  | succ d ih =>
    intro j at_ rest hj h0 h1 hle hrl hG
    have hj2 : j < nb.length := by omega
    have hd : nb.drop j = nb[j] :: nb.drop (j + 1) := List.drop_eq_getElem_cons hj2
    have nn := drop_gap hn hd
    rw [hd] at hle hG
    have q1 : (j : Int) < (nb.length : Int) := by omega
    have q2 : (0 : Int) ≤ (j : Int) := by omega
    have q5 : rest.length < 8796093022208 := by omega
    have hr := rdn nb j hj2
    have hw := w1 j nb.length hj2 (by omega)
    clear hd
    generalize nb[j] = s at *
    have hs := nn.head
    have has := hle s List.mem_cons_self
    have hes := end_f hM (s := s) ⟨hs.1, by omega, hs.2.2⟩
    have e : wrap64 (s.f0 - at_) = s.f0 - at_ := by rw [w64] <;> omega
    refine Gets.up ?_
    simp only [span_Less.l0, hr, hes, Option.bind_some, e, hw]
    simp -implicitDefEqProofs only [if_pos q1, if_pos q2, if_pos q5]
    clear e hw
    refine ih (j + 1) (s.f0 + s.f1) _ (by omega) (by omega) (by omega) (fun t ht => ?_) (by simp; omega) ?_
    · have : s.f0 + s.f1 < t.f0 := (List.pairwise_cons.1 nn.2).1 t ht
      omega
    · rw [List.append_assoc]
      exact hG
theorem less_f {M : Int} (hM : M ≤ 65536) (a b : List S53) (hal : a.length ≤ 2000) (hbl : b.length ≤ 2000) (ha : ∀ s ∈ a, Ok M s) (hb : ∀ s ∈ b, Ok M s) :
    Gets (fun k => span_Less.f k a b) (fun r => Nf M r ∧ (∀ p, In r p ↔ In a p ∧ ¬ In b p) ∧ r.length ≤ a.length + b.length + 1) := by
  unfold span_Less.f
  refine (norm_f hM b (by omega) hb).bind fun y hy => ?_
  obtain ⟨y1, y2, y3⟩ := hy
  refine less_l0 hM a y y1 (by omega) y.length 0 0 [] (by omega) (by omega) (by omega) (fun s hs => (y1.1 s (List.mem_of_mem_drop hs)).1) (by simp; omega) ?_
  rw [List.drop_zero, List.nil_append]
  obtain ⟨c1, c2, c3⟩ := comp_spec hM y 0 (by omega) (by omega) y1 (fun s hs => (y1.1 s hs).1)
  refine (meet_f hM (Int.le_refl _) a (comp 0 y) (by omega) (by omega) ha c1).imp fun r hr => ⟨hr.1, fun p => ?_, by have := hr.2.2; omega⟩
  rw [hr.2.1 p, c3 p, y2 p]
  constructor
  · rintro ⟨w1, _, _, w4⟩
    exact ⟨w1, w4⟩
  · rintro ⟨w1, w2⟩
    refine ⟨w1, ?_, ?_, w2⟩
    · obtain ⟨q, hq, h1, h2⟩ := w1
      have := (ha q hq).1
      omega
    · obtain ⟨q, hq, h1, h2⟩ := w1
      have := (ha q hq).2.2
      omega
/-! ## Has -/
theorem has_f {M : Int} (hM : M ≤ 65536) (l : List S53) (h : ∀ s ∈ l, Ok M s) (p : Int) : span_Has.f l p = some (inB l p) := by
  have hok : l.all span_Has.has_ok = true := List.all_eq_true.2 fun s hs => by
    have := h s hs
    unfold Ok at this
    simp only [span_Has.has_ok, Bool.and_eq_true, decide_eq_true_eq]
    omega
  unfold span_Has.f
  rw [if_pos hok]
  congr 1
  rw [Bool.eq_iff_iff, inB_iff, List.any_eq_true]
  constructor
  · rintro ⟨s, hs, w⟩
    simp only [span_Has.has_in, Bool.and_eq_true, decide_eq_true_eq] at w
    exact ⟨s, hs, w.1.2, w.2⟩
  · rintro ⟨s, hs, w1, w2⟩
    refine ⟨s, hs, ?_⟩
    simp only [span_Has.has_in, Bool.and_eq_true, decide_eq_true_eq]
    exact ⟨⟨by omega, w1⟩, w2⟩
/-! ## The law -/
theorem fact : Gets (fun k => wrackkeep1_spans.f k) (· = true) := by
  unfold wrackkeep1_spans.f
  refine (norm_f (M := 100) (by omega) [⟨5, 3⟩, ⟨0, 5⟩] (by simp) (fun s hs => by
    simp only [List.mem_cons, List.not_mem_nil, or_false] at hs
    rcases hs with rfl | rfl
    · exact ⟨by show (0 : Int) ≤ 5; omega, by show (0 : Int) ≤ 3; omega, by show (5 : Int) + 3 ≤ 100; omega⟩
    · exact ⟨by show (0 : Int) ≤ 0; omega, by show (0 : Int) ≤ 5; omega, by show (0 : Int) + 5 ≤ 100; omega⟩)).bind fun r hr => ?_
  obtain ⟨r1, r2, _⟩ := hr
  have n8 : Nf 100 [⟨0, 8⟩] := ⟨fun s hs => by
    rw [List.mem_singleton.1 hs]
    exact ⟨by show (0 : Int) ≤ 0; omega, by show (0 : Int) < 8; omega, by show (0 : Int) + 8 ≤ 100; omega⟩, List.pairwise_singleton _ _⟩
  have e : r = [⟨0, 8⟩] := nf_unique r1 n8 fun p => by
    rw [r2 p, in_cons, in_one, in_one]
    show (((5 : Int) ≤ p ∧ p < 5 + 3) ∨ ((0 : Int) ≤ p ∧ p < 0 + 5)) ↔ ((0 : Int) ≤ p ∧ p < 0 + 8)
    omega
  subst e
  simp [rd_T53]
  exact Gets.ret rfl
theorem inB_or {u a b : List S53} (h : ∀ p, In u p ↔ In a p ∨ In b p) (p : Int) : inB u p = (inB a p || inB b p) := by
  rw [Bool.eq_iff_iff, Bool.or_eq_true, inB_iff, inB_iff, inB_iff]; exact h p
theorem inB_and {u a b : List S53} (h : ∀ p, In u p ↔ In a p ∧ In b p) (p : Int) : inB u p = (inB a p && inB b p) := by
  rw [Bool.eq_iff_iff, Bool.and_eq_true, inB_iff, inB_iff, inB_iff]; exact h p
theorem inB_less {u a b : List S53} (h : ∀ p, In u p ↔ In a p ∧ ¬ In b p) (p : Int) : inB u p = (inB a p && !inB b p) := by
  rw [Bool.eq_iff_iff, Bool.and_eq_true, inB_iff, inB_iff, h p, Bool.not_eq_true', Bool.eq_false_iff]
  rw [show (inB b p ≠ true) = ¬ (inB b p = true) from rfl, inB_iff]
theorem inB_same {u a : List S53} (h : ∀ p, In u p ↔ In a p) (p : Int) : inB u p = inB a p := by
  rw [Bool.eq_iff_iff, inB_iff, inB_iff]; exact h p
theorem count_nf (l : List S53) (hl : l.length ≤ 40) (h : Nf 300 l) : Gets (fun k => span_Count.f k l) (· = ((cnt 300 (inB l) : Nat) : Int)) := by
  have hp : (pos l).length ≤ l.length * 300 := pos_len (M := 300) h.ok
  have := count_f (M := 300) (by omega) l (by omega) (by omega) h.ok
  rwa [nf_cnt (M := 300) h] at this
theorem cnt_le (M : Nat) (f : Int → Bool) : cnt M f ≤ M := by
  unfold cnt
  have := List.countP_le_length (p := fun i : Nat => f (i : Int)) (l := List.range M)
  rwa [List.length_range] at this
theorem law_f (l0 l1 : List Int) (a2 : Int) : Gets (fun k => wrackkeep1_SpanAlgebra.f k l0 l1 a2) (· = true) := by
  simp only [wrackkeep1_SpanAlgebra.f]
  have hM : (300 : Int) ≤ 65536 := by omega
  refine (spans_f l0).bind fun a ha => ?_
  refine (spans_f l1).bind fun b hb => ?_
  obtain ⟨al, ak⟩ := ha
  obtain ⟨bl, bk⟩ := hb
  refine (join_f hM a b (by omega) ak bk).bind fun u hu => ?_
  refine (meet_f hM hM a b (by omega) (by omega) ak bk).bind fun c hc => ?_
  refine (less_f hM a b (by omega) (by omega) ak bk).bind fun d hd => ?_
  obtain ⟨u1, u2, u3⟩ := hu
  obtain ⟨c1, c2, c3⟩ := hc
  obtain ⟨d1, d2, d3⟩ := hd
  simp only [below_f (a := a2) (n := 310) (by omega) (by omega), Option.bind_some, has_f hM a ak, has_f hM b bk, has_f hM u u1.ok, has_f hM c c1.ok, has_f hM d d1.ok]
  generalize a2 % 310 = off
  refine fact.bind fun _ e => ?_
  subst e
  simp only [if_true]
  refine (join_f hM c d (by omega) c1.ok d1.ok).bind fun j hj => ?_
  refine (norm_f hM a (by omega) ak).bind fun na hna => ?_
  obtain ⟨j1, j2, j3⟩ := hj
  obtain ⟨na1, na2, na3⟩ := hna
  have ej : j = na := nf_unique j1 na1 fun p => by
    rw [j2 p, c2 p, d2 p, na2 p]
    by_cases w : In b p <;> simp [w]
  subst ej
  refine (equal_f j (by omega)).bind fun _ e => ?_
  subst e
  simp only [if_true]
  refine (meet_f hM hM d b (by omega) (by omega) d1.ok bk).bind fun z hz => ?_
  obtain ⟨z1, z2, z3⟩ := hz
  have ez : z = [] := z1.none fun p hp => by
    obtain ⟨w1, w2⟩ := (z2 p).1 hp
    exact ((d2 p).1 w1).2 w2
  subst ez
  simp only [List.length_nil, Int.ofNat_zero, if_true, show (((0 : Nat) : Int) = 0) = True from by simp]
  refine (norm_f hM u (by omega) u1.ok).bind fun v hv => ?_
  have ev : v = u := nf_unique hv.1 u1 hv.2.1
  subst ev
  refine (equal_f v (by omega)).bind fun _ e => ?_
  subst e
  simp only [if_true]
  refine (count_nf v (by omega) u1).bind fun _ e => ?_
  subst e
  refine (count_nf c (by omega) c1).bind fun _ e => ?_
  subst e
  refine (norm_f hM a (by omega) ak).bind fun x hx => ?_
  refine (count_nf x (by have := hx.2.2; omega) hx.1).bind fun _ e => ?_
  subst e
  refine (norm_f hM b (by omega) bk).bind fun y hy => ?_
  refine (count_nf y (by have := hy.2.2; omega) hy.1).bind fun _ e => ?_
  subst e
  have hsum := cnt_sum 300 (inB a) (inB b)
  rw [← cnt_congr (inB_or u2), ← cnt_congr (inB_and c2), ← cnt_congr (inB_same hx.2.1), ← cnt_congr (inB_same hy.2.1)] at hsum
  have es : wrap64 (((cnt 300 (inB v) : Nat) : Int) + ((cnt 300 (inB c) : Nat) : Int)) = wrap64 (((cnt 300 (inB x) : Nat) : Int) + ((cnt 300 (inB y) : Nat) : Int)) := by
    congr 1
    omega
  simp only [if_pos es]
  rw [inB_or u2 off, inB_and c2 off, inB_less d2 off]
  cases inB a off <;> cases inB b off <;> simp <;> exact Gets.ret rfl
end AlgebraP
theorem SpanAlgebra : wrackkeep1_SpanAlgebra.Pure := by
  intro l0 l1 a2 _ _ _ _ _ _ _
  obtain ⟨k, r, h1, h2⟩ := (AlgebraP.law_f l0 l1 a2).get
  exact ⟨k, by rw [h1, h2]⟩
end Go.Proofs.Ytnlmdmpfgdiipaa.Pure
