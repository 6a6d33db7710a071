/- What span.Norm, Join, Meet, Less, Has come to, as sets of bytes. (SpanAlgebra: the law whose text this is.) -/
import Derived.Test.YtnlmdmpfgdiipaaPureSetsSpanAlgebra
namespace Go.Proofs.Ytnlmdmpfgdiipaa.Pure.NormSpanAlgebra
set_option linter.unusedVariables false
set_option linter.unusedSimpArgs false
open Go.RowKit Go.Proofs.Ytnlmdmpfgdiipaa.PSpanAlgebra Go.Proofs.YtnlmdmpfgdiipaaW.PrintWords Go.Proofs.YtnlmdmpfgdiipaaW.PrintLast Go.Proofs.YtnlmdmpfgdiipaaW.PrintMore Go.Proofs.YtnlmdmpfgdiipaaW.PrintMine Go.Proofs.YtnlmdmpfgdiipaaW.Plib Go.Proofs.Ytnlmdmpfgdiipaa.Pure.SpanSpanAlgebra Go.Proofs.Ytnlmdmpfgdiipaa.Pure.SetsSpanAlgebra
def fullS (l : List S53) : List S53 := l.filter fun s => decide (s.f1 > 0)
theorem norm_l0 {M : Int} (hM : M ≤ 65536) (l : List S53) (hl : l.length ≤ 5000) (h : ∀ s ∈ l, Ok M s) {P : List S53 → Prop} (d : Nat) : ∀ (j : Nat) (acc : List S53), j + d = l.length → acc.length + d ≤ 10000 →
    Gets (fun k => (api_Span_89.f (acc ++ fullS (l.drop j)) 90).bind fun t => span_Norm.l1 k [] t ((acc ++ fullS (l.drop j)).length : Int) 0) P → Gets (fun k => span_Norm.l0 k acc l (l.length : Int) (j : Int)) P := by
  induction d with
  | zero =>
    intro j acc hj _ hG
    refine Gets.up ?_
    simp only [span_Norm.l0, if_neg (show ¬ (j : Int) < (l.length : Int) by omega)]
    rw [List.drop_of_length_le (by omega), show fullS [] = [] from rfl, List.append_nil] at hG
    exact hG
  | succ d ih =>
    intro j acc hj hal hG
    have hj2 : j < l.length := by omega
    have hok := h l[j] (List.getElem_mem _)
    have hg := good_f hM hok
    have hd : l.drop j = l[j] :: l.drop (j + 1) := List.drop_eq_getElem_cons hj2
    rw [hd] at hG
    have q1 : (j : Int) < (l.length : Int) := by omega
    have q2 : (0 : Int) ≤ (j : Int) := by omega
    have hr := rdn l j hj2
    have hw := w1 j l.length hj2 (by omega)
    clear hd
    generalize l[j] = s at *
    refine Gets.up ?_
    simp only [span_Norm.l0, hr, hg, hw, Option.bind_some]
    simp -implicitDefEqProofs only [if_pos q1, if_pos q2]
    by_cases c1 : s.f1 > 0
    · have q5 : acc.length < 8796093022208 := by omega
      rw [decide_eq_true c1]
      simp -implicitDefEqProofs only [if_true, if_pos q5]
      refine ih (j + 1) _ (by omega) (by simp; omega) ?_
      have e : acc ++ [s] ++ fullS (l.drop (j + 1)) = acc ++ fullS (s :: l.drop (j + 1)) := by
        unfold fullS
        rw [List.filter_cons_of_pos (by simpa using c1), List.append_assoc]
        rfl
      rw [show (⟨s.f0, s.f1⟩ : S53) = s from rfl, e]
      exact hG
    · rw [decide_eq_false c1]
      simp only [Bool.false_eq_true, if_false]
      refine ih (j + 1) _ (by omega) (by omega) ?_
      have e : fullS (s :: l.drop (j + 1)) = fullS (l.drop (j + 1)) := by
        unfold fullS
        rw [List.filter_cons_of_neg (by simpa using c1)]
      rw [e] at hG
      exact hG
theorem nf_snoc {M : Int} {a : List S53} {s : S53} (h : Nf M a) (hs : 0 ≤ s.f0 ∧ 0 < s.f1 ∧ s.f0 + s.f1 ≤ M) (hg : ∀ q ∈ a, Gap q s) : Nf M (a ++ [s]) := by
  refine ⟨fun q hq => ?_, ?_⟩
  · rcases List.mem_append.1 hq with hq | hq
    · exact h.1 q hq
    · rw [List.mem_singleton.1 hq]; exact hs
  · rw [List.pairwise_append]
    exact ⟨h.2, List.pairwise_singleton _ _, fun q hq t ht => by rw [List.mem_singleton.1 ht]; exact hg q hq⟩
theorem norm_l1 {M : Int} (hM : M ≤ 65536) (zs : List S53) (hl : zs.length ≤ 5000) (h : ∀ s ∈ zs, 0 ≤ s.f0 ∧ 0 < s.f1 ∧ s.f0 + s.f1 ≤ M) (hs : zs.Pairwise fun x y => x.f0 ≤ y.f0) (d : Nat) : ∀ (j : Nat) (acc : List S53), j + d = zs.length → acc.length + d ≤ 10000 → Nf M acc → (∀ q ∈ acc, ∀ s ∈ zs.drop j, q.f0 ≤ s.f0) →
    Gets (fun k => span_Norm.l1 k acc zs (zs.length : Int) (j : Int)) (fun r => Nf M r ∧ (∀ p, In r p ↔ In acc p ∨ In (zs.drop j) p) ∧ r.length ≤ acc.length + d) := by
  induction d with
  | zero =>
    intro j acc hj _ hn _
    refine Gets.up ?_
    simp only [span_Norm.l1, if_neg (show ¬ (j : Int) < (zs.length : Int) by omega)]
    refine Gets.ret ⟨hn, fun p => ?_, Nat.le_refl _⟩
    rw [List.drop_of_length_le (by omega)]
    exact (or_iff_left (in_nil p)).symm
  | succ d ih =>
    intro j acc hj hal hn hle
    have hj2 : j < zs.length := by omega
    have hok := h zs[j] (List.getElem_mem _)
    have hd : zs.drop j = zs[j] :: zs.drop (j + 1) := List.drop_eq_getElem_cons hj2
    have hsd : (zs.drop j).Pairwise fun x y => x.f0 ≤ y.f0 := hs.drop
    rw [hd] at hsd hle ⊢
    have hlater : ∀ q ∈ zs.drop (j + 1), zs[j].f0 ≤ q.f0 := (List.pairwise_cons.1 hsd).1
    have q1 : (j : Int) < (zs.length : Int) := by omega
    have q2 : (0 : Int) ≤ (j : Int) := by omega
    have hr := rdn zs j hj2
    have hw := w1 j zs.length hj2 (by omega)
    clear hd hsd
    generalize zs[j] = s at *
    obtain ⟨h1, h2, h3⟩ := hok
    have q5 : acc.length < 8796093022208 := by omega
    have hes := end_f hM (s := s) ⟨h1, by omega, h3⟩
    -- the span is put behind the others
    have put : (∀ q ∈ acc, Gap q s) → Gets (fun k => span_Norm.l1 k (acc ++ [(⟨s.f0, s.f1⟩ : S53)]) zs (zs.length : Int) ((j + 1 : Nat) : Int)) (fun r => Nf M r ∧ (∀ p, In r p ↔ In acc p ∨ In (s :: zs.drop (j + 1)) p) ∧ r.length ≤ acc.length + (d + 1)) := fun hg => by
      rw [show (⟨s.f0, s.f1⟩ : S53) = s from rfl]
      refine (ih (j + 1) (acc ++ [s]) (by omega) (by simp; omega) (nf_snoc hn ⟨h1, h2, h3⟩ hg) (fun q hq t ht => ?_)).imp fun r hr => ⟨hr.1, fun p => ?_, by have := hr.2.2; simp at this; omega⟩
      · rcases List.mem_append.1 hq with hq | hq
        · exact hle q hq t (List.mem_cons_of_mem _ ht)
        · rw [List.mem_singleton.1 hq]; exact hlater t ht
      · rw [hr.2.1 p, in_append, in_one, in_cons, or_assoc]
    refine Gets.up ?_
    simp only [span_Norm.l1, hr]
    simp -implicitDefEqProofs only [if_pos q1, if_pos q2]
    rcases List.eq_nil_or_concat acc with rfl | ⟨a, t, rfl⟩
    · have e0 : wrap64 ((([] : List S53).length : Int) - 1) = -1 := by rw [List.length_nil, w64] <;> omega
      have q3 : ¬ (-1 : Int) ≥ 0 := by omega
      simp -implicitDefEqProofs only [e0, if_neg q3]
      refine Gets.up ?_
      simp only [span_Norm.j2, hw, Bool.false_eq_true, if_false]
      simp -implicitDefEqProofs only [if_pos q5]
      exact put (fun q hq => by simp at hq)
    · rw [List.concat_eq_append] at *
      have hl1 : (a ++ [t]).length = a.length + 1 := by simp
      have e0 : wrap64 (((a ++ [t]).length : Int) - 1) = (a.length : Int) := by rw [hl1, w64] <;> omega
      have q3 : (a.length : Int) ≥ 0 := by omega
      have q4 : (0 : Int) ≤ (a.length : Int) := by omega
      have q6 : (a.length : Int) < ((a ++ [t]).length : Int) := by omega
      have hrt : rd_T53 (a ++ [t]) (a.length : Int) = t := by rw [rdn _ _ (by omega)]; simp
      have ht := hn.1 t (by simp)
      have hts := hle t (by simp) s List.mem_cons_self
      have he := end_f hM (s := t) ⟨ht.1, by omega, ht.2.2⟩
      have hna : Nf M a := ⟨fun q hq => hn.1 q (List.mem_append_left _ hq), (List.pairwise_append.1 hn.2).1⟩
      have hga : ∀ q ∈ a, Gap q t := fun q hq => (List.pairwise_append.1 hn.2).2.2 q hq t (by simp)
      simp -implicitDefEqProofs only [e0, if_pos q3, if_pos q4, if_pos q6, hrt, he, Option.bind_some]
      refine Gets.up ?_
      by_cases c2 : s.f0 ≤ t.f0 + t.f1
      · rw [decide_eq_true c2]
        obtain ⟨m, hm⟩ : ∃ m, mx (t.f0 + t.f1) (s.f0 + s.f1) = m := ⟨_, rfl⟩
        have hm2 : m = if t.f0 + t.f1 < s.f0 + s.f1 then s.f0 + s.f1 else t.f0 + t.f1 := by rw [← hm]; rfl
        have hmb : t.f0 + t.f1 ≤ m ∧ s.f0 + s.f1 ≤ m ∧ m ≤ M ∧ (m = t.f0 + t.f1 ∨ m = s.f0 + s.f1) := by rw [hm2]; split <;> omega
        have e3 : wrap64 (m - t.f0) = m - t.f0 := by rw [w64] <;> omega
        have hset : (a ++ [t]).set (a.length : Int).toNat ⟨t.f0, m - t.f0⟩ = a ++ [⟨t.f0, m - t.f0⟩] := by rw [Int.toNat_natCast]; simp
        simp only [span_Norm.j2, hrt, he, hes, Option.bind_some, hm, e3, hset, hw, if_true]
        simp -implicitDefEqProofs only [if_pos q4, if_pos q6]
        obtain ⟨m1, m2, m3, m4⟩ := hmb
        clear hm hm2 e3 hset
        refine (ih (j + 1) (a ++ [(⟨t.f0, m - t.f0⟩ : S53)]) (by omega) (by simp at hal ⊢; omega) (nf_snoc (s := ⟨t.f0, m - t.f0⟩) hna ⟨ht.1, by show 0 < m - t.f0; omega, by show t.f0 + (m - t.f0) ≤ M; omega⟩ hga) (fun q hq u hu => ?_)).imp fun r hr => ⟨hr.1, fun p => ?_, by have := hr.2.2; simp at this ⊢; omega⟩
        · rcases List.mem_append.1 hq with hq | hq
          · exact hle q (List.mem_append_left _ hq) u (List.mem_cons_of_mem _ hu)
          · rw [List.mem_singleton.1 hq]
            have := hlater u hu
            show t.f0 ≤ u.f0
            omega
        · rw [hr.2.1 p, in_append, in_one, in_append, in_one, in_cons]
          have key : At ⟨t.f0, m - t.f0⟩ p ↔ At t p ∨ At s p := by
            show (t.f0 ≤ p ∧ p < t.f0 + (m - t.f0)) ↔ (t.f0 ≤ p ∧ p < t.f0 + t.f1) ∨ (s.f0 ≤ p ∧ p < s.f0 + s.f1)
            omega
          rw [key]
          simp only [or_assoc]
      · rw [decide_eq_false c2]
        simp only [span_Norm.j2, hw, Bool.false_eq_true, if_false]
        simp -implicitDefEqProofs only [if_pos q5]
        refine put (fun q hq => ?_)
        rcases List.mem_append.1 hq with hq | hq
        · have : q.f0 + q.f1 < t.f0 := hga q hq
          show q.f0 + q.f1 < s.f0
          omega
        · rw [List.mem_singleton.1 hq]
          show t.f0 + t.f1 < s.f0
          omega
theorem norm_f {M : Int} (hM : M ≤ 65536) (l : List S53) (hl : l.length ≤ 5000) (h : ∀ s ∈ l, Ok M s) : Gets (fun k => span_Norm.f k l) (fun r => Nf M r ∧ (∀ p, In r p ↔ In l p) ∧ r.length ≤ l.length) := by
  unfold span_Norm.f
  refine norm_l0 hM l hl h l.length 0 [] (by omega) (by simp; omega) ?_
  rw [List.drop_zero, List.nil_append]
  have hfl : (fullS l).length ≤ l.length := List.length_filter_le _ _
  have hin : ∀ s ∈ fullS l, s ∈ l ∧ s.f1 > 0 := fun s hs => by
    obtain ⟨x, y⟩ := List.mem_filter.1 hs
    exact ⟨x, by simpa using y⟩
  have hok : (fullS l).all api_Span_89.ok = true := List.all_eq_true.2 fun s hs => by
    have h1 := h s (hin s hs).1
    have h2 := (hin s hs).2
    rw [api_Span_89.ok_iff]
    unfold Ok at h1
    omega
  obtain ⟨hp, hsort⟩ := api_Span_89.srt_sorts (fullS l) hok
  have e : api_Span_89.f (fullS l) 90 = some (api_Span_89.srt (fullS l)) := by
    unfold api_Span_89.f
    rw [if_pos rfl, if_pos hok, if_pos (by omega)]
  simp only [e, Option.bind_some]
  have hlen := hp.length_eq
  generalize api_Span_89.srt (fullS l) = zs at hp hsort hlen
  rw [← hlen]
  refine (norm_l1 hM zs (by omega) (fun s hs => ?_) hsort zs.length 0 [] (by omega) (by simp; omega) (Nf.nil M) (fun q hq => by simp at hq)).imp fun r hr => ⟨hr.1, fun p => ?_, by have := hr.2.2; simp at this; omega⟩
  · have h1 := hin s (hp.mem_iff.1 hs)
    have h2 := h s h1.1
    unfold Ok at h2
    omega
  · rw [hr.2.1 p, List.drop_zero]
    constructor
    · rintro (w | ⟨s, hs, w⟩)
      · exact absurd w (in_nil p)
      · exact ⟨s, (hin s (hp.mem_iff.1 hs)).1, w⟩
    · rintro ⟨s, hs, w⟩
      refine .inr ⟨s, hp.mem_iff.2 (List.mem_filter.2 ⟨hs, ?_⟩), w⟩
      have := w.1; have := w.2
      simp
      omega
theorem join_f {M : Int} (hM : M ≤ 65536) (a b : List S53) (hl : a.length + b.length ≤ 4000) (ha : ∀ s ∈ a, Ok M s) (hb : ∀ s ∈ b, Ok M s) : Gets (fun k => span_Join.f k a b) (fun r => Nf M r ∧ (∀ p, In r p ↔ In a p ∨ In b p) ∧ r.length ≤ a.length + b.length) := by
  unfold span_Join.f
  have hfl : [a, b].flatten = a ++ b := by simp
  refine (cat_f [a, b] (by simp) (by rw [hfl, List.length_append]; omega)).bind fun _ e => ?_
  subst e
  rw [hfl]
  refine (norm_f hM (a ++ b) (by rw [List.length_append]; omega) (fun s hs => ?_)).bind fun r hr => Gets.ret ⟨hr.1, fun p => by rw [hr.2.1 p, in_append], by rw [← List.length_append]; exact hr.2.2⟩
  rcases List.mem_append.1 hs with hs | hs
  · exact ha s hs
  · exact hb s hs
end Go.Proofs.Ytnlmdmpfgdiipaa.Pure.NormSpanAlgebra
