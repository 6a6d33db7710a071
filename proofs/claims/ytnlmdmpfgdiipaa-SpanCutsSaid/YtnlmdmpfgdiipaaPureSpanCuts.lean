/- wrackkeep1.SpanCuts: spans that are cut into two are the two one after the other; glueing changes no bytes. For every input. -/
import Derived.Test.YtnlmdmpfgdiipaaPSpanCutsx6
import Derived.Test.YtnlmdmpfgdiipaaPureSpanSpanCuts
namespace Go.Proofs.Ytnlmdmpfgdiipaa.Pure
set_option linter.unusedVariables false
set_option linter.unusedSimpArgs false
open Go.RowKit Go.Proofs.Ytnlmdmpfgdiipaa.PSpanCuts Go.Proofs.YtnlmdmpfgdiipaaW.PrintWords Go.Proofs.YtnlmdmpfgdiipaaW.PrintLast Go.Proofs.YtnlmdmpfgdiipaaW.PrintMore Go.Proofs.YtnlmdmpfgdiipaaW.PrintMine Go.Proofs.YtnlmdmpfgdiipaaW.Plib Go.Proofs.Ytnlmdmpfgdiipaa.Pure.SpanSpanCuts
namespace CutsP
theorem srt_two : api_Span_89.f [⟨5, 3⟩, ⟨0, 5⟩] 90 = some [⟨0, 5⟩, ⟨5, 3⟩] := by
  have hok : ([⟨5, 3⟩, ⟨0, 5⟩] : List S53).all api_Span_89.ok = true := by decide
  obtain ⟨hp, hs⟩ := api_Span_89.srt_sorts [⟨5, 3⟩, ⟨0, 5⟩] hok
  have hl := hp.length_eq
  unfold api_Span_89.f
  rw [if_pos rfl, if_pos hok, if_pos (by simp)]
  generalize api_Span_89.srt [⟨5, 3⟩, ⟨0, 5⟩] = L at hp hs hl
  match L, hl with
  | [x, y], _ =>
    have hx : x ∈ ([⟨5, 3⟩, ⟨0, 5⟩] : List S53) := hp.mem_iff.1 (by simp)
    have hxy : x.f0 ≤ y.f0 := by simpa using hs
    simp only [List.mem_cons, List.not_mem_nil, or_false] at hx
    rcases hx with rfl | rfl
    · have := hp.cons_inv
      rw [List.perm_singleton] at this
      injection this with this
      subst this
      simp at hxy
    · have h2 : List.Perm [(⟨0, 5⟩ : S53), y] [⟨0, 5⟩, ⟨5, 3⟩] := hp.trans (List.Perm.swap _ _ _)
      have := h2.cons_inv
      rw [List.perm_singleton] at this
      injection this with this
      subst this
      rfl
theorem norm_two : Gets (fun k => span_Norm.f k [⟨5, 3⟩, ⟨0, 5⟩]) (· = [⟨0, 8⟩]) := by
  have g1 : span_good.f 5 3 = some true := by
    have := good_f (M := 100) (by omega) (s := ⟨5, 3⟩) ⟨by show (0 : Int) ≤ 5; omega, by show (0 : Int) ≤ 3; omega, by show (5 : Int) + 3 ≤ 100; omega⟩
    simpa using this
  have g2 : span_good.f 0 5 = some true := by
    have := good_f (M := 100) (by omega) (s := ⟨0, 5⟩) ⟨by show (0 : Int) ≤ 0; omega, by show (0 : Int) ≤ 5; omega, by show (0 : Int) + 5 ≤ 100; omega⟩
    simpa using this
  have n1 : span_end.f 0 5 = some 5 := by
    have := end_f (M := 100) (by omega) (s := ⟨0, 5⟩) ⟨by show (0 : Int) ≤ 0; omega, by show (0 : Int) ≤ 5; omega, by show (0 : Int) + 5 ≤ 100; omega⟩
    simpa using this
  have n2 : span_end.f 5 3 = some 8 := by
    have := end_f (M := 100) (by omega) (s := ⟨5, 3⟩) ⟨by show (0 : Int) ≤ 5; omega, by show (0 : Int) ≤ 3; omega, by show (5 : Int) + 3 ≤ 100; omega⟩
    simpa using this
  have e1 : wrap64 1 = 1 := by rw [w64] <;> omega
  have e2 : wrap64 2 = 2 := by rw [w64] <;> omega
  have em : wrap64 (-1) = -1 := by rw [w64] <;> omega
  have e0 : wrap64 0 = 0 := by rw [w64] <;> omega
  have e8 : wrap64 8 = 8 := by rw [w64] <;> omega
  have hm : mx 5 8 = 8 := by decide
  have hs := srt_two
  unfold span_Norm.f
  refine Gets.up ?_
  simp [span_Norm.l0, g1, e1, rd_T53]
  refine Gets.up ?_
  simp [span_Norm.l0, g2, e2, rd_T53]
  refine Gets.up ?_
  simp [span_Norm.l0, hs]
  refine Gets.up ?_
  simp [span_Norm.l1, em, rd_T53]
  refine Gets.up ?_
  simp [span_Norm.j2, e1]
  refine Gets.up ?_
  simp [span_Norm.l1, e0, rd_T53, n1]
  refine Gets.up ?_
  simp [span_Norm.j2, rd_T53, n1, n2, hm, e8, e2]
  refine Gets.up ?_
  simp [span_Norm.l1]
  exact Gets.ret rfl
theorem fact : Gets (fun k => wrackkeep1_spans.f k) (· = true) := by
  simp only [wrackkeep1_spans.f]
  refine norm_two.bind fun r hr => ?_
  subst hr
  simp [rd_T53]
  exact Gets.ret rfl
theorem law_f (l0 : List Int) (a1 a2 : Int) : Gets (fun k => wrackkeep1_SpanCuts.f k l0 a1 a2) (· = true) := by
  simp only [wrackkeep1_SpanCuts.f]
  refine (spans_f l0).bind fun a ha => ?_
  obtain ⟨hal, hok⟩ := ha
  have hM : (300 : Int) ≤ 65536 := by omega
  have hpl : (pos a).length ≤ a.length * 300 := pos_len (M := 300) hok
  have hin := pos_in hok
  obtain ⟨P, hP⟩ : ∃ P, P = pos a := ⟨_, rfl⟩
  rw [← hP] at hpl hin
  have hPl : P.length ≤ 2400 := by omega
  have hcount := count_f hM a (by omega) (by rw [← hP]; omega) hok
  rw [← hP] at hcount
  refine hcount.bind fun _ e => ?_
  subst e
  have ek : wrap64 ((P.length : Int) + 1) = ((P.length + 1 : Nat) : Int) := by rw [w64] <;> omega
  have hk0 := Int.emod_nonneg a1 (show ((P.length + 1 : Nat) : Int) ≠ 0 by omega)
  have hk1 := Int.emod_lt_of_pos a1 (show (0 : Int) < ((P.length + 1 : Nat) : Int) by omega)
  have hkb := below_f (a := a1) (n := ((P.length + 1 : Nat) : Int)) (by omega) (by omega)
  obtain ⟨c, hc⟩ : ∃ c : Nat, a1 % ((P.length + 1 : Nat) : Int) = (c : Int) := ⟨(a1 % ((P.length + 1 : Nat) : Int)).toNat, by omega⟩
  rw [hc] at hkb hk0 hk1
  clear hc
  have hcP : c ≤ P.length := by omega
  have es : wrap64 ((P.length : Int) - (c : Int)) = ((P.length - c : Nat) : Int) := by rw [w64] <;> omega
  have es1 : wrap64 (((P.length - c : Nat) : Int) + 1) = ((P.length - c + 1 : Nat) : Int) := by rw [w64] <;> omega
  have hn0 := Int.emod_nonneg a2 (show ((P.length - c + 1 : Nat) : Int) ≠ 0 by omega)
  have hn1 := Int.emod_lt_of_pos a2 (show (0 : Int) < ((P.length - c + 1 : Nat) : Int) by omega)
  have hnb := below_f (a := a2) (n := ((P.length - c + 1 : Nat) : Int)) (by omega) (by omega)
  obtain ⟨n, hn⟩ : ∃ n : Nat, a2 % ((P.length - c + 1 : Nat) : Int) = (n : Int) := ⟨(a2 % ((P.length - c + 1 : Nat) : Int)).toNat, by omega⟩
  rw [hn] at hnb hn0 hn1
  clear hn
  have hnP : n ≤ P.length - c := by omega
  simp only [ek, hkb, Option.bind_some, es, es1, hnb]
  clear ek hkb es1 hnb hn0 hn1 hk0 hk1
  have hax : a.length ≤ 4000 := by omega
  have inT : ∀ m, ∀ p ∈ P.take m, 0 ≤ p ∧ p < 300 := fun m p hp => hin p (List.mem_of_mem_take hp)
  have inD : ∀ m, ∀ p ∈ P.drop m, 0 ≤ p ∧ p < 300 := fun m p hp => hin p (List.mem_of_mem_drop hp)
  obtain ⟨xf, xp, xl⟩ := runs_spec (P.take c) (inT c)
  obtain ⟨yf, yp, yl⟩ := runs_spec (P.drop c) (inD c)
  obtain ⟨gf, gp, gl⟩ := runs_spec P hin
  have lt : (P.take c).length = c := by rw [List.length_take]; omega
  have ld : (P.drop c).length = P.length - c := List.length_drop
  have s1 := slice_f hM a hax hok 0 c (by omega) (by omega)
  rw [List.drop_zero, ← hP] at s1
  have s2 := slice_f hM a hax hok c (P.length - c) (by omega) (by omega)
  rw [← hP, List.take_of_length_le (by rw [ld]; exact Nat.le_refl _)] at s2
  have s3 := slice_f hM (runs (P.drop c)) (by omega) yf.ok 0 n (by omega) (by omega)
  rw [List.drop_zero, yp] at s3
  have s4 := slice_f hM a hax hok c n (by omega) (by omega)
  rw [← hP] at s4
  refine s1.bind fun _ e => ?_
  subst e
  refine s2.bind fun _ e => ?_
  subst e
  refine s2.bind fun _ e => ?_
  subst e
  refine s3.bind fun _ e => ?_
  subst e
  refine fact.bind fun _ e => ?_
  subst e
  simp only [if_true]
  have c1 := count_f hM (runs (P.take c)) (by omega) (by rw [xp]; omega) xf.ok
  rw [xp, lt] at c1
  refine c1.bind fun _ e => ?_
  subst e
  simp only [if_true]
  have c2 := count_f hM (runs (P.drop c)) (by omega) (by rw [yp]; omega) yf.ok
  rw [yp, ld] at c2
  refine c2.bind fun _ e => ?_
  subst e
  simp only [if_true]
  have hfl : [runs (P.take c), runs (P.drop c)].flatten = runs (P.take c) ++ runs (P.drop c) := by simp
  refine (cat_f [runs (P.take c), runs (P.drop c)] (by simp) (by rw [hfl, List.length_append]; omega)).bind fun _ e => ?_
  subst e
  rw [hfl]
  have g1 := glue_f hM (runs (P.take c) ++ runs (P.drop c)) (by rw [List.length_append]; omega) (fun s hs => by
    rcases List.mem_append.1 hs with hs | hs
    · exact xf.ok s hs
    · exact yf.ok s hs)
  rw [pos_append, xp, yp, List.take_append_drop] at g1
  refine g1.bind fun _ e => ?_
  subst e
  have g2 := glue_f hM a (by omega) hok
  rw [← hP] at g2
  refine g2.bind fun _ e => ?_
  subst e
  refine (equal_f (runs P) (by omega)).bind fun _ e => ?_
  subst e
  simp only [if_true]
  refine s4.bind fun _ e => ?_
  subst e
  obtain ⟨zf, zp, zl⟩ := runs_spec ((P.drop c).take n) (fun p hp => inD c p (List.mem_of_mem_take hp))
  have lz : ((P.drop c).take n).length ≤ 2400 := by rw [List.length_take]; omega
  refine (equal_f (runs ((P.drop c).take n)) (by omega)).bind fun _ e => ?_
  subst e
  simp only [if_true]
  refine g2.bind fun _ e => ?_
  subst e
  have c3 := count_f hM (runs P) (by omega) (by rw [gp]; omega) gf.ok
  rw [gp] at c3
  refine c3.bind fun _ e => ?_
  subst e
  exact Gets.ret (beq_iff_eq.mpr rfl)
end CutsP
theorem SpanCuts : wrackkeep1_SpanCuts.Pure := by
  intro l0 a1 a2 _ _ _ _ _
  obtain ⟨k, r, h1, h2⟩ := (CutsP.law_f l0 a1 a2).get
  exact ⟨k, by rw [h1, h2]⟩
end Go.Proofs.Ytnlmdmpfgdiipaa.Pure
