/- Spans as rows of positions: what wrackmake.Spans, span.Count, slices.Equal, slices.Concat come to. (SpanAlgebra: the law whose text this is; 6: its last text; 53: a span's type; 30, 32, 82: Equal, Concat, Grow.) -/
import Derived.Test.YtnlmdmpfgdiipaaPSpanAlgebrax6
import Derived.Test.YtnlmdmpfgdiipaaPlib
namespace Go.Proofs.Ytnlmdmpfgdiipaa.Pure.SpanSpanAlgebra
set_option linter.unusedVariables false
set_option linter.unusedSimpArgs false
open Go.RowKit Go.Proofs.Ytnlmdmpfgdiipaa.PSpanAlgebra Go.Proofs.YtnlmdmpfgdiipaaW.PrintWords Go.Proofs.YtnlmdmpfgdiipaaW.PrintLast Go.Proofs.YtnlmdmpfgdiipaaW.PrintMore Go.Proofs.YtnlmdmpfgdiipaaW.PrintMine Go.Proofs.YtnlmdmpfgdiipaaW.Plib
theorem w1 (q n : Nat) (h : q < n) (hn : n ≤ 100000) : wrap64 ((q : Int) + 1) = ((q + 1 : Nat) : Int) := by rw [w64] <;> omega
theorem below_f {a n : Int} (hn : 0 < n) (hn2 : n ≤ 9223372036854775807) : wrackmake_Below.f a n = some (a % n) := by
  unfold wrackmake_Below.f
  rw [if_neg (by omega), ← below_val hn hn2]
  split <;> rfl
theorem next_f (l : List Int) {n : Int} (hn : 0 < n) (hn2 : n ≤ 9223372036854775807) : ∃ v l', wrackmake_Stream_Next.f l n = some (v, l') ∧ 0 ≤ v ∧ v < n := by
  unfold wrackmake_Stream_Next.f
  by_cases h : (l.length : Int) = 0
  · exact ⟨0, l, by rw [if_pos h], by omega, hn⟩
  · refine ⟨rd l 0 % n, l.drop 1, ?_, Int.emod_nonneg _ (by omega), Int.emod_lt_of_pos _ hn⟩
    rw [if_neg h, if_neg (by omega), below_f hn hn2, Option.bind_some]
theorem rdn (xs : List S53) (j : Nat) (h : j < xs.length) : rd_T53 xs (j : Int) = xs[j] := by
  simp only [rd_T53, Int.toNat_natCast]
  rw [List.getD_eq_getElem?_getD, List.getElem?_eq_getElem h]
  rfl
/-- A span that is right, within M bytes. -/
def Ok (M : Int) (s : S53) : Prop := 0 ≤ s.f0 ∧ 0 ≤ s.f1 ∧ s.f0 + s.f1 ≤ M
theorem good_f {M : Int} (hM : M ≤ 65536) {s : S53} (h : Ok M s) : span_good.f s.f0 s.f1 = some (decide (s.f1 > 0)) := by
  obtain ⟨h1, h2, h3⟩ := h
  have e : wrap64 (65536 - s.f1) = 65536 - s.f1 := by rw [w64] <;> omega
  unfold span_good.f span_Check.f
  rw [e, if_neg (by omega), if_neg (by omega), if_neg (by omega), if_neg (by omega), Option.bind_some, if_pos rfl]
theorem end_f {M : Int} (hM : M ≤ 65536) {s : S53} (h : Ok M s) : span_end.f s.f0 s.f1 = some (s.f0 + s.f1) := by
  obtain ⟨h1, h2, h3⟩ := h
  unfold span_end.f
  rw [w64] <;> omega

/-! ## Positions -/
def posS (s : S53) : List Int := (List.range s.f1.toNat).map fun i : Nat => s.f0 + (i : Int)
def pos (l : List S53) : List Int := l.flatMap posS
theorem posS_length (s : S53) : (posS s).length = s.f1.toNat := by rw [posS, List.length_map, List.length_range]
theorem pos_cons (s : S53) (l : List S53) : pos (s :: l) = posS s ++ pos l := by rw [pos, List.flatMap_cons]; rfl
theorem pos_append (a b : List S53) : pos (a ++ b) = pos a ++ pos b := by simp [pos]
theorem posS_none {s : S53} (h : ¬ s.f1 > 0) : posS s = [] := by
  have : s.f1.toNat = 0 := by omega
  rw [posS, this]
  rfl
theorem mem_posS {s : S53} {p : Int} (h : 0 ≤ s.f1) : p ∈ posS s ↔ s.f0 ≤ p ∧ p < s.f0 + s.f1 := by
  simp only [posS, List.mem_map, List.mem_range]
  constructor
  · rintro ⟨i, hi, rfl⟩; omega
  · intro ⟨a, b⟩; exact ⟨(p - s.f0).toNat, by omega, by omega⟩
theorem posS_snoc (o n : Int) (hn : 0 ≤ n) : posS ⟨o, n + 1⟩ = posS ⟨o, n⟩ ++ [o + n] := by
  have e : (n + 1).toNat = n.toNat + 1 := by omega
  simp only [posS]
  rw [e, List.range_succ, List.map_append]
  congr 1
  simp
  omega
/-- A span joined to those before it, if it touches the last one. -/
def glue (acc : List S53) (s : S53) : List S53 := match acc.getLast? with
  | some t => if t.f0 + t.f1 = s.f0 then acc.dropLast ++ [⟨t.f0, t.f1 + s.f1⟩] else acc ++ [s]
  | none => [s]
theorem glue_nil (s : S53) : glue [] s = [s] := rfl
theorem glue_snoc (a : List S53) (t s : S53) : glue (a ++ [t]) s = if t.f0 + t.f1 = s.f0 then a ++ [⟨t.f0, t.f1 + s.f1⟩] else a ++ [t] ++ [s] := by
  unfold glue
  rw [List.getLast?_concat, List.dropLast_concat]
def add (acc : List S53) (p : Int) : List S53 := glue acc ⟨p, 1⟩
/-- The spans of a row of positions. -/
def runs (ps : List Int) : List S53 := ps.foldl add []
theorem glue_add (acc : List S53) (o n : Int) (hn : 0 < n) : add (glue acc ⟨o, n⟩) (o + n) = glue acc ⟨o, n + 1⟩ := by
  unfold add
  rcases List.eq_nil_or_concat acc with rfl | ⟨a, t, rfl⟩
  · rw [glue_nil, glue_nil, ← List.nil_append [(⟨o, n⟩ : S53)], glue_snoc, if_pos rfl]; rfl
  · rw [List.concat_eq_append, glue_snoc, glue_snoc]
    by_cases c : t.f0 + t.f1 = o
    · rw [if_pos c, if_pos c, glue_snoc, if_pos (by show t.f0 + (t.f1 + n) = o + n; omega)]
      show a ++ [(⟨t.f0, t.f1 + n + 1⟩ : S53)] = _
      rw [Int.add_assoc]
    · rw [if_neg c, if_neg c, glue_snoc, if_pos rfl]
theorem glue_pos (acc : List S53) (o : Int) : ∀ n : Nat, 0 < n → glue acc ⟨o, (n : Int)⟩ = (posS ⟨o, (n : Int)⟩).foldl add acc
  | 0, h => absurd h (by omega)
  | 1, _ => by
    have : posS ⟨o, ((1 : Nat) : Int)⟩ = [o] := by simp [posS]
    rw [this]
    rfl
  | n + 2, _ => by
    have e : ((n + 2 : Nat) : Int) = ((n + 1 : Nat) : Int) + 1 := by omega
    rw [e, posS_snoc o _ (by omega), List.foldl_append, ← glue_pos acc o (n + 1) (by omega), ← glue_add acc o _ (by omega)]
    rfl
def step (acc : List S53) (s : S53) : List S53 := if s.f1 > 0 then glue acc s else acc
theorem step_pos (acc : List S53) (s : S53) : step acc s = (posS s).foldl add acc := by
  unfold step
  by_cases c : s.f1 > 0
  · rw [if_pos c]
    obtain ⟨o, m⟩ := s
    obtain ⟨n, rfl⟩ : ∃ n : Nat, m = (n : Int) := ⟨m.toNat, by simp at c; omega⟩
    exact glue_pos acc o n (by simp at c; omega)
  · rw [if_neg c, posS_none c]; rfl
theorem steps_pos : ∀ (l acc : List S53), l.foldl step acc = (pos l).foldl add acc
  | [], acc => rfl
  | s :: l, acc => by rw [List.foldl_cons, steps_pos l, step_pos, pos_cons, List.foldl_append]
theorem steps_runs (l : List S53) : l.foldl step [] = runs (pos l) := steps_pos l []
/-- All right, not empty. -/
def Full (M : Int) (l : List S53) : Prop := ∀ s ∈ l, 0 ≤ s.f0 ∧ 0 < s.f1 ∧ s.f0 + s.f1 ≤ M
theorem Full.ok {M : Int} {l : List S53} (h : Full M l) : ∀ s ∈ l, Ok M s := fun s hs => by have := h s hs; exact ⟨this.1, by omega, this.2.2⟩
theorem glue_full {M : Int} {acc : List S53} {s : S53} (h : Full M acc) (hs : 0 ≤ s.f0 ∧ 0 < s.f1 ∧ s.f0 + s.f1 ≤ M) : Full M (glue acc s) ∧ (glue acc s).length ≤ acc.length + 1 := by
  rcases List.eq_nil_or_concat acc with rfl | ⟨a, t, rfl⟩
  · rw [glue_nil]
    exact ⟨fun q hq => by rw [List.mem_singleton.1 hq]; exact hs, by simp⟩
  · rw [List.concat_eq_append] at h ⊢
    rw [glue_snoc]
    have ht := h t (by simp)
    split
    · rename_i c
      refine ⟨fun q hq => ?_, by simp⟩
      rcases List.mem_append.1 hq with hq | hq
      · exact h q (by simp [hq])
      · rw [List.mem_singleton.1 hq]
        exact ⟨ht.1, by show 0 < t.f1 + s.f1; omega, by show t.f0 + (t.f1 + s.f1) ≤ M; omega⟩
    · refine ⟨fun q hq => ?_, by simp⟩
      rcases List.mem_append.1 hq with hq | hq
      · exact h q hq
      · rw [List.mem_singleton.1 hq]; exact hs
theorem add_pos' {M : Int} {acc : List S53} (h : Full M acc) (p : Int) : pos (add acc p) = pos acc ++ [p] := by
  unfold add
  rcases List.eq_nil_or_concat acc with rfl | ⟨a, t, rfl⟩
  · rw [glue_nil]; simp [pos, posS]
  · rw [List.concat_eq_append] at h ⊢
    rw [glue_snoc]
    have ht := h t (by simp)
    split
    · rename_i c
      have c' : t.f0 + t.f1 = p := c
      rw [pos_append, pos_append, List.append_assoc]
      congr 1
      have := posS_snoc t.f0 t.f1 (by omega)
      simp only [pos, List.flatMap_cons, List.flatMap_nil, List.append_nil]
      rw [this, c']
    · rw [pos_append]
      congr 1
      simp [pos, posS]
theorem runs_full {M : Int} : ∀ (ps : List Int) (acc : List S53), (∀ p ∈ ps, 0 ≤ p ∧ p < M) → Full M acc → Full M (ps.foldl add acc) ∧ pos (ps.foldl add acc) = pos acc ++ ps ∧ (ps.foldl add acc).length ≤ acc.length + ps.length
  | [], acc, _, h => ⟨h, by simp, by simp⟩
  | p :: ps, acc, hp, h => by
    have hp0 := hp p List.mem_cons_self
    obtain ⟨g1, g2⟩ := glue_full (s := ⟨p, 1⟩) h ⟨hp0.1, by show (0 : Int) < 1; omega, by show p + 1 ≤ M; omega⟩
    obtain ⟨i1, i2, i3⟩ := runs_full ps (add acc p) (fun q hq => hp q (List.mem_cons_of_mem _ hq)) g1
    rw [List.foldl_cons]
    refine ⟨i1, by rw [i2, add_pos' h, List.append_assoc]; rfl, ?_⟩
    have : (add acc p).length ≤ acc.length + 1 := g2
    rw [List.length_cons]
    omega
theorem runs_spec {M : Int} (ps : List Int) (h : ∀ p ∈ ps, 0 ≤ p ∧ p < M) : Full M (runs ps) ∧ pos (runs ps) = ps ∧ (runs ps).length ≤ ps.length := by
  obtain ⟨a, b, c⟩ := runs_full ps [] h (fun s hs => by simp at hs)
  exact ⟨a, by rw [runs, b]; rfl, by simpa [runs] using c⟩
theorem pos_in {M : Int} {l : List S53} (h : ∀ s ∈ l, Ok M s) : ∀ p ∈ pos l, 0 ≤ p ∧ p < M := by
  intro p hp
  obtain ⟨s, hs, hp⟩ := List.mem_flatMap.1 hp
  have := h s hs
  have := (mem_posS this.2.1).1 hp
  unfold Ok at *
  omega
theorem pos_len {M : Nat} : ∀ {l : List S53}, (∀ s ∈ l, Ok (M : Int) s) → (pos l).length ≤ l.length * M
  | [], _ => by simp [pos]
  | s :: l, h => by
    have h1 := h s List.mem_cons_self
    have h2 := pos_len (l := l) (fun q hq => h q (List.mem_cons_of_mem _ hq))
    rw [pos_cons, List.length_append, posS_length, List.length_cons, Nat.add_mul, Nat.one_mul]
    unfold Ok at h1
    omega

/-! ## Count -/
theorem count_l0 {M : Int} (hM : M ≤ 65536) (l : List S53) (hl : l.length ≤ 5000) (hp : (pos l).length ≤ 100000) (h : ∀ s ∈ l, Ok M s) (d : Nat) : ∀ (j c : Nat), j + d = l.length → c + (pos (l.drop j)).length ≤ 200000 → Gets (fun k => span_Count.l0 k (c : Int) l (l.length : Int) (j : Int)) (· = ((c + (pos (l.drop j)).length : Nat) : Int)) := by
  induction d with
  | zero =>
    intro j c hj hc
    refine Gets.up ?_
    simp only [span_Count.l0, if_neg (show ¬ (j : Int) < (l.length : Int) by omega)]
    refine Gets.ret ?_
    rw [List.drop_of_length_le (by omega)]
    simp [pos]
  | succ d ih =>
    intro j c hj hc
    have hj2 : j < l.length := by omega
    have hok := h l[j] (List.getElem_mem _)
    have hg := good_f hM hok
    have hd : pos (l.drop j) = posS l[j] ++ pos (l.drop (j + 1)) := by rw [List.drop_eq_getElem_cons hj2, pos_cons]
    have hlen := posS_length l[j]
    rw [hd, List.length_append, hlen] at hc ⊢
    have q1 : (j : Int) < (l.length : Int) := by omega
    have q2 : (0 : Int) ≤ (j : Int) := by omega
    have hr := rdn l j hj2
    have hw := w1 j l.length hj2 (by omega)
    obtain ⟨h1, h2, h3⟩ := hok
    generalize l[j] = s at *
    refine Gets.up ?_
    simp only [span_Count.l0, hr, hg, hw, Option.bind_some]
    simp -implicitDefEqProofs only [if_pos q1, if_pos q2]
    by_cases c1 : s.f1 > 0
    · have e : wrap64 ((c : Int) + s.f1) = ((c + s.f1.toNat : Nat) : Int) := by rw [w64] <;> omega
      rw [decide_eq_true c1, e]
      simp only [if_true]
      have key := ih (j + 1) (c + s.f1.toNat) (by omega) (by omega)
      rwa [Nat.add_assoc] at key
    · rw [decide_eq_false c1]
      simp only [Bool.false_eq_true, if_false]
      have e0 : s.f1.toNat = 0 := by omega
      rw [e0] at hc ⊢
      have key := ih (j + 1) c (by omega) (by omega)
      rwa [Nat.zero_add]
theorem count_f {M : Int} (hM : M ≤ 65536) (l : List S53) (hl : l.length ≤ 5000) (hp : (pos l).length ≤ 100000) (h : ∀ s ∈ l, Ok M s) : Gets (fun k => span_Count.f k l) (· = ((pos l).length : Int)) := by
  have := count_l0 hM l hl hp h l.length 0 0 (by omega) (by simp; omega)
  simpa [span_Count.f] using this

/-! ## Equal, Spans -/
theorem equal_l0 (l : List S53) (hl : l.length ≤ 5000) (d : Nat) : ∀ j : Nat, j + d = l.length → Gets (fun k => api_Span_30.l0 k l l (l.length : Int) (j : Int)) (· = true) := by
  induction d with
  | zero =>
    intro j hj
    refine Gets.up ?_
    simp only [api_Span_30.l0, if_neg (show ¬ (j : Int) < (l.length : Int) by omega)]
    exact Gets.ret rfl
  | succ d ih =>
    intro j hj
    have q1 : (j : Int) < (l.length : Int) := by omega
    have q2 : (0 : Int) ≤ (j : Int) := by omega
    have hw := w1 j l.length (by omega) (by omega)
    have key := ih (j + 1) (by omega)
    refine Gets.up ?_
    simp only [api_Span_30.l0, hw, beq_self_eq_true, Bool.not_true, Bool.or_self, Bool.false_eq_true, if_false]
    simp -implicitDefEqProofs only [if_pos q1, if_pos q2]
    exact key
theorem equal_f (l : List S53) (hl : l.length ≤ 5000) : Gets (fun k => api_Span_30.f k l l) (· = true) := by
  simp only [api_Span_30.f, if_true]
  exact equal_l0 l hl l.length 0 (by omega)
theorem spans_l0 (m : Nat) (hm : m ≤ 100) (d : Nat) : ∀ (i : Nat) (out : List S53) (s : List Int), i + d = m → out.length = i → (∀ q ∈ out, Ok 300 q) → Gets (fun k => wrackmake_Spans.l0 k 300 out (m : Int) (i : Int) s) (fun r => r.length = m ∧ ∀ q ∈ r, Ok 300 q) := by
  induction d with
  | zero =>
    intro i out s hi ho hok
    refine Gets.up ?_
    simp only [wrackmake_Spans.l0, if_neg (show ¬ (i : Int) < (m : Int) by omega)]
    exact Gets.ret ⟨by omega, hok⟩
  | succ d ih =>
    intro i out s hi ho hok
    obtain ⟨v1, s1, hv1, a1, b1⟩ := next_f s (n := 301) (by omega) (by omega)
    have e0 : wrap64 ((300 : Int) + 1) = 301 := by rw [w64] <;> omega
    have e1 : wrap64 (300 - v1) = 300 - v1 := by rw [w64] <;> omega
    obtain ⟨z, hz⟩ : ∃ z, mn (300 - v1) 40 = z := ⟨_, rfl⟩
    have hz2 : z = if (40 : Int) < 300 - v1 then 40 else 300 - v1 := by rw [← hz]; rfl
    have hzb : 0 ≤ z ∧ z ≤ 300 - v1 ∧ z ≤ 40 := by rw [hz2]; split <;> omega
    have e2 : wrap64 (z + 1) = z + 1 := by rw [w64] <;> omega
    obtain ⟨v2, s2, hv2, a2, b2⟩ := next_f s1 (n := z + 1) (by omega) (by omega)
    have q1 : (i : Int) < (m : Int) := by omega
    have q2 : out.length < 8796093022208 := by omega
    have hw := w1 i m (by omega) (by omega)
    refine Gets.up ?_
    simp -implicitDefEqProofs only [wrackmake_Spans.l0, if_pos q1, e0, hv1, Option.bind_some, e1, hz, e2, hv2, if_pos q2, hw]
    clear e0 e1 e2 hz hz2 hv1 hv2 hw
    refine ih (i + 1) _ s2 (by omega) (by simp; omega) (fun q hq => ?_)
    rcases List.mem_append.1 hq with hq | hq
    · exact hok q hq
    · rw [List.mem_singleton.1 hq]
      exact ⟨a1, a2, by show v1 + v2 ≤ 300; omega⟩
theorem spans_f (l : List Int) : Gets (fun k => wrackmake_Spans.f k l 300 8) (fun r => r.length ≤ 8 ∧ ∀ q ∈ r, Ok 300 q) := by
  obtain ⟨v, s, hv, a, b⟩ := next_f l (n := 9) (by omega) (by omega)
  have e : (mn (mx 0 8) 100) + 1 = (9 : Int) := by decide
  obtain ⟨m, rfl⟩ : ∃ m : Nat, v = (m : Int) := ⟨v.toNat, by omega⟩
  simp -implicitDefEqProofs only [wrackmake_Spans.f, e, hv, Option.bind_some]
  exact (spans_l0 m (by omega) m 0 [] s (by omega) rfl (fun q hq => by simp at hq)).imp fun r hr => ⟨by omega, hr.2⟩

/-! ## Concat -/
theorem rd_L2n (xs : List (List S53)) (j : Nat) : rd_L2 xs (j : Int) = xs.getD j [] := by simp only [rd_L2, Int.toNat_natCast]
theorem cat_l1 (xs : List (List S53)) (hx : xs.length ≤ 4000) (d : Nat) : ∀ (j : Nat) (out : List S53), j + d = xs.length → out.length + (xs.drop j).flatten.length ≤ 100000 → Gets (fun k => api_Span_32.l1 k out xs (xs.length : Int) (j : Int)) (· = out ++ (xs.drop j).flatten) := by
  induction d with
  | zero =>
    intro j out hj hb
    refine Gets.up ?_
    simp only [api_Span_32.l1, if_neg (show ¬ (j : Int) < (xs.length : Int) by omega)]
    refine Gets.ret ?_
    rw [List.drop_of_length_le (by omega), List.flatten_nil, List.append_nil]
  | succ d ih =>
    intro j out hj hb
    have hj2 : j < xs.length := by omega
    have hg : xs.getD j [] = xs[j] := by rw [List.getD_eq_getElem?_getD, List.getElem?_eq_getElem hj2]; rfl
    have hd : (xs.drop j).flatten = xs[j] ++ (xs.drop (j + 1)).flatten := by rw [List.drop_eq_getElem_cons hj2, List.flatten_cons]
    rw [hd, List.length_append] at hb
    have q1 : (j : Int) < (xs.length : Int) := by omega
    have q2 : (0 : Int) ≤ (j : Int) := by omega
    have q3 : out.length + xs[j].length < 8796093022208 := by omega
    have key := ih (j + 1) (out ++ xs[j]) (by omega) (by rw [List.length_append]; omega)
    rw [hd, ← List.append_assoc]
    have hw := w1 j xs.length hj2 (by omega)
    refine Gets.up ?_
    simp only [api_Span_32.l1, hw, rd_L2n, hg]
    simp -implicitDefEqProofs only [if_pos q1, if_pos q2, if_pos q3]
    exact key
theorem cat_l0 (xs : List (List S53)) (hx : xs.length ≤ 4000) (hxb : xs.flatten.length ≤ 100000) (d : Nat) : ∀ (j n : Nat), j + d = xs.length → n + (xs.drop j).flatten.length ≤ 100000 → Gets (fun k => api_Span_32.l0 k xs (n : Int) xs (xs.length : Int) (j : Int)) (· = xs.flatten) := by
  induction d with
  | zero =>
    intro j n hj hb
    have q1 : ((([] : List S53)).length : Int) = 0 := rfl
    have q2 : (0 : Int) ≤ (n : Int) := by omega
    have q3 : n * 16 ≤ 140737488355328 := by omega
    have hl0 : ¬ (j : Int) < (xs.length : Int) := by omega
    refine Gets.up ?_
    simp only [api_Span_32.l0, api_Span_82.f, Int.toNat_natCast]
    simp -implicitDefEqProofs only [if_neg hl0, if_pos q1, if_pos q2, if_pos q3, Option.bind_some]
    have := cat_l1 xs hx xs.length 0 [] (by omega) (by simpa using hxb)
    simpa using this
  | succ d ih =>
    intro j n hj hb
    have hj2 : j < xs.length := by omega
    have hg : xs.getD j [] = xs[j] := by rw [List.getD_eq_getElem?_getD, List.getElem?_eq_getElem hj2]; rfl
    have hd : (xs.drop j).flatten = xs[j] ++ (xs.drop (j + 1)).flatten := by rw [List.drop_eq_getElem_cons hj2, List.flatten_cons]
    rw [hd, List.length_append] at hb
    have q1 : (j : Int) < (xs.length : Int) := by omega
    have q2 : (0 : Int) ≤ (j : Int) := by omega
    have e : wrap64 ((n : Int) + (xs[j].length : Int)) = ((n + xs[j].length : Nat) : Int) := by rw [w64] <;> omega
    have q3 : ¬ ((n + xs[j].length : Nat) : Int) < 0 := by omega
    have key := ih (j + 1) (n + xs[j].length) (by omega) (by omega)
    have hw := w1 j xs.length hj2 (by omega)
    refine Gets.up ?_
    simp only [api_Span_32.l0, hw, rd_L2n, hg, e]
    simp -implicitDefEqProofs only [if_pos q1, if_pos q2, if_neg q3]
    exact key
theorem cat_f (xs : List (List S53)) (hx : xs.length ≤ 4000) (hxb : xs.flatten.length ≤ 100000) : Gets (fun k => api_Span_32.f k xs) (· = xs.flatten) := by
  unfold api_Span_32.f
  exact cat_l0 xs hx hxb xs.length 0 0 (by omega) (by simpa using hxb)

end Go.Proofs.Ytnlmdmpfgdiipaa.Pure.SpanSpanAlgebra
