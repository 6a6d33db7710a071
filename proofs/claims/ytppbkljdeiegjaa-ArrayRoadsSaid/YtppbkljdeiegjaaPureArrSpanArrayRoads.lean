/- Spans as rows of positions: what span.Count, span.Glue, span.Slice come to (PureSpan's first part, at a span's type 42). (ArrayRoads: the law whose text this is; 11: its last text; 53: a span's type; 30, 32, 82: Equal, Concat, Grow.) -/
import Derived.Test.YtppbkljdeiegjaaPArrayRoadsx11
import Derived.Test.YtppbkljdeiegjaaPlib
namespace Go.Proofs.Ytppbkljdeiegjaa.Pure.SpanArrayRoads
set_option linter.unusedVariables false
set_option linter.unusedSimpArgs false
open Go.RowKit Go.Proofs.Ytppbkljdeiegjaa.PArrayRoads Go.Proofs.YtppbkljdeiegjaaW.PrintWords Go.Proofs.YtppbkljdeiegjaaW.PrintLast Go.Proofs.YtppbkljdeiegjaaW.PrintMore Go.Proofs.YtppbkljdeiegjaaW.PrintMine Go.Proofs.YtppbkljdeiegjaaW.Plib
theorem w1 (q n : Nat) (h : q < n) (hn : n ≤ 100000) : wrap64 ((q : Int) + 1) = ((q + 1 : Nat) : Int) := by rw [w64] <;> omega
theorem below_f {a n : Int} (hn : 0 < n) (hn2 : n ≤ 9223372036854775807) : wrackmake_Below.f a n = some (a % n) := by
  unfold wrackmake_Below.f
  rw [if_neg (by omega), ← below_val hn hn2]
  split <;> rfl
theorem next_f (l : List Int) {n : Int} (hn : 0 < n) (hn2 : n ≤ 9223372036854775807) : ∃ v l', wrackmake_Stream_Next.f l n = some (v, l') ∧ 0 ≤ v ∧ v < n := by
  unfold wrackmake_Stream_Next.f
  by_cases h : (l.length : Int) = 0
  · exact ⟨0, l, by rw [if_pos h], by omega, hn⟩
  · refine ⟨rd l 0 % n, l.drop 1, ?_, Int.emod_nonneg _ (by omega), Int.emod_lt_of_pos _ hn⟩
    rw [if_neg h, if_neg (by omega), below_f hn hn2, Option.bind_some]
theorem rdn (xs : List S42) (j : Nat) (h : j < xs.length) : rd_T42 xs (j : Int) = xs[j] := by
  simp only [rd_T42, Int.toNat_natCast]
  rw [List.getD_eq_getElem?_getD, List.getElem?_eq_getElem h]
  rfl
/-- A span that is right, within M bytes. -/
def Ok (M : Int) (s : S42) : Prop := 0 ≤ s.f0 ∧ 0 ≤ s.f1 ∧ s.f0 + s.f1 ≤ M
theorem good_f {M : Int} (hM : M ≤ 65536) {s : S42} (h : Ok M s) : span_good.f s.f0 s.f1 = some (decide (s.f1 > 0)) := by
  obtain ⟨h1, h2, h3⟩ := h
  have e : wrap64 (65536 - s.f1) = 65536 - s.f1 := by rw [w64] <;> omega
  unfold span_good.f span_Check.f
  rw [e, if_neg (by omega), if_neg (by omega), if_neg (by omega), if_neg (by omega), Option.bind_some, if_pos rfl]
theorem end_f {M : Int} (hM : M ≤ 65536) {s : S42} (h : Ok M s) : span_end.f s.f0 s.f1 = some (s.f0 + s.f1) := by
  obtain ⟨h1, h2, h3⟩ := h
  unfold span_end.f
  rw [w64] <;> omega

/-! ## Positions -/
def posS (s : S42) : List Int := (List.range s.f1.toNat).map fun i : Nat => s.f0 + (i : Int)
def pos (l : List S42) : List Int := l.flatMap posS
theorem posS_length (s : S42) : (posS s).length = s.f1.toNat := by rw [posS, List.length_map, List.length_range]
theorem pos_cons (s : S42) (l : List S42) : pos (s :: l) = posS s ++ pos l := by rw [pos, List.flatMap_cons]; rfl
theorem pos_append (a b : List S42) : pos (a ++ b) = pos a ++ pos b := by simp [pos]
theorem posS_none {s : S42} (h : ¬ s.f1 > 0) : posS s = [] := by
  have : s.f1.toNat = 0 := by omega
  rw [posS, this]
  rfl
theorem mem_posS {s : S42} {p : Int} (h : 0 ≤ s.f1) : p ∈ posS s ↔ s.f0 ≤ p ∧ p < s.f0 + s.f1 := by
  simp only [posS, List.mem_map, List.mem_range]
  constructor
  · rintro ⟨i, hi, rfl⟩; omega
  · intro ⟨a, b⟩; exact ⟨(p - s.f0).toNat, by omega, by omega⟩
theorem posS_snoc (o n : Int) (hn : 0 ≤ n) : posS ⟨o, n + 1⟩ = posS ⟨o, n⟩ ++ [o + n] := by
  have e : (n + 1).toNat = n.toNat + 1 := by omega
  simp only [posS]
  rw [e, List.range_succ, List.map_append]
  congr 1
  simp
  omega
/-- A span joined to those before it, if it touches the last one. -/
def glue (acc : List S42) (s : S42) : List S42 := match acc.getLast? with
  | some t => if t.f0 + t.f1 = s.f0 then acc.dropLast ++ [⟨t.f0, t.f1 + s.f1⟩] else acc ++ [s]
  | none => [s]
theorem glue_nil (s : S42) : glue [] s = [s] := rfl
theorem glue_snoc (a : List S42) (t s : S42) : glue (a ++ [t]) s = if t.f0 + t.f1 = s.f0 then a ++ [⟨t.f0, t.f1 + s.f1⟩] else a ++ [t] ++ [s] := by
  unfold glue
  rw [List.getLast?_concat, List.dropLast_concat]
def add (acc : List S42) (p : Int) : List S42 := glue acc ⟨p, 1⟩
/-- The spans of a row of positions. -/
def runs (ps : List Int) : List S42 := ps.foldl add []
theorem glue_add (acc : List S42) (o n : Int) (hn : 0 < n) : add (glue acc ⟨o, n⟩) (o + n) = glue acc ⟨o, n + 1⟩ := by
  unfold add
  rcases List.eq_nil_or_concat acc with rfl | ⟨a, t, rfl⟩
  · rw [glue_nil, glue_nil, ← List.nil_append [(⟨o, n⟩ : S42)], glue_snoc, if_pos rfl]; rfl
  · rw [List.concat_eq_append, glue_snoc, glue_snoc]
    by_cases c : t.f0 + t.f1 = o
    · rw [if_pos c, if_pos c, glue_snoc, if_pos (by show t.f0 + (t.f1 + n) = o + n; omega)]
      show a ++ [(⟨t.f0, t.f1 + n + 1⟩ : S42)] = _
      rw [Int.add_assoc]
    · rw [if_neg c, if_neg c, glue_snoc, if_pos rfl]
theorem glue_pos (acc : List S42) (o : Int) : ∀ n : Nat, 0 < n → glue acc ⟨o, (n : Int)⟩ = (posS ⟨o, (n : Int)⟩).foldl add acc
  | 0, h => absurd h (by omega)
  | 1, _ => by
    have : posS ⟨o, ((1 : Nat) : Int)⟩ = [o] := by simp [posS]
    rw [this]
    rfl
  | n + 2, _ => by
    have e : ((n + 2 : Nat) : Int) = ((n + 1 : Nat) : Int) + 1 := by omega
    rw [e, posS_snoc o _ (by omega), List.foldl_append, ← glue_pos acc o (n + 1) (by omega), ← glue_add acc o _ (by omega)]
    rfl
def step (acc : List S42) (s : S42) : List S42 := if s.f1 > 0 then glue acc s else acc
theorem step_pos (acc : List S42) (s : S42) : step acc s = (posS s).foldl add acc := by
  unfold step
  by_cases c : s.f1 > 0
  · rw [if_pos c]
    obtain ⟨o, m⟩ := s
    obtain ⟨n, rfl⟩ : ∃ n : Nat, m = (n : Int) := ⟨m.toNat, by simp at c; omega⟩
    exact glue_pos acc o n (by simp at c; omega)
  · rw [if_neg c, posS_none c]; rfl
theorem steps_pos : ∀ (l acc : List S42), l.foldl step acc = (pos l).foldl add acc
  | [], acc => rfl
  | s :: l, acc => by rw [List.foldl_cons, steps_pos l, step_pos, pos_cons, List.foldl_append]
theorem steps_runs (l : List S42) : l.foldl step [] = runs (pos l) := steps_pos l []
/-- All right, not empty. -/
def Full (M : Int) (l : List S42) : Prop := ∀ s ∈ l, 0 ≤ s.f0 ∧ 0 < s.f1 ∧ s.f0 + s.f1 ≤ M
theorem Full.ok {M : Int} {l : List S42} (h : Full M l) : ∀ s ∈ l, Ok M s := fun s hs => by have := h s hs; exact ⟨this.1, by omega, this.2.2⟩
theorem glue_full {M : Int} {acc : List S42} {s : S42} (h : Full M acc) (hs : 0 ≤ s.f0 ∧ 0 < s.f1 ∧ s.f0 + s.f1 ≤ M) : Full M (glue acc s) ∧ (glue acc s).length ≤ acc.length + 1 := by
  rcases List.eq_nil_or_concat acc with rfl | ⟨a, t, rfl⟩
  · rw [glue_nil]
    exact ⟨fun q hq => by rw [List.mem_singleton.1 hq]; exact hs, by simp⟩
  · rw [List.concat_eq_append] at h ⊢
    rw [glue_snoc]
    have ht := h t (by simp)
    split
    · rename_i c
      refine ⟨fun q hq => ?_, by simp⟩
      rcases List.mem_append.1 hq with hq | hq
      · exact h q (by simp [hq])
      · rw [List.mem_singleton.1 hq]
        exact ⟨ht.1, by show 0 < t.f1 + s.f1; omega, by show t.f0 + (t.f1 + s.f1) ≤ M; omega⟩
    · refine ⟨fun q hq => ?_, by simp⟩
      rcases List.mem_append.1 hq with hq | hq
      · exact h q hq
      · rw [List.mem_singleton.1 hq]; exact hs
theorem add_pos' {M : Int} {acc : List S42} (h : Full M acc) (p : Int) : pos (add acc p) = pos acc ++ [p] := by
  unfold add
  rcases List.eq_nil_or_concat acc with rfl | ⟨a, t, rfl⟩
  · rw [glue_nil]; simp [pos, posS]
  · rw [List.concat_eq_append] at h ⊢
    rw [glue_snoc]
    have ht := h t (by simp)
    split
    · rename_i c
      have c' : t.f0 + t.f1 = p := c
      rw [pos_append, pos_append, List.append_assoc]
      congr 1
      have := posS_snoc t.f0 t.f1 (by omega)
      simp only [pos, List.flatMap_cons, List.flatMap_nil, List.append_nil]
      rw [this, c']
    · rw [pos_append]
      congr 1
      simp [pos, posS]
theorem runs_full {M : Int} : ∀ (ps : List Int) (acc : List S42), (∀ p ∈ ps, 0 ≤ p ∧ p < M) → Full M acc → Full M (ps.foldl add acc) ∧ pos (ps.foldl add acc) = pos acc ++ ps ∧ (ps.foldl add acc).length ≤ acc.length + ps.length
  | [], acc, _, h => ⟨h, by simp, by simp⟩
  | p :: ps, acc, hp, h => by
    have hp0 := hp p List.mem_cons_self
    obtain ⟨g1, g2⟩ := glue_full (s := ⟨p, 1⟩) h ⟨hp0.1, by show (0 : Int) < 1; omega, by show p + 1 ≤ M; omega⟩
    obtain ⟨i1, i2, i3⟩ := runs_full ps (add acc p) (fun q hq => hp q (List.mem_cons_of_mem _ hq)) g1
    rw [List.foldl_cons]
    refine ⟨i1, by rw [i2, add_pos' h, List.append_assoc]; rfl, ?_⟩
    have : (add acc p).length ≤ acc.length + 1 := g2
    rw [List.length_cons]
    omega
theorem runs_spec {M : Int} (ps : List Int) (h : ∀ p ∈ ps, 0 ≤ p ∧ p < M) : Full M (runs ps) ∧ pos (runs ps) = ps ∧ (runs ps).length ≤ ps.length := by
  obtain ⟨a, b, c⟩ := runs_full ps [] h (fun s hs => by simp at hs)
  exact ⟨a, by rw [runs, b]; rfl, by simpa [runs] using c⟩
theorem pos_in {M : Int} {l : List S42} (h : ∀ s ∈ l, Ok M s) : ∀ p ∈ pos l, 0 ≤ p ∧ p < M := by
  intro p hp
  obtain ⟨s, hs, hp⟩ := List.mem_flatMap.1 hp
  have := h s hs
  have := (mem_posS this.2.1).1 hp
  unfold Ok at *
  omega
theorem pos_len {M : Nat} : ∀ {l : List S42}, (∀ s ∈ l, Ok (M : Int) s) → (pos l).length ≤ l.length * M
  | [], _ => by simp [pos]
  | s :: l, h => by
    have h1 := h s List.mem_cons_self
    have h2 := pos_len (l := l) (fun q hq => h q (List.mem_cons_of_mem _ hq))
    rw [pos_cons, List.length_append, posS_length, List.length_cons, Nat.add_mul, Nat.one_mul]
    unfold Ok at h1
    omega

/-! ## Count -/
theorem count_l0 {M : Int} (hM : M ≤ 65536) (l : List S42) (hl : l.length ≤ 5000) (hp : (pos l).length ≤ 100000) (h : ∀ s ∈ l, Ok M s) (d : Nat) : ∀ (j c : Nat), j + d = l.length → c + (pos (l.drop j)).length ≤ 200000 → Gets (fun k => span_Count.l0 k (c : Int) l (l.length : Int) (j : Int)) (· = ((c + (pos (l.drop j)).length : Nat) : Int)) := by
  induction d with
  | zero =>
    intro j c hj hc
    refine Gets.up ?_
    simp only [span_Count.l0, if_neg (show ¬ (j : Int) < (l.length : Int) by omega)]
    refine Gets.ret ?_
    rw [List.drop_of_length_le (by omega)]
    simp [pos]
  | succ d ih =>
    intro j c hj hc
    have hj2 : j < l.length := by omega
    have hok := h l[j] (List.getElem_mem _)
    have hg := good_f hM hok
    have hd : pos (l.drop j) = posS l[j] ++ pos (l.drop (j + 1)) := by rw [List.drop_eq_getElem_cons hj2, pos_cons]
    have hlen := posS_length l[j]
    rw [hd, List.length_append, hlen] at hc ⊢
    have q1 : (j : Int) < (l.length : Int) := by omega
    have q2 : (0 : Int) ≤ (j : Int) := by omega
    have hr := rdn l j hj2
    have hw := w1 j l.length hj2 (by omega)
    obtain ⟨h1, h2, h3⟩ := hok
    generalize l[j] = s at *
    refine Gets.up ?_
    simp only [span_Count.l0, hr, hg, hw, Option.bind_some]
    simp -implicitDefEqProofs only [if_pos q1, if_pos q2]
    by_cases c1 : s.f1 > 0
    · have e : wrap64 ((c : Int) + s.f1) = ((c + s.f1.toNat : Nat) : Int) := by rw [w64] <;> omega
      rw [decide_eq_true c1, e]
      simp only [if_true]
      have key := ih (j + 1) (c + s.f1.toNat) (by omega) (by omega)
      rwa [Nat.add_assoc] at key
    · rw [decide_eq_false c1]
      simp only [Bool.false_eq_true, if_false]
      have e0 : s.f1.toNat = 0 := by omega
      rw [e0] at hc ⊢
      have key := ih (j + 1) c (by omega) (by omega)
      rwa [Nat.zero_add]
theorem count_f {M : Int} (hM : M ≤ 65536) (l : List S42) (hl : l.length ≤ 5000) (hp : (pos l).length ≤ 100000) (h : ∀ s ∈ l, Ok M s) : Gets (fun k => span_Count.f k l) (· = ((pos l).length : Int)) := by
  have := count_l0 hM l hl hp h l.length 0 0 (by omega) (by simp; omega)
  simpa [span_Count.f] using this

/-! ## Glue -/
theorem glue_l0 {M : Int} (hM : M ≤ 65536) (l : List S42) (hl : l.length ≤ 5000) (h : ∀ s ∈ l, Ok M s) (d : Nat) : ∀ (j : Nat) (acc : List S42), j + d = l.length → acc.length + d ≤ 10000 → Full M acc → Gets (fun k => span_Glue.l0 k acc l (l.length : Int) (j : Int)) (· = (l.drop j).foldl step acc) := by
  induction d with
  | zero =>
    intro j acc hj _ _
    refine Gets.up ?_
    simp only [span_Glue.l0, if_neg (show ¬ (j : Int) < (l.length : Int) by omega)]
    refine Gets.ret ?_
    rw [List.drop_of_length_le (by omega)]
    rfl
  | succ d ih =>
    intro j acc hj hal hacc
    have hj2 : j < l.length := by omega
    have hok := h l[j] (List.getElem_mem _)
    have hg := good_f hM hok
    have hd : (l.drop j).foldl step acc = (l.drop (j + 1)).foldl step (step acc l[j]) := by rw [List.drop_eq_getElem_cons hj2, List.foldl_cons]
    rw [hd]
    have q1 : (j : Int) < (l.length : Int) := by omega
    have q2 : (0 : Int) ≤ (j : Int) := by omega
    have hr := rdn l j hj2
    have hw := w1 j l.length hj2 (by omega)
    obtain ⟨h1, h2, h3⟩ := hok
    generalize l[j] = s at *
    refine Gets.up ?_
    simp only [span_Glue.l0, hr, hg, hw, Option.bind_some]
    simp -implicitDefEqProofs only [if_pos q1, if_pos q2]
    by_cases c1 : s.f1 > 0
    · rw [decide_eq_true c1]
      simp only [if_true]
      have hst : step acc s = glue acc s := if_pos c1
      obtain ⟨g1, g2⟩ := glue_full hacc (s := s) ⟨h1, c1, h3⟩
      have key := ih (j + 1) (glue acc s) (by omega) (by omega) g1
      rw [hst]
      have q5 : acc.length < 8796093022208 := by omega
      rcases List.eq_nil_or_concat acc with rfl | ⟨a, t, rfl⟩
      · have e0 : wrap64 ((([] : List S42).length : Int) - 1) = -1 := by rw [List.length_nil, w64] <;> omega
        have q3 : ¬ (-1 : Int) ≥ 0 := by omega
        simp -implicitDefEqProofs only [e0, if_neg q3, if_pos q5]
        exact key
      · rw [List.concat_eq_append] at *
        have hl1 : (a ++ [t]).length = a.length + 1 := by simp
        have e0 : wrap64 (((a ++ [t]).length : Int) - 1) = (a.length : Int) := by rw [hl1, w64] <;> omega
        have q3 : (a.length : Int) ≥ 0 := by omega
        have q4 : (0 : Int) ≤ (a.length : Int) := by omega
        have q6 : (a.length : Int) < ((a ++ [t]).length : Int) := by omega
        have hrt : rd_T42 (a ++ [t]) (a.length : Int) = t := by rw [rdn _ _ (by omega)]; simp
        have ht := hacc t (by simp)
        have he := end_f hM (s := t) ⟨ht.1, by omega, ht.2.2⟩
        simp -implicitDefEqProofs only [e0, if_pos q3, if_pos q4, if_pos q6, hrt, he, Option.bind_some]
        rw [glue_snoc] at key
        rw [glue_snoc]
        by_cases c2 : t.f0 + t.f1 = s.f0
        · have hw2 : wrap64 (t.f1 + s.f1) = t.f1 + s.f1 := by rw [w64] <;> omega
          have hset : (a ++ [t]).set (a.length : Int).toNat ⟨t.f0, t.f1 + s.f1⟩ = a ++ [⟨t.f0, t.f1 + s.f1⟩] := by rw [Int.toNat_natCast]; simp
          rw [if_pos c2] at key ⊢
          simp -implicitDefEqProofs only [if_pos c2, hw2, hset]
          exact key
        · rw [if_neg c2] at key ⊢
          simp -implicitDefEqProofs only [if_neg c2, if_pos q5]
          exact key
    · rw [decide_eq_false c1]
      simp only [Bool.false_eq_true, if_false]
      rw [show step acc s = acc from if_neg c1]
      exact ih (j + 1) acc (by omega) (by omega) hacc
theorem glue_f {M : Int} (hM : M ≤ 65536) (l : List S42) (hl : l.length ≤ 5000) (h : ∀ s ∈ l, Ok M s) : Gets (fun k => span_Glue.f k l) (· = runs (pos l)) := by
  have := glue_l0 hM l hl h l.length 0 [] (by omega) (by simp; omega) (fun s hs => by simp at hs)
  rw [List.drop_zero, steps_runs] at this
  exact this

/-! ## Slice -/
theorem posS_drop (s : S42) (k : Int) (h0 : 0 ≤ k) (h1 : k ≤ s.f1) : (posS s).drop k.toNat = posS ⟨s.f0 + k, s.f1 - k⟩ := by
  obtain ⟨o, n⟩ := s
  have h1' : k ≤ n := h1
  apply List.ext_getElem?
  intro i
  simp only [posS, List.getElem?_drop, List.getElem?_map]
  by_cases c : k.toNat + i < n.toNat
  · rw [List.getElem?_range c, List.getElem?_range (by omega)]
    simp
    omega
  · rw [List.getElem?_eq_none (by simp; omega), List.getElem?_eq_none (by simp; omega)]
    rfl
theorem posS_take (s : S42) (k : Int) (h0 : 0 ≤ k) (h1 : k ≤ s.f1) : (posS s).take k.toNat = posS ⟨s.f0, k⟩ := by
  obtain ⟨o, n⟩ := s
  have h1' : k ≤ n := h1
  simp only [posS]
  rw [← List.map_take, List.take_range, Nat.min_eq_left (by omega)]
theorem slice_l0 {M : Int} (hM : M ≤ 65536) (l : List S42) (hl : l.length ≤ 4000) (h : ∀ s ∈ l, Ok M s) (d : Nat) : ∀ (j : Nat) (off n : Int) (out : List S42), j + d = l.length → 0 ≤ off → off ≤ 200000 → 0 < n → n ≤ 200000 → out.length + d ≤ 5000 → (∀ s ∈ out, Ok M s) →
    Gets (fun k => span_Slice.l0 k off n out l (l.length : Int) (j : Int)) (· = runs (pos out ++ ((pos (l.drop j)).drop off.toNat).take n.toNat)) := by
  have fin : ∀ out : List S42, out.length ≤ 5000 → (∀ s ∈ out, Ok M s) → Gets (fun k => (span_Glue.f k out).bind fun t => some t) (· = runs (pos out)) := fun out ho hok =>
    (glue_f hM out ho hok).bind fun r hr => Gets.ret hr
  induction d with
  | zero =>
    intro j off n out hj _ _ _ _ ho hok
    refine Gets.up ?_
    simp only [span_Slice.l0, if_neg (show ¬ (j : Int) < (l.length : Int) by omega)]
    have e : l.drop j = [] := List.drop_of_length_le (by omega)
    rw [e]
    simpa [pos] using fin out (by omega) hok
  | succ d ih =>
    intro j off n out hj h0 h0b hn hnb ho hok
    have hj2 : j < l.length := by omega
    have hs := h l[j] (List.getElem_mem _)
    have hg := good_f hM hs
    have hd : pos (l.drop j) = posS l[j] ++ pos (l.drop (j + 1)) := by rw [List.drop_eq_getElem_cons hj2, pos_cons]
    rw [hd]
    have q1 : (j : Int) < (l.length : Int) := by omega
    have q2 : (0 : Int) ≤ (j : Int) := by omega
    have hr := rdn l j hj2
    have hw := w1 j l.length hj2 (by omega)
    have hpl := posS_length l[j]
    obtain ⟨h1, h2, h3⟩ := hs
    generalize l[j] = s at *
    obtain ⟨R, hR⟩ : ∃ R, R = pos (l.drop (j + 1)) := ⟨_, rfl⟩
    rw [← hR]
    refine Gets.up ?_
    simp only [span_Slice.l0, hr, hg, hw, Option.bind_some]
    simp -implicitDefEqProofs only [if_pos q1, if_pos q2]
    by_cases c1 : s.f1 > 0
    · rw [decide_eq_true c1]
      simp only [if_true]
      by_cases c2 : off ≥ s.f1
      · have e : wrap64 (off - s.f1) = off - s.f1 := by rw [w64] <;> omega
        simp -implicitDefEqProofs only [if_pos c2, e]
        have key := ih (j + 1) (off - s.f1) n out (by omega) (by omega) (by omega) hn hnb (by omega) hok
        rw [← hR] at key
        rw [List.drop_append, List.drop_of_length_le (by omega), List.nil_append, hpl, show off.toNat - s.f1.toNat = (off - s.f1).toNat by omega]
        exact key
      · have q5 : out.length < 8796093022208 := by omega
        have e1 : wrap64 (s.f0 + off) = s.f0 + off := by rw [w64] <;> omega
        have e2 : wrap64 (s.f1 - off) = s.f1 - off := by rw [w64] <;> omega
        obtain ⟨k, hk⟩ : ∃ k, mn n (s.f1 - off) = k := ⟨_, rfl⟩
        have hk2 : k = if s.f1 - off < n then s.f1 - off else n := by rw [← hk]; rfl
        have hkb : 0 < k ∧ k ≤ n ∧ k ≤ s.f1 - off ∧ (k = n ∨ k = s.f1 - off) := by rw [hk2]; split <;> omega
        have e3 : wrap64 (n - k) = n - k := by rw [w64] <;> omega
        obtain ⟨k1, k2, k3, k4⟩ := hkb
        simp -implicitDefEqProofs only [if_neg c2, if_pos q5, e1, e2, hk, e3, Option.bind_some]
        clear e1 e2 e3 hk hk2
        have hok2 : ∀ q ∈ out ++ [(⟨s.f0 + off, k⟩ : S42)], Ok M q := fun q hq => by
          rcases List.mem_append.1 hq with hq | hq
          · exact hok q hq
          · rw [List.mem_singleton.1 hq]
            exact ⟨by show 0 ≤ s.f0 + off; omega, by show 0 ≤ k; omega, by show s.f0 + off + k ≤ M; omega⟩
        have hpos : pos (out ++ [(⟨s.f0 + off, k⟩ : S42)]) = pos out ++ posS ⟨s.f0 + off, k⟩ := by rw [pos_append]; simp [pos]
        have hdr : (posS s ++ R).drop off.toNat = posS ⟨s.f0 + off, s.f1 - off⟩ ++ R := by
          rw [List.drop_append_of_le_length (by omega), posS_drop s off h0 (by omega)]
        have hl2 := posS_length ⟨s.f0 + off, s.f1 - off⟩
        have htk : (posS ⟨s.f0 + off, s.f1 - off⟩ ++ R).take n.toNat = posS ⟨s.f0 + off, k⟩ ++ R.take (n - k).toNat := by
          have hl2' : (posS ⟨s.f0 + off, s.f1 - off⟩).length = (s.f1 - off).toNat := hl2
          rw [List.take_append, hl2']
          rcases k4 with k4 | k4
          · subst k4
            rw [posS_take ⟨s.f0 + off, s.f1 - off⟩ k (by omega) k3, show k.toNat - (s.f1 - off).toNat = 0 by omega, show (k - k).toNat = 0 by omega]
          · rw [List.take_of_length_le (by omega), ← k4, show n.toNat - k.toNat = (n - k).toNat by omega]
        rw [hdr, htk, ← List.append_assoc, ← hpos]
        have hol : (out ++ [(⟨s.f0 + off, k⟩ : S42)]).length = out.length + 1 := by simp
        by_cases c3 : n - k = 0
        · simp -implicitDefEqProofs only [if_pos c3]
          rw [show (n - k).toNat = 0 by omega, List.take_zero, List.append_nil]
          exact fin _ (by omega) hok2
        · simp -implicitDefEqProofs only [if_neg c3]
          have key := ih (j + 1) 0 (n - k) _ (by omega) (by omega) (by omega) (by omega) (by omega) (by omega) hok2
          rw [← hR] at key
          simpa using key
    · rw [decide_eq_false c1, posS_none c1, List.nil_append]
      simp only [Bool.false_eq_true, if_false]
      have key := ih (j + 1) off n out (by omega) h0 h0b hn hnb (by omega) hok
      rw [← hR] at key
      exact key
theorem slice_f {M : Int} (hM : M ≤ 65536) (l : List S42) (hl : l.length ≤ 4000) (h : ∀ s ∈ l, Ok M s) (off n : Nat) (ho : off ≤ 200000) (hn : n ≤ 200000) : Gets (fun k => span_Slice.f k l (off : Int) (n : Int)) (· = runs (((pos l).drop off).take n)) := by
  have q1 : ¬ (off : Int) < 0 := by omega
  simp -implicitDefEqProofs only [span_Slice.f, if_neg q1]
  refine Gets.up ?_
  by_cases c : n = 0
  · subst c
    have : decide (((0 : Nat) : Int) ≤ 0) = true := by decide
    simp only [span_Slice.j0, this, if_true, List.take_zero]
    exact Gets.ret rfl
  · have : decide ((n : Int) ≤ 0) = false := decide_eq_false (by omega)
    simp only [span_Slice.j0, this, Bool.false_eq_true, if_false]
    have key := slice_l0 hM l hl h l.length 0 (off : Int) (n : Int) [] (by omega) (by omega) (by omega) (by omega) (by omega) (by simp; omega) (fun s hs => by simp at hs)
    simpa [pos] using key

/-! ## Equal, Spans -/
end Go.Proofs.Ytppbkljdeiegjaa.Pure.SpanArrayRoads
