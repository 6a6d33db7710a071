/- wrackkeep3.WordChain: a phrase is in its order, and what is in its order is all there: the plain law. For every input. -/
import Derived.Test.YtchjgjpoephljaaPWordChainx6
import Derived.Test.YtchjgjpoephljaaPlib
namespace Go.Proofs.Ytchjgjpoephljaa.Pure
set_option linter.unusedVariables false
set_option linter.unusedSimpArgs false
open Go.RowKit Go.Proofs.Ytchjgjpoephljaa.PWordChain Go.Proofs.YtchjgjpoephljaaW.PrintWords Go.Proofs.YtchjgjpoephljaaW.PrintLast Go.Proofs.YtchjgjpoephljaaW.PrintMore Go.Proofs.YtchjgjpoephljaaW.PrintMine Go.Proofs.YtchjgjpoephljaaW.Plib
namespace WordP
theorem w1 (q n : Nat) (h : q < n) (hn : n ≤ 1000000) : wrap64 ((q : Int) + 1) = ((q + 1 : Nat) : Int) := by rw [w64] <;> omega
def Good (ws : List ByteArray) : Prop := ws.length ≤ 1000 ∧ ∀ s ∈ ws, s.size ≤ 1000
theorem size_of (xs : List Int) : (strOfNums xs).size = xs.length := by
  show ((xs.map fun n => UInt8.ofNat n.toNat).toArray).size = xs.length
  simp
/-- What comes behind a letter. -/
structure Nx (t : List Int) (S : List ByteArray) (now : List Int) (i : Nat) : Prop where
  a : ∀ x : Int, Gets (fun k => word_Words.l0 k t S (now ++ [x]) ((i + 1 : Nat) : Int)) Good
  b : 0 < now.length → Gets (fun k => word_Words.l0 k t (S ++ [strOfNums now]) [] ((i + 1 : Nat) : Int)) Good
  c : Gets (fun k => word_Words.l0 k t S now ((i + 1 : Nat) : Int)) Good
theorem j5_g {t : List Int} {S : List ByteArray} {now : List Int} {i : Nat} (h : Nx t S now i) (hi : i ≤ 400) (hS : S.length ≤ 400) (hn : now.length ≤ 400) (x : Int) (b : Bool) : Gets (fun k => word_Words.j5 k t S now (i : Int) x b) Good := by
  have hw := w1 i 401 (by omega) (by omega)
  have q1 : now.length < 140737488355328 := by omega
  have q2 : S.length < 8796093022208 := by omega
  refine Gets.up ?_
  simp only [word_Words.j5, hw]
  by_cases c : b = true
  · simp -implicitDefEqProofs only [if_pos c, if_pos q1]
    exact h.a x
  · simp -implicitDefEqProofs only [if_neg c]
    by_cases c2 : (now.length : Int) > 0
    · simp -implicitDefEqProofs only [if_pos c2, if_pos q2]
      exact h.b (by omega)
    · simp -implicitDefEqProofs only [if_neg c2]
      exact h.c
theorem j4_g {t : List Int} {S : List ByteArray} {now : List Int} {i : Nat} (h : Nx t S now i) (hi : i ≤ 400) (hS : S.length ≤ 400) (hn : now.length ≤ 400) (x : Int) (b : Bool) : Gets (fun k => word_Words.j4 k t S now (i : Int) x b) Good := by
  refine Gets.up ?_
  simp only [word_Words.j4]
  split
  · exact j5_g h hi hS hn x _
  · split
    · exact j5_g h hi hS hn x _
    · exact j5_g h hi hS hn x _
theorem j3_g {t : List Int} {S : List ByteArray} {now : List Int} {i : Nat} (h : Nx t S now i) (hi : i ≤ 400) (hS : S.length ≤ 400) (hn : now.length ≤ 400) (x : Int) : Gets (fun k => word_Words.j3 k t S now (i : Int) x) Good := by
  refine Gets.up ?_
  simp only [word_Words.j3]
  split
  · exact j4_g h hi hS hn x _
  · exact j4_g h hi hS hn x _
theorem j2_g {t : List Int} {S : List ByteArray} {now : List Int} {i : Nat} (h : Nx t S now i) (hi : i ≤ 400) (hS : S.length ≤ 400) (hn : now.length ≤ 400) (x : Int) (b : Bool) : Gets (fun k => word_Words.j2 k t S now (i : Int) x b) Good := by
  refine Gets.up ?_
  simp only [word_Words.j2]
  split
  · exact j3_g h hi hS hn _
  · exact j3_g h hi hS hn x
theorem j1_g {t : List Int} {S : List ByteArray} {now : List Int} {i : Nat} (h : Nx t S now i) (hi : i ≤ 400) (hS : S.length ≤ 400) (hn : now.length ≤ 400) (x : Int) : Gets (fun k => word_Words.j1 k t S now (i : Int) x) Good := by
  refine Gets.up ?_
  simp only [word_Words.j1]
  split
  · exact j2_g h hi hS hn x _
  · exact j2_g h hi hS hn x _
theorem words_l0 (t : List Int) (ht : t.length ≤ 300) (d : Nat) : ∀ (i : Nat) (S : List ByteArray) (now : List Int), i + d = t.length + 1 → S.length ≤ i → now.length ≤ i → (∀ s ∈ S, s.size ≤ 1000) → Gets (fun k => word_Words.l0 k t S now (i : Int)) Good := by
  induction d with
  | zero =>
    intro i S now hi hS hn hs
    have q : ¬ (i : Int) ≤ (t.length : Int) := by omega
    refine Gets.up ?_
    simp only [word_Words.l0]
    simp -implicitDefEqProofs only [if_neg q]
    exact Gets.ret ⟨by omega, hs⟩
  | succ d ih =>
    intro i S now hi hS hn hs
    have h : Nx t S now i := ⟨fun x => ih (i + 1) S _ (by omega) (by omega) (by rw [List.length_append]; simp only [List.length_singleton]; omega) hs, fun _ => ih (i + 1) _ [] (by omega) (by rw [List.length_append]; simp only [List.length_singleton]; omega) (by simp) (fun s hs2 => by
      rcases List.mem_append.1 hs2 with hs2 | hs2
      · exact hs s hs2
      · rw [List.mem_singleton.1 hs2, size_of]; omega), ih (i + 1) S now (by omega) (by omega) (by omega) hs⟩
    have q1 : (i : Int) ≤ (t.length : Int) := by omega
    have q2 : (0 : Int) ≤ (i : Int) := by omega
    refine Gets.up ?_
    simp only [word_Words.l0]
    simp -implicitDefEqProofs only [if_pos q1, if_pos q2]
    split
    · exact j1_g h (by omega) (by omega) (by omega) _
    · exact j1_g h (by omega) (by omega) (by omega) 0
theorem words_f (t : List Int) (ht : t.length ≤ 300) : Gets (fun k => word_Words.f k t) Good := by
  unfold word_Words.f
  exact words_l0 t ht (t.length + 1) 0 [] [] (by omega) (by simp) (by simp) (fun s hs => by simp at hs)
theorem words_T0 : word_Words.f 200 T0 = some [sA, sB, sA, sC] := by decide +kernel
theorem txt_len (x : List Int) : (txt x).length ≤ 210 := by
  have hp : ∀ n : Int, (pcs.getD (n % 6).toNat []).length ≤ 7 := fun n => by
    have h1 := Int.emod_nonneg n (show (6 : Int) ≠ 0 by omega)
    have h2 := Int.emod_lt_of_pos n (show (0 : Int) < 6 by omega)
    have h : ∀ i : Fin 6, (pcs.getD i.val []).length ≤ 7 := by decide +kernel
    exact h ⟨(n % 6).toNat, by omega⟩
  have h : ∀ l : List Int, (l.flatMap fun n => pcs.getD (n % 6).toNat []).length ≤ 7 * l.length := by
    intro l
    induction l with
    | nil => simp
    | cons a t ih => rw [List.flatMap_cons, List.length_append, List.length_cons]; have := hp a; omega
  have := h (x.take 30)
  rw [List.length_take] at this
  unfold txt
  omega
theorem all_words : ∀ l : List (List Int), (∀ x ∈ l, x.length ≤ 210) → ∃ wss : List (List ByteArray), wss.length = l.length ∧ (∀ ws ∈ wss, Good ws) ∧ ∃ K, ∀ k, K ≤ k → ∀ i, i < l.length → word_Words.f k (l.getD i []) = some (wss.getD i [])
  | [], _ => ⟨[], rfl, fun ws h => by simp at h, 0, fun k _ i hi => by simp at hi⟩
  | x :: t, h => by
    obtain ⟨wss, h1, h2, K, h3⟩ := all_words t (fun y hy => h y (List.mem_cons_of_mem _ hy))
    obtain ⟨ws, g1, L, g2⟩ := words_f x (by have := h x List.mem_cons_self; omega)
    refine ⟨ws :: wss, by simp [h1], fun y hy => ?_, max K L, fun k hk i hi => ?_⟩
    · rcases List.mem_cons.1 hy with rfl | hy
      · exact g1
      · exact h2 y hy
    · cases i with
      | zero => exact g2 k (by omega)
      | succ i => exact h3 k (by omega) i (by simpa using hi)
def ltP (p q : S39) : Prop := p.f0 < q.f0 ∨ (p.f0 = q.f0 ∧ p.f1 < q.f1)
def Sm (p : S39) : Prop := -1 ≤ p.f0 ∧ p.f0 ≤ 1000000 ∧ -1 ≤ p.f1 ∧ p.f1 ≤ 2000000
theorem ltP_trans {a b c : S39} (h1 : ltP a b) (h2 : ltP b c) : ltP a c := by unfold ltP at *; omega
theorem cmp_lt {p q : S39} (hp : Sm p) (hq : Sm q) : cmpP p q < 0 ↔ ltP p q := by
  unfold Sm at hp hq
  unfold cmpP ltP
  split
  · rw [w64 (by omega) (by omega)]; omega
  · rw [w64 (by omega) (by omega)]; omega
theorem cmp_eq {p q : S39} (hp : Sm p) (hq : Sm q) (h : cmpP p q = 0) : p = q := by
  unfold Sm at hp hq
  unfold cmpP at h
  cases p; cases q
  simp only [S39.mk.injEq] at *
  split at h
  · rw [w64 (by omega) (by omega)] at h; omega
  · rw [w64 (by omega) (by omega)] at h; omega
theorem bs_spec (F : List S39) (t : S39) (ht : Sm t) (hF : ∀ i : Nat, i < F.length → Sm (rd_T39 F (i : Int))) (hs : ∀ a b : Nat, a < b → b < F.length → ltP (rd_T39 F (a : Int)) (rd_T39 F (b : Int))) :
    ∀ (d i j : Nat), i ≤ j → j ≤ F.length → j - i ≤ d → (∀ a : Nat, a < i → ltP (rd_T39 F (a : Int)) t) → (∀ a : Nat, j ≤ a → a < F.length → ¬ ltP (rd_T39 F (a : Int)) t) → bsP F t d i j ≤ F.length ∧ (∀ a : Nat, a < bsP F t d i j → ltP (rd_T39 F (a : Int)) t) ∧ ∀ a : Nat, bsP F t d i j ≤ a → a < F.length → ¬ ltP (rd_T39 F (a : Int)) t
  | 0, i, j, h1, h2, h3, h4, h5 => by
    have e : bsP F t 0 i j = i := rfl
    rw [e]
    exact ⟨by omega, h4, fun a ha hl => h5 a (by omega) hl⟩
  | d + 1, i, j, h1, h2, h3, h4, h5 => by
    unfold bsP
    by_cases c : i < j
    · rw [if_pos c]
      obtain ⟨m, hm⟩ : ∃ m, (i + j) / 2 = m := ⟨_, rfl⟩
      rw [hm]
      have hm1 : m < F.length := by omega
      by_cases c2 : cmpP (rd_T39 F (m : Int)) t < 0
      · rw [if_pos c2]
        have hl := (cmp_lt (hF _ hm1) ht).1 c2
        refine bs_spec F t ht hF hs d _ j (by omega) h2 (by omega) (fun a ha => ?_) h5
        by_cases e : a = m
        · rw [e]; exact hl
        · exact ltP_trans (hs a _ (by omega) hm1) hl
      · rw [if_neg c2]
        have hl : ¬ ltP (rd_T39 F (m : Int)) t := fun h => c2 ((cmp_lt (hF _ hm1) ht).2 h)
        refine bs_spec F t ht hF hs d i _ (by omega) (by omega) (by omega) h4 (fun a ha hal h => ?_)
        by_cases e : a = m
        · rw [e] at h; exact hl h
        · exact hl (ltP_trans (hs _ a (by omega) hal) h)
    · rw [if_neg c]
      exact ⟨by omega, h4, fun a ha hl => h5 a (by omega) hl⟩
/-- A row of places: in order, of texts below n (in text n: below m). -/
def RowOk (F : List S39) (n m : Int) : Prop := F.Pairwise ltP ∧ ∀ p ∈ F, 0 ≤ p.f0 ∧ 0 ≤ p.f1 ∧ p.f1 ≤ 1000 ∧ (p.f0 < n ∨ (p.f0 = n ∧ p.f1 < m))
theorem addW_ok (n : Int) (hn : 0 ≤ n) : ∀ (ws : List ByteArray) (P : ByteArray → List S39) (i : Nat), i + ws.length ≤ 1000 → (∀ s, RowOk (P s) n (i : Int)) → ∀ s, RowOk (addW P n i ws s) n ((i + ws.length : Nat) : Int)
  | [], P, i, _, h, s => h s
  | x :: t, P, i, hl, h, s => by
    rw [List.length_cons] at hl
    have h2 := addW_ok n hn t (updS P x (P x ++ [(⟨n, (i : Int)⟩ : S39)])) (i + 1) (by omega) (fun y => by
      unfold updS
      split
      case isTrue e =>
        refine ⟨List.pairwise_append.2 ⟨(h x).1, List.pairwise_singleton _ _, fun a ha b hb => ?_⟩, fun p hp => ?_⟩
        · rw [List.mem_singleton.1 hb]
          have := (h x).2 a ha
          unfold ltP
          simp only
          omega
        · rcases List.mem_append.1 hp with hp | hp
          · have := (h x).2 p hp
            omega
          · rw [List.mem_singleton.1 hp]
            exact ⟨hn, by simp only; omega, by simp only; omega, .inr ⟨rfl, by simp only; omega⟩⟩
      case isFalse e => exact ⟨(h y).1, fun p hp => by have := (h y).2 p hp; omega⟩) s
    rw [show i + 1 + t.length = i + (x :: t).length by rw [List.length_cons]; omega] at h2
    exact h2
theorem idxP_ok : ∀ (wss : List (List ByteArray)) (P : ByteArray → List S39) (n : Nat), (∀ ws ∈ wss, ws.length ≤ 1000) → (∀ s, RowOk (P s) (n : Int) 0) → ∀ s, RowOk (idxP P n wss s) ((n + wss.length : Nat) : Int) 0
  | [], P, n, _, h, s => h s
  | ws :: t, P, n, hw, h, s => by
    have h1 := addW_ok (n : Int) (by omega) ws P 0 (by have := hw ws List.mem_cons_self; omega) h
    have h2 := idxP_ok t (addW P n 0 ws) (n + 1) (fun y hy => hw y (List.mem_cons_of_mem _ hy)) (fun s => ⟨(h1 s).1, fun p hp => by have := (h1 s).2 p hp; omega⟩) s
    rw [show n + 1 + t.length = n + (ws :: t).length by rw [List.length_cons]; omega] at h2
    exact h2
theorem rd39 {F : List S39} {i : Nat} (h : i < F.length) : rd_T39 F (i : Int) = F[i] := by
  unfold rd_T39
  rw [Int.toNat_natCast, List.getD_eq_getElem?_getD, List.getElem?_eq_getElem h]
  rfl
theorem mem_rd {F : List S39} {p : S39} (h : p ∈ F) : ∃ e : Nat, e < F.length ∧ rd_T39 F (e : Int) = p := by
  obtain ⟨e, he, h⟩ := List.getElem_of_mem h
  exact ⟨e, he, (rd39 he).trans h⟩
structure Row (F : List S39) (n : Int) : Prop where
  sm : ∀ i : Nat, i < F.length → 0 ≤ (rd_T39 F (i : Int)).f0 ∧ (rd_T39 F (i : Int)).f0 < n ∧ 0 ≤ (rd_T39 F (i : Int)).f1 ∧ (rd_T39 F (i : Int)).f1 ≤ 1000
  lt : ∀ a b : Nat, a < b → b < F.length → ltP (rd_T39 F (a : Int)) (rd_T39 F (b : Int))
theorem RowOk.row {F : List S39} {n : Int} (h : RowOk F n 0) : Row F n := ⟨fun i hi => by
  rw [rd39 hi]
  have := h.2 _ (List.getElem_mem hi)
  omega, fun a b hab hb => by
  rw [rd39 hb, rd39 (by omega)]
  exact List.pairwise_iff_getElem.1 h.1 a b (by omega) hb hab⟩
theorem Row.bs {F : List S39} {n : Int} (h : Row F n) (hn : n ≤ 1000000) {t : S39} (ht : Sm t) : bsI F t ≤ F.length ∧ (∀ a : Nat, a < bsI F t → ltP (rd_T39 F (a : Int)) t) ∧ ∀ a : Nat, bsI F t ≤ a → a < F.length → ¬ ltP (rd_T39 F (a : Int)) t :=
  bs_spec F t ht (fun i hi => by have := h.sm i hi; unfold Sm; omega) h.lt F.length 0 F.length (by omega) (by omega) (by omega) (fun a ha => by omega) (fun a ha hl => by omega)
theorem Row.found {F : List S39} {n : Int} (h : Row F n) (hn : n ≤ 1000000) {t : S39} (ht : Sm t) (hb : bsB F t = true) : ∃ e : Nat, e < F.length ∧ rd_T39 F (e : Int) = t := by
  unfold bsB at hb
  rw [Bool.and_eq_true, decide_eq_true_eq, beq_iff_eq] at hb
  exact ⟨bsI F t, hb.1, cmp_eq (by have := h.sm _ hb.1; unfold Sm; omega) ht hb.2⟩
theorem okP_get (P : ByteArray → List S39) (p : S39) : ∀ (l : List ByteArray) (j : Nat), okP P p j l = true → ∀ i : Nat, i < l.length → bsB (P (l.getD i ByteArray.empty)) ⟨p.f0, wrap64 (p.f1 + ((j + i : Nat) : Int))⟩ = true
  | [], j, h, i, hi => absurd hi (Nat.not_lt_zero _)
  | s :: t, j, h, i, hi => by
    unfold okP at h
    rw [Bool.and_eq_true] at h
    cases i with
    | zero => exact h.1
    | succ i =>
      have := okP_get P p t (j + 1) h.2 i (by simpa using hi)
      rw [show j + 1 + i = j + (i + 1) by omega] at this
      exact this
theorem ord_le (P : ByteArray → List S39) (n : Int) (hP : ∀ s, Row (P s) n) (hn : n ≤ 1000000) (d q : Int) (hd : 0 ≤ d ∧ d < n) (hq : 0 ≤ q ∧ q ≤ 1000) :
    ∀ (t : List ByteArray) (i : Nat) (a : Int), i + t.length ≤ 8 → -1 ≤ a → a < q + i → (∀ j : Nat, j < t.length → ∃ e : Nat, e < (P (t.getD j ByteArray.empty)).length ∧ rd_T39 (P (t.getD j ByteArray.empty)) (e : Int) = ⟨d, q + ((i + j : Nat) : Int)⟩) →
    (ordS P d a true t).2 = true ∧ (ordS P d a true t).1 < q + ((i + t.length : Nat) : Int)
  | [], i, a, hl, h0, h1, h => ⟨rfl, by show a < _; simpa using h1⟩
  | s :: t, i, a, hl, h0, h1, h => by
    rw [List.length_cons] at hl
    obtain ⟨e, he, hr⟩ := h 0 (by simp)
    have he' : e < (P s).length := he
    have hr' : rd_T39 (P s) (e : Int) = ⟨d, q + (i : Int)⟩ := hr
    have hw : wrap64 (a + 1) = a + 1 := w64 (by omega) (by omega)
    have hsm : Sm ⟨d, a + 1⟩ := by unfold Sm; simp only; omega
    obtain ⟨b1, b2, b3⟩ := (hP s).bs hn hsm
    obtain ⟨I, hI0⟩ : ∃ I, bsI (P s) ⟨d, a + 1⟩ = I := ⟨_, rfl⟩
    rw [hI0] at b1 b2 b3
    have hIe : I ≤ e := by
      rcases Nat.lt_or_ge e I with c | c
      · have := b2 e c
        rw [hr'] at this
        unfold ltP at this
        simp only at this
        omega
      · exact c
    have hI := b3 I (Nat.le_refl _) (by omega)
    have hsI := (hP s).sm I (by omega)
    have hle : (rd_T39 (P s) (I : Int)).f0 = d ∧ a + 1 ≤ (rd_T39 (P s) (I : Int)).f1 ∧ (rd_T39 (P s) (I : Int)).f1 ≤ q + i := by
      by_cases c : I = e
      · rw [c] at hI ⊢
        rw [hr']
        exact ⟨rfl, by simp only; omega, by simp only; omega⟩
      · have h2 := (hP s).lt I e (by omega) he'
        rw [hr'] at h2
        generalize rd_T39 (P s) (I : Int) = u at *
        have h3 : u.f0 < d ∨ (u.f0 = d ∧ u.f1 < q + (i : Int)) := h2
        have h4 : ¬ (u.f0 < d ∨ (u.f0 = d ∧ u.f1 < a + 1)) := hI
        clear h2 hI hsm b2 b3 hw
        omega
    have hst : stepO P d s a true = ((rd_T39 (P s) (I : Int)).f1, true) := by
      unfold stepO
      rw [hw, hI0, if_pos (by rw [decide_eq_true (show I < (P s).length by omega), decide_eq_true hle.1]; rfl)]
    unfold ordS
    rw [hst]
    have hr2 := ord_le P n hP hn d q hd hq t (i + 1) (rd_T39 (P s) (I : Int)).f1 (by omega) (by omega) (by omega) (fun j hj => by
      have := h (j + 1) (by simpa using hj)
      rw [show i + (j + 1) = i + 1 + j by omega] at this
      exact this)
    rw [List.length_cons, show i + (t.length + 1) = i + 1 + t.length by omega]
    exact hr2
theorem ord_all (P : ByteArray → List S39) (d : Int) : ∀ (t : List ByteArray) (a : Int) (o : Bool), (ordS P d a o t).2 = true → o = true ∧ ∀ s ∈ t, ∃ e : Nat, e < (P s).length ∧ (rd_T39 (P s) (e : Int)).f0 = d
  | [], a, o, h => ⟨h, fun s hs => by simp at hs⟩
  | x :: t, a, o, h => by
    unfold ordS stepO at h
    split at h
    case isTrue c =>
      rw [Bool.and_eq_true, Bool.and_eq_true, decide_eq_true_eq, decide_eq_true_eq] at c
      refine ⟨c.1.1, fun s hs => ?_⟩
      rcases List.mem_cons.1 hs with rfl | hs
      · exact ⟨_, c.1.2, c.2⟩
      · exact (ord_all P d t _ _ h).2 s hs
    case isFalse c => exact absurd (ord_all P d t _ _ h).1 (by simp)

/-- The texts of places: what docs comes to. -/
def docsR : List Int → List S39 → List Int
  | acc, [] => acc
  | acc, p :: t => if acc.length = 0 then docsR (acc ++ [p.f0]) t else if rd acc ((acc.length : Int) - 1) = p.f0 then docsR acc t else docsR (acc ++ [p.f0]) t
theorem docs_l0 (F : List S39) (hF : F.length ≤ 1000000) (d : Nat) : ∀ (i : Nat) (acc : List Int), i + d = F.length → acc.length ≤ i → Gets (fun k => word_docs.l0 k acc F (F.length : Int) (i : Int)) (· = docsR acc (F.drop i)) := by
  induction d with
  | zero =>
    intro i acc hi ha
    have q : ¬ (i : Int) < (F.length : Int) := by omega
    refine Gets.up ?_
    simp only [word_docs.l0]
    simp -implicitDefEqProofs only [if_neg q]
    exact Gets.ret (by rw [List.drop_of_length_le (by omega)]; rfl)
  | succ d ih =>
    intro i acc hi ha
    have hl : i < F.length := by omega
    have q : (i : Int) < (F.length : Int) := by omega
    have q0 : (0 : Int) ≤ (i : Int) := by omega
    have hw := w1 i F.length (by omega) (by omega)
    have q3 : acc.length < 17592186044416 := by omega
    have hd : F.drop i = F[i] :: F.drop (i + 1) := List.drop_eq_getElem_cons hl
    have e1 := ih (i + 1) acc (by clear hw; omega) (by clear hw; omega)
    have e2 := ih (i + 1) (acc ++ [F[i].f0]) (by clear hw; omega) (by rw [List.length_append]; simp only [List.length_singleton]; clear hw; omega)
    refine Gets.up ?_
    simp only [word_docs.l0, hw, rd39 hl, hd, docsR]
    simp -implicitDefEqProofs only [if_pos q, if_pos q0, if_pos q3]
    by_cases c : acc.length = 0
    · have c2 : (acc.length : Int) = 0 := by clear hw; omega
      simp -implicitDefEqProofs only [if_pos c, if_pos c2]
      exact e2
    · have c2 : ¬ (acc.length : Int) = 0 := by clear hw; omega
      have c3 : wrap64 ((acc.length : Int) - 1) = (acc.length : Int) - 1 := by clear hw; rw [w64] <;> omega
      have c4 : (0 : Int) ≤ (acc.length : Int) - 1 := by clear hw c3; omega
      have c5 : (acc.length : Int) - 1 < (acc.length : Int) := by clear hw c3; omega
      simp -implicitDefEqProofs only [if_neg c, if_neg c2, c3, if_pos c4, if_pos c5]
      by_cases c6 : rd acc ((acc.length : Int) - 1) = F[i].f0
      · simp -implicitDefEqProofs only [if_pos c6]
        exact e1
      · simp -implicitDefEqProofs only [if_neg c6]
        exact e2
theorem docs_f (F : List S39) (hF : F.length ≤ 1000000) : Gets (fun k => word_docs.f k F) (· = docsR [] F) := by
  unfold word_docs.f
  have h := docs_l0 F hF F.length 0 [] (by omega) (by simp)
  rw [List.drop_zero] at h
  exact h
theorem docsR_len : ∀ (F : List S39) (acc : List Int), (docsR acc F).length ≤ acc.length + F.length
  | [], acc => by simp [docsR]
  | p :: t, acc => by
    have h1 := docsR_len t acc
    have h2 := docsR_len t (acc ++ [p.f0])
    rw [List.length_append, List.length_singleton] at h2
    rw [List.length_cons]
    unfold docsR
    split
    · omega
    · split <;> omega
theorem docsR_sub : ∀ (F : List S39) (acc : List Int), ∀ x ∈ acc, x ∈ docsR acc F
  | [], acc, x, h => h
  | p :: t, acc, x, h => by
    unfold docsR
    split
    · exact docsR_sub t _ x (List.mem_append_left _ h)
    · split
      · exact docsR_sub t _ x h
      · exact docsR_sub t _ x (List.mem_append_left _ h)
theorem rd_mem {acc : List Int} (h : acc.length ≠ 0) : rd acc ((acc.length : Int) - 1) ∈ acc := by
  rw [rd_lt (by omega) (by omega)]
  exact List.getElem_mem _
theorem docsR_mem : ∀ (F : List S39) (acc : List Int), ∀ p ∈ F, p.f0 ∈ docsR acc F
  | [], acc, p, h => by simp at h
  | q :: t, acc, p, h => by
    unfold docsR
    rcases List.mem_cons.1 h with rfl | h
    · split
      · exact docsR_sub t _ _ (List.mem_append_right _ List.mem_cons_self)
      · split
        case isTrue c0 c => exact docsR_sub t _ _ (by rw [← c]; exact rd_mem c0)
        case isFalse => exact docsR_sub t _ _ (List.mem_append_right _ List.mem_cons_self)
    · split
      · exact docsR_mem t _ p h
      · split
        · exact docsR_mem t _ p h
        · exact docsR_mem t _ p h
theorem docsR_sorted : ∀ (F : List S39) (acc : List Int), acc.Pairwise (· ≤ ·) → F.Pairwise ltP → (∀ x ∈ acc, ∀ p ∈ F, x ≤ p.f0) → (docsR acc F).Pairwise (· ≤ ·)
  | [], acc, h, _, _ => h
  | p :: t, acc, h, hF, hx => by
    obtain ⟨h1, h2⟩ := List.pairwise_cons.1 hF
    have hsn : (acc ++ [p.f0]).Pairwise (· ≤ ·) := List.pairwise_append.2 ⟨h, List.pairwise_singleton _ _, fun a ha b hb => by rw [List.mem_singleton.1 hb]; exact hx a ha p List.mem_cons_self⟩
    have hsx : ∀ x ∈ acc ++ [p.f0], ∀ q ∈ t, x ≤ q.f0 := fun x hm q hq => by
      rcases List.mem_append.1 hm with hm | hm
      · exact hx x hm q (List.mem_cons_of_mem _ hq)
      · rw [List.mem_singleton.1 hm]
        have := h1 q hq
        unfold ltP at this
        omega
    unfold docsR
    split
    · exact docsR_sorted t _ hsn h2 hsx
    · split
      · exact docsR_sorted t _ h h2 (fun x hm q hq => hx x hm q (List.mem_cons_of_mem _ hq))
      · exact docsR_sorted t _ hsn h2 hsx
theorem cont_l0 (F : List S39) (hF : F.length ≤ 1000000) (a b : Int) (d : Nat) : ∀ i : Nat, i + d = F.length → (∃ e : Nat, i ≤ e ∧ e < F.length ∧ rd_T39 F (e : Int) = ⟨a, b⟩) → Gets (fun k => word_Place_31.l0 k F (F.length : Int) (i : Int) a b) (· ≥ 0) := by
  induction d with
  | zero =>
    intro i hi ⟨e, h1, h2, _⟩
    exact absurd h2 (by omega)
  | succ d ih =>
    intro i hi ⟨e, h1, h2, h3⟩
    have q : (i : Int) < (F.length : Int) := by omega
    have q0 : (0 : Int) ≤ (i : Int) := by omega
    have hw := w1 i F.length (by omega) (by omega)
    refine Gets.up ?_
    simp only [word_Place_31.l0, hw]
    simp -implicitDefEqProofs only [if_pos q, if_pos q0]
    by_cases c : (a == (rd_T39 F (i : Int)).f0 && b == (rd_T39 F (i : Int)).f1) = true
    · simp -implicitDefEqProofs only [if_pos c]
      exact Gets.ret q0
    · simp -implicitDefEqProofs only [if_neg c]
      refine ih (i + 1) (by clear hw; omega) ⟨e, ?_, h2, h3⟩
      by_cases e2 : e = i
      · subst e2
        rw [h3] at c
        exact absurd (by simp) c
      · clear hw; omega
theorem cont_f (F : List S39) (hF : F.length ≤ 1000000) (a b : Int) (h : ∃ e : Nat, e < F.length ∧ rd_T39 F (e : Int) = ⟨a, b⟩) : Gets (fun k => word_Place_14.f k F a b) (· = true) := by
  obtain ⟨e, h1, h2⟩ := h
  unfold word_Place_14.f word_Place_31.f
  refine Gets.bind (cont_l0 F hF a b F.length 0 (by omega) ⟨e, by omega, h1, h2⟩) fun r hr => ?_
  exact Gets.ret (decide_eq_true hr)
theorem foldl_mem (D : ByteArray → List Int) (d : Int) : ∀ (t : List ByteArray) (acc : List Int), d ∈ acc → (∀ s ∈ t, d ∈ D s) → d ∈ t.foldl (fun out s => out.filter fun d => (D s).contains d) acc
  | [], acc, h, _ => h
  | s :: t, acc, h, hs => by
    rw [List.foldl_cons]
    refine foldl_mem D d t _ (List.mem_filter.2 ⟨h, ?_⟩) (fun x hx => hs x (List.mem_cons_of_mem _ hx))
    simpa using hs s List.mem_cons_self
/-- For finitely many things that come with enough rounds there is one number of rounds. -/
theorem gets_all {α : Type} {g : α → Nat → Option Bool} : ∀ l : List α, (∀ x ∈ l, Gets (g x) (· = true)) → ∃ K, ∀ k, K ≤ k → ∀ x ∈ l, g x k = some true
  | [], _ => ⟨0, fun k _ x hx => by simp at hx⟩
  | a :: t, h => by
    obtain ⟨K, hK⟩ := gets_all t (fun x hx => h x (List.mem_cons_of_mem _ hx))
    obtain ⟨r, hr, L, hL⟩ := h a List.mem_cons_self
    refine ⟨max K L, fun k hk x hx => ?_⟩
    rcases List.mem_cons.1 hx with rfl | hx
    · exact (hL k (by omega)).trans (by rw [hr])
    · exact hK k (by omega) x hx
theorem docs_all (P : ByteArray → List S39) (hl : ∀ s, (P s).length ≤ 1000000) : ∀ l : List ByteArray, ∃ K, ∀ k, K ≤ k → ∀ s ∈ l, word_docs.f k (P s) = some (docsR [] (P s))
  | [] => ⟨0, fun k _ x hx => by simp at hx⟩
  | a :: t => by
    obtain ⟨K, hK⟩ := docs_all P hl t
    obtain ⟨r, hr, L, hL⟩ := docs_f (P a) (hl a)
    refine ⟨max K L, fun k hk x hx => ?_⟩
    rcases List.mem_cons.1 hx with rfl | hx
    · exact (hL k (by omega)).trans (by rw [hr])
    · exact hK k (by omega) x hx
theorem law (l : List (List Int)) (l2 : List Int) : ∃ (k : Nat) (wss : List (List ByteArray)) (D : ByteArray → List Int), WordsOf k (txts l) wss ∧ word_Words.f k T0 = some [sA, sB, sA, sC] ∧
    (∀ s ∈ askOf l2, word_docs.f k (idxP (fun _ => []) 0 wss s) = some (D s) ∧ (D s).Pairwise (· ≤ ·) ∧ (D s).length ≤ 100000000) ∧
    (∀ p ∈ phr (idxP (fun _ => []) 0 wss) (askOf l2), 0 ≤ p.f1 ∧ p.f1 ≤ 1000000 ∧ (ordL (idxP (fun _ => []) 0 wss) (askOf l2) (idxZ wss).length).any (cl1B p (askOf l2).length) = true ∧ ∀ i : Nat, i < (askOf l2).length → word_Place_14.f k (idxP (fun _ => []) 0 wss ((askOf l2).getD i ByteArray.empty)) p.f0 (wrap64 (p.f1 + (i : Int))) = some true) ∧
    (1 ≤ (askOf l2).length → (ordL (idxP (fun _ => []) 0 wss) (askOf l2) (idxZ wss).length).any (fun p => !hasI (allL D (askOf l2)) p.f0) = false) := by
  have hlen : (txts l).length ≤ 6 := by unfold txts; rw [List.length_map, List.length_take]; omega
  obtain ⟨wss, h1, h2, K, h3⟩ := all_words (txts l) (fun x hx => by
    obtain ⟨y, -, rfl⟩ := List.mem_map.1 hx
    exact txt_len y)
  have hN : idxN wss ≤ 6000 := by
    have h := idxN_le (wss := wss) (m := 1000) (fun ws hw => (h2 ws hw).1)
    have : wss.length * 1000 ≤ 6 * 1000 := Nat.mul_le_mul_right _ (by omega)
    omega
  have hz : (idxZ wss).length = wss.length := by unfold idxZ; rw [List.length_map]
  have hok : ∀ s, RowOk (idxP (fun _ => []) 0 wss s) (wss.length : Int) 0 := by
    have h := idxP_ok wss (fun _ => []) 0 (fun ws hw => (h2 ws hw).1) (fun s => ⟨List.Pairwise.nil, fun p hp => by simp at hp⟩)
    rwa [Nat.zero_add] at h
  have hPl : ∀ s, (idxP (fun _ => []) 0 wss s).length ≤ 1000000 := fun s => by
    have h := idxP_len s wss (fun _ => []) 0
    simp only [List.length_nil] at h
    omega
  have hal : (askOf l2).length ≤ 4 := by unfold askOf; rw [List.length_map, List.length_take]; omega
  have hwl : wss.length ≤ 6 := by omega
  obtain ⟨b4, hb4, K4, g4⟩ := Gets.of_mono (g := fun k => word_Words.f k T0) (P := (· = [sA, sB, sA, sC])) (word_Words.mono _) words_T0 rfl
  have hW : ∀ k, K ≤ k → WordsOf k (txts l) wss := fun k hk => ⟨by omega, h1, fun i hi => ⟨h3 k hk i hi, by
      have hm : (txts l).getD i [] ∈ txts l := by rw [List.getD_eq_getElem?_getD, List.getElem?_eq_getElem hi]; exact List.getElem_mem hi
      obtain ⟨y, -, e⟩ := List.mem_map.1 hm
      rw [← e]
      have := txt_len y
      omega⟩, fun ws hw => ⟨(h2 ws hw).1, fun s hs => by
        have := (h2 ws hw).2 s hs
        unfold maxLen
        omega⟩⟩
  clear h1 h2 h3 hN hlen
  obtain ⟨P, hPe⟩ : ∃ P, idxP (fun _ => []) 0 wss = P := ⟨_, rfl⟩
  rw [hPe] at hok hPl
  generalize askOf l2 = ask at *
  have hrow : ∀ s, Row (P s) (wss.length : Int) := fun s => (hok s).row
  obtain ⟨K2, g2⟩ := docs_all P hPl ask
  -- each word of a phrase
  have hw : ∀ p ∈ phr P ask, (0 ≤ p.f0 ∧ p.f0 < wss.length ∧ 0 ≤ p.f1 ∧ p.f1 ≤ 1000) ∧ ∀ i : Nat, i < ask.length → ∃ e : Nat, e < (P (ask.getD i ByteArray.empty)).length ∧ rd_T39 (P (ask.getD i ByteArray.empty)) (e : Int) = ⟨p.f0, p.f1 + (i : Int)⟩ := fun p hp => by
    unfold phr at hp
    obtain ⟨hp1, hp2⟩ := List.mem_filter.1 hp
    obtain ⟨e, he, hr⟩ := mem_rd hp1
    have hs := (hrow _).sm e he
    rw [hr] at hs
    refine ⟨hs, fun i hi => ?_⟩
    have hb := okP_get P p ask 0 hp2 i hi
    rw [Nat.zero_add, w64 (by omega) (by omega)] at hb
    exact (hrow _).found (by omega) (by unfold Sm; simp only; omega) hb
  have hcf : ∀ x ∈ (phr P ask).flatMap (fun p => (List.range ask.length).map fun i => (p, i)), Gets (fun k => word_Place_14.f k (P (ask.getD x.2 ByteArray.empty)) x.1.f0 (wrap64 (x.1.f1 + (x.2 : Int)))) (· = true) := fun x hx => by
    obtain ⟨p, hp, hx⟩ := List.mem_flatMap.1 hx
    obtain ⟨i, hi, rfl⟩ := List.mem_map.1 hx
    have hi := List.mem_range.1 hi
    obtain ⟨q1, q2⟩ := hw p hp
    have h := q2 i hi
    simp only
    rw [w64 (by omega) (by omega)]
    exact cont_f _ (hPl _) _ _ h
  obtain ⟨K3, g3⟩ := gets_all _ hcf
  refine ⟨max (max K K2) (max K3 K4), wss, fun s => docsR [] (P s), hW _ (by omega), (g4 (max (max K K2) (max K3 K4)) (by omega)).trans (by rw [hb4]), fun s hs => ⟨by rw [hPe]; exact g2 (max (max K K2) (max K3 K4)) (by omega) s hs, docsR_sorted _ _ List.Pairwise.nil (hok s).1 (fun x hx => by simp at hx), ?_⟩, fun p hp => ?_, ?_⟩
  · have := docsR_len (P s) []
    have := hPl s
    simp only [List.length_nil] at *
    omega
  · rw [hPe] at hp ⊢
    obtain ⟨⟨q1, q2, q3, q4⟩, q5⟩ := hw p hp
    rw [hz]
    refine ⟨q3, by omega, ?_, fun i hi => g3 (max (max K K2) (max K3 K4)) (by omega) (p, i) (List.mem_flatMap.2 ⟨p, hp, List.mem_map.2 ⟨i, List.mem_range.2 hi, rfl⟩⟩)⟩
    obtain ⟨o1, o2⟩ := ord_le P (wss.length : Int) hrow (by omega) p.f0 p.f1 ⟨q1, q2⟩ ⟨q3, q4⟩ ask 0 (-1) (by omega) (by omega) (by omega) (fun j hj => by rw [Nat.zero_add]; exact q5 j hj)
    rw [Nat.zero_add] at o2
    refine List.any_eq_true.2 ⟨⟨p.f0, (ordS P p.f0 (-1) true ask).1⟩, ?_, ?_⟩
    · unfold ordL
      refine List.mem_flatMap.2 ⟨p.f0.toNat, List.mem_range.2 (by omega), ?_⟩
      unfold ordE
      rw [show ((p.f0.toNat : Nat) : Int) = p.f0 by omega, if_pos o1]
      exact List.mem_singleton.2 rfl
    · unfold cl1B
      rw [Bool.and_eq_true, decide_eq_true_eq, decide_eq_true_eq]
      exact ⟨rfl, by simp only; omega⟩
  · rw [hz, hPe]
    intro hne
    refine Bool.eq_false_iff.2 fun h => ?_
    obtain ⟨q, hq, hn⟩ := List.any_eq_true.1 h
    unfold ordL at hq
    obtain ⟨d, hd, hq⟩ := List.mem_flatMap.1 hq
    unfold ordE at hq
    split at hq
    case isFalse => simp at hq
    case isTrue c =>
      have e := List.mem_singleton.1 hq
      have hall := (ord_all P (d : Int) ask (-1) true c).2
      have hmem : ∀ s ∈ ask, (d : Int) ∈ docsR [] (P s) := fun s hs => by
        obtain ⟨x, hx1, hx2⟩ := hall s hs
        rw [← hx2]
        refine docsR_mem _ _ _ ?_
        rw [rd39 hx1]
        exact List.getElem_mem hx1
      have hc : (d : Int) ∈ allL (fun s => docsR [] (P s)) ask := by
        unfold allL
        cases ask with
        | nil => exact absurd hne (by simp)
        | cons s t => exact foldl_mem _ _ t _ (hmem s List.mem_cons_self) (fun x hx => hmem x (List.mem_cons_of_mem _ hx))
      rw [e] at hn
      unfold hasI at hn
      simp [hc] at hn
end WordP
end Go.Proofs.Ytchjgjpoephljaa.Pure
