/- Bytes laid over one another by the spans of a road (ArrayRoads): gotK, gotL; the image of members. (ArrayRoads: the law.) -/
import Derived.Test.YtppbkljdeiegjaaPureArrSpanArrayRoads
namespace Go.Proofs.Ytppbkljdeiegjaa.Pure.GotArrayRoads
set_option linter.unusedVariables false
set_option linter.unusedSimpArgs false
open Go.RowKit Go.Proofs.Ytppbkljdeiegjaa.PArrayRoads Go.Proofs.Ytppbkljdeiegjaa.Pure.SpanArrayRoads Go.Proofs.YtppbkljdeiegjaaW.PrintWords Go.Proofs.YtppbkljdeiegjaaW.PrintLast Go.Proofs.YtppbkljdeiegjaaW.PrintMore Go.Proofs.YtppbkljdeiegjaaW.PrintMine Go.Proofs.YtppbkljdeiegjaaW.Plib
theorem gotK_succ (size : Nat) (img : List Int) (off n : Nat) (G : List Int) : gotK size img off (n + 1) G = (gotK size img off n G).set (n % size) (bx ((gotK size img off n G).getD (n % size) 0) (img.getD (off + n) 0)) := rfl
theorem gotK_add (size : Nat) (img : List Int) (off n1 : Nat) (h : n1 % size = 0) : ∀ (n2 : Nat) (G : List Int), gotK size img off (n1 + n2) G = gotK size img (off + n1) n2 (gotK size img off n1 G)
  | 0, G => rfl
  | n2 + 1, G => by
    have ih := gotK_add size img off n1 h n2 G
    have e : (n1 + n2) % size = n2 % size := by rw [Nat.add_mod, h, Nat.zero_add, Nat.mod_mod]
    rw [← Nat.add_assoc, gotK_succ, gotK_succ, ih, e, Nat.add_assoc]
theorem gotL_app (size : Nat) (img : List Int) (a b : List S42) (G : List Int) : gotL size img (a ++ b) G = gotL size img b (gotL size img a G) := by
  unfold gotL
  rw [List.foldl_append]
theorem gotL_one (size : Nat) (img : List Int) (y : S42) (G : List Int) : gotL size img [y] G = gotK size img y.f0.toNat y.f1.toNat G := rfl
def Mult (size : Nat) (l : List S42) : Prop := ∀ s ∈ l, 0 ≤ s.f0 ∧ 0 < s.f1 ∧ s.f1 % (size : Int) = 0
theorem glue_got (size : Nat) (img G : List Int) (acc : List S42) (s : S42) (ha : Mult size acc) (hs : 0 ≤ s.f0 ∧ 0 < s.f1 ∧ s.f1 % (size : Int) = 0) : gotL size img (glue acc s) G = gotL size img (acc ++ [s]) G ∧ Mult size (glue acc s) ∧ (glue acc s).length ≤ acc.length + 1 := by
  rcases List.eq_nil_or_concat acc with rfl | ⟨a, t, e⟩
  · rw [glue_nil]
    refine ⟨rfl, fun x hx => ?_, Nat.le_refl _⟩
    rw [List.mem_singleton.1 hx]
    exact hs
  · rw [List.concat_eq_append] at e
    subst e
    obtain ⟨t1, t2, t3⟩ := ha t (by simp)
    rw [glue_snoc]
    split
    case isTrue c =>
      refine ⟨?_, fun x hx => ?_, by simp⟩
      · rw [gotL_app, gotL_app size img (a ++ [t]), gotL_app size img a [t], gotL_one, gotL_one, gotL_one]
        have e1 : (t.f1 + s.f1).toNat = t.f1.toNat + s.f1.toNat := by omega
        have e2 : t.f1.toNat % size = 0 := by
          have h2 : t.f1 = ((t.f1.toNat : Nat) : Int) := by omega
          rw [h2] at t3
          omega
        show gotK size img t.f0.toNat (t.f1 + s.f1).toNat _ = _
        rw [e1, gotK_add size img _ _ e2, show t.f0.toNat + t.f1.toNat = s.f0.toNat by omega]
      · rcases List.mem_append.1 hx with h | h
        · exact ha x (List.mem_append_left _ h)
        · rw [List.mem_singleton.1 h]
          refine ⟨t1, by show 0 < t.f1 + s.f1; omega, ?_⟩
          show (t.f1 + s.f1) % (size : Int) = 0
          rw [Int.add_emod, t3, hs.2.2]
          rfl
    case isFalse c =>
      refine ⟨rfl, fun x hx => ?_, by simp⟩
      rcases List.mem_append.1 hx with h | h
      · exact ha x h
      · rw [List.mem_singleton.1 h]
        exact hs
theorem steps_got (size : Nat) (img G : List Int) : ∀ (l acc : List S42), Mult size acc → Mult size l → gotL size img (l.foldl SpanArrayRoads.step acc) G = gotL size img (acc ++ l) G ∧ Mult size (l.foldl SpanArrayRoads.step acc) ∧ (l.foldl SpanArrayRoads.step acc).length ≤ acc.length + l.length
  | [], acc, ha, _ => by
    rw [List.append_nil]
    exact ⟨rfl, ha, by simp⟩
  | s :: l, acc, ha, hl => by
    have hs := hl s List.mem_cons_self
    obtain ⟨g1, g2, g3⟩ := glue_got size img G acc s ha hs
    have e : SpanArrayRoads.step acc s = glue acc s := by unfold SpanArrayRoads.step; rw [if_pos hs.2.1]
    obtain ⟨i1, i2, i3⟩ := steps_got size img G l (glue acc s) g2 (fun x hx => hl x (List.mem_cons_of_mem _ hx))
    rw [List.foldl_cons, e]
    refine ⟨?_, i2, by rw [List.length_cons]; omega⟩
    rw [i1, gotL_app, g1, ← gotL_app]
    simp
theorem gotK_get (size : Nat) (img : List Int) (x : Nat) (G : List Int) (hG : G.length = size) : ∀ n, n ≤ size → ∀ t, (gotK size img x n G).getD t 0 = if t < n then bx (G.getD t 0) (img.getD (x + t) 0) else G.getD t 0
  | 0, _, t => by rw [if_neg (Nat.not_lt_zero t)]; rfl
  | n + 1, h, t => by
    have ih := gotK_get size img x G hG n (by omega)
    have hm : n % size = n := Nat.mod_eq_of_lt (by omega)
    rw [gotK_succ, hm, getD_set, gotK_len, hG, ih n, ih t, if_neg (Nat.lt_irrefl n)]
    by_cases c : n = t
    · subst c
      rw [if_pos ⟨rfl, by omega⟩, if_pos (by omega)]
    · rw [if_neg (fun e => c e.1)]
      by_cases c2 : t < n
      · rw [if_pos c2, if_pos (by omega)]
      · rw [if_neg c2, if_neg (by omega)]
/-- Spans of one length: what is laid over place t. -/
theorem gotL_get (size : Nat) (img : List Int) (t : Nat) (ht : t < size) : ∀ (xs : List Nat) (G : List Int), G.length = size → (gotL size img (xs.map fun x : Nat => (⟨(x : Int), (size : Int)⟩ : S42)) G).getD t 0 = xs.foldl (fun g x => bx g (img.getD (x + t) 0)) (G.getD t 0)
  | [], G, _ => rfl
  | x :: xs, G, hG => by
    have h1 : (gotK size img x size G).length = size := by rw [gotK_len, hG]
    have ih := gotL_get size img t ht xs (gotK size img x size G) h1
    rw [gotK_get size img x G hG size (Nat.le_refl _), if_pos ht] at ih
    exact ih
/-- The image's bytes. -/
theorem imgL_get (S : Nat) : ∀ (mem : List (List Int)) (i j : Nat), (∀ y ∈ mem, y.length ≤ S) → i < mem.length → j < S → (imgL S mem).getD (i * S + j) 0 = (mem.getD i []).getD j 0
  | [], i, j, _, h, _ => absurd h (Nat.not_lt_zero _)
  | y :: mem, i, j, hy, h, hj => by
    have hl : (y ++ List.replicate (S - y.length) 0).length = S := by
      have := hy y List.mem_cons_self
      rw [List.length_append, List.length_replicate]
      omega
    show ((y ++ List.replicate (S - y.length) 0) ++ imgL S mem).getD (i * S + j) 0 = _
    cases i with
    | zero =>
      rw [Nat.zero_mul, Nat.zero_add, List.getD_eq_getElem?_getD, List.getElem?_append_left (by omega)]
      by_cases c : j < y.length
      · rw [List.getElem?_append_left c, ← List.getD_eq_getElem?_getD]
        rfl
      · rw [List.getElem?_append_right (by omega), List.getElem?_replicate, if_pos (by have := hy y List.mem_cons_self; omega)]
        show (0 : Int) = y.getD j 0
        rw [List.getD_eq_getElem?_getD, List.getElem?_eq_none (by omega)]
        rfl
    | succ i =>
      rw [List.getD_eq_getElem?_getD, List.getElem?_append_right (by rw [hl, Nat.add_mul]; omega), hl, show (i + 1) * S + j - S = i * S + j by rw [Nat.add_mul]; omega, ← List.getD_eq_getElem?_getD, imgL_get S mem i j (fun z hz => hy z (List.mem_cons_of_mem _ hz)) (by simpa using h) hj]
      rfl
/-- A run within one chunk is one triple. -/
theorem runsL_one (a : Ar) (ha : a.Ok) (fn size o : Nat) (hs : 1 ≤ size) (hc : o % a.c + size ≤ a.c) : runsL a fn size o size = [⟨if a.k = 1 then (fn : Int) else (a.mem (o / a.c) : Int), ((o / a.c / a.w * a.c + o % a.c : Nat) : Int), (size : Int)⟩] := by
  obtain ⟨s, rfl⟩ : ∃ s, size = s + 1 := ⟨size - 1, by omega⟩
  have hk : (if a.k = 1 then s + 1 else min (s + 1) (a.c - o % a.c)) = s + 1 := by
    split
    · rfl
    · omega
  show (if s + 1 = 0 then [] else _) = _
  rw [if_neg (by omega)]
  simp only [hk, Nat.sub_self, runsL_zero]
theorem in_chunk (a : Ar) (ha : a.Ok) (o size : Nat) (h : o % 64 + size ≤ 64) : o % a.c + size ≤ a.c := by
  unfold Ar.c
  rcases ha.ch with e | e <;> rw [e] <;> omega
end Go.Proofs.Ytppbkljdeiegjaa.Pure.GotArrayRoads
