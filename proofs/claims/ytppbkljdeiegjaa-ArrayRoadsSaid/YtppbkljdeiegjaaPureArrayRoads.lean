/- The law ArrayRoads: what its walk asks holds at any arguments. (ArrayRoads: the law.) -/
import Derived.Test.YtppbkljdeiegjaaPureArrFactsArrayRoads
namespace Go.Proofs.Ytppbkljdeiegjaa.Pure.ArrArrayRoads
set_option linter.unusedVariables false
set_option linter.unusedSimpArgs false
open Go.RowKit Go.Proofs.Ytppbkljdeiegjaa.PArrayRoads Go.Proofs.Ytppbkljdeiegjaa.Pure.SpanArrayRoads Go.Proofs.Ytppbkljdeiegjaa.Pure.GotArrayRoads Go.Proofs.Ytppbkljdeiegjaa.Pure.CellArrayRoads Go.Proofs.Ytppbkljdeiegjaa.Pure.FactsArrayRoads Go.Proofs.YtppbkljdeiegjaaW.PrintWords Go.Proofs.YtppbkljdeiegjaaW.PrintLast Go.Proofs.YtppbkljdeiegjaaW.PrintMore Go.Proofs.YtppbkljdeiegjaaW.PrintMine Go.Proofs.YtppbkljdeiegjaaW.Plib
def Byt (l : List Int) : Prop := ∀ x ∈ l, 0 ≤ x ∧ x < 256

theorem data_l1 (n m : Nat) (c : Int) (hc : 0 ≤ c ∧ c < 256) (s : List Int) {P : List Int × List Int → Prop} (d : Nat) : ∀ (i : Nat) (out : List Int), i + d = m → m ≤ 9 → Byt out → out.length + d ≤ 4000 →
    (∀ out' : List Int, Byt out' → out'.length = out.length + d → Gets (fun k => wrackmake_data.l0 k out' (n : Int) s) P) → Gets (fun k => wrackmake_data.l1 k out (n : Int) c (m : Int) (i : Int) s) P := by
  induction d with
  | zero =>
    intro i out hi hm ho hl K
    refine Gets.up ?_
    simp only [wrackmake_data.l1, if_neg (show ¬ (i : Int) < (m : Int) by omega)]
    exact K out ho rfl
  | succ d ih =>
    intro i out hi hm ho hl K
    have q1 : (i : Int) < (m : Int) := by omega
    have q2 : out.length < 140737488355328 := by omega
    have hb : Byt (out ++ [c]) := fun x hx => by
      rcases List.mem_append.1 hx with hx | hx
      · exact ho x hx
      · rw [List.mem_singleton.1 hx]; exact hc
    have hl2 : (out ++ [c]).length = out.length + 1 := by rw [List.length_append, List.length_singleton]
    have key := ih (i + 1) (out ++ [c]) (by omega) hm hb (by omega) (fun out' h1 h2 => K out' h1 (by omega))
    have hw := w1 i m (by omega) (by omega)
    refine Gets.up ?_
    simp only [wrackmake_data.l1, hw]
    simp -implicitDefEqProofs only [if_pos q1, if_pos q2]
    exact key

theorem data_l0 (n : Nat) (hn : n ≤ 3000) (e : Nat) : ∀ (out s : List Int), n ≤ out.length + e → out.length ≤ 3100 → Byt out → Gets (fun k => wrackmake_data.l0 k out (n : Int) s) (fun r => r.1.length ≤ 3000 ∧ Byt r.1) := by
  have stop : ∀ (out s : List Int), n ≤ out.length → Byt out → Gets (fun k => wrackmake_data.l0 k out (n : Int) s) (fun r => r.1.length ≤ 3000 ∧ Byt r.1) := by
    intro out s h ho
    refine Gets.up ?_
    simp only [wrackmake_data.l0, if_neg (show ¬ (out.length : Int) < (n : Int) by omega), if_pos (show (0 : Int) ≤ (n : Int) by omega), if_pos (show (n : Int) ≤ (out.length : Int) by omega), Int.toNat_natCast]
    exact Gets.ret ⟨by simp only [List.length_take]; omega, fun x hx => ho x (List.mem_of_mem_take hx)⟩
  induction e with
  | zero => exact fun out s h _ ho => stop out s (by omega) ho
  | succ e ih =>
    intro out s h hlen ho
    by_cases c0 : n ≤ out.length
    · exact stop out s c0 ho
    · obtain ⟨v1, s1, hv1, a1, b1⟩ := next_f s (n := 256) (by omega) (by omega)
      obtain ⟨v2, s2, hv2, a2, b2⟩ := next_f s1 (n := 3) (by omega) (by omega)
      have more : ∀ (c : Int) (s' : List Int), 0 ≤ c ∧ c < 256 → Gets (fun k => wrackmake_data.j1 k out (n : Int) c s') (fun r => r.1.length ≤ 3000 ∧ Byt r.1) := by
        intro c s' hc
        obtain ⟨v, s3, hv, a, b⟩ := next_f s' (n := 9) (by omega) (by omega)
        obtain ⟨m, rfl⟩ : ∃ m : Nat, v = (m : Int) := ⟨v.toNat, by omega⟩
        have hw : wrap64 (1 + (m : Int)) = ((m + 1 : Nat) : Int) := by rw [w64] <;> omega
        refine Gets.up ?_
        simp only [wrackmake_data.j1]
        rw [hv]
        simp -implicitDefEqProofs only [Option.bind_some]
        rw [hw]
        exact data_l1 n (m + 1) c hc s3 (m + 1) 0 out (by omega) (by omega) ho (by omega) (fun out' h1 h2 => ih out' s3 (by omega) (by omega) h1)
      have q1 : (out.length : Int) < (n : Int) := by omega
      refine Gets.up ?_
      simp only [wrackmake_data.l0]
      rw [hv1]
      simp -implicitDefEqProofs only [if_pos q1, Option.bind_some, hv2]
      by_cases c1 : v2 > 0
      · obtain ⟨v3, s3, hv3, a3, b3⟩ := next_f s2 (n := 5) (by omega) (by omega)
        simp -implicitDefEqProofs only [if_pos c1, hv3, Option.bind_some, if_pos a3, if_pos b3]
        refine more _ s3 ?_
        have := bt_range (⟨#[97, 98, 99, 32, 0]⟩ : ByteArray) v3
        omega
      · simp -implicitDefEqProofs only [if_neg c1]
        exact more _ s2 ⟨Int.emod_nonneg _ (by omega), Int.emod_lt_of_pos _ (by omega)⟩

theorem bytes_f (s : List Int) (n : Nat) (hn : n ≤ 2048) : Gets (fun k => wrackmake_Bytes.f k s (n : Int)) (fun r => r.length ≤ 3000) := by
  have hm : (mx 0 (mn (n : Int) 65536)) + 1 = ((n + 1 : Nat) : Int) := by unfold mx mn; split <;> split <;> omega
  obtain ⟨v, s', hv, a, b⟩ := next_f s (n := ((n + 1 : Nat) : Int)) (by omega) (by omega)
  obtain ⟨q, rfl⟩ : ∃ q : Nat, v = (q : Int) := ⟨v.toNat, by omega⟩
  simp only [wrackmake_Bytes.f, wrackmake_data.f, hm, hv, Option.bind_some]
  refine (data_l0 q (by omega) q [] s' (by omega) (by simp) (fun x hx => by simp at hx)).bind fun r hr => ?_
  exact Gets.ret hr.1
theorem arrays_f : Gets (fun k => wrackkeep1_arrays.f k) (· = true) := Gets.of_mono wrackkeep1_arrays.mono (k := 30) (r := true) (by decide +kernel) rfl
theorem spans_ok : Gets (fun k => wrackkeep1_spans.f k) (· = true) := Gets.of_mono wrackkeep1_spans.mono (k := 30) (r := true) (by decide +kernel) rfl
theorem array_f (l : List Int) : ∃ a : Ar, a.Ok ∧ wrackmake_Array.f l = some ((a.k : Int), (a.m : Int), (a.ch : Int), a.lf) := by
  obtain ⟨v1, s1, e1, a1, b1⟩ := next_f l (n := 3) (by omega) (by omega)
  obtain ⟨v2, s2, e2, a2, b2⟩ := next_f s1 (n := 2) (by omega) (by omega)
  obtain ⟨v3, s3, e3, a3, b3⟩ := next_f s2 (n := 3) (by omega) (by omega)
  obtain ⟨v4, s4, e4, a4, b4⟩ := next_f s3 (n := 2) (by omega) (by omega)
  obtain ⟨v5, s5, e5, a5, b5⟩ := next_f s4 (n := 2) (by omega) (by omega)
  obtain ⟨n1, rfl⟩ : ∃ n : Nat, v1 = (n : Int) := ⟨v1.toNat, by omega⟩
  obtain ⟨n2, rfl⟩ : ∃ n : Nat, v2 = (n : Int) := ⟨v2.toNat, by omega⟩
  obtain ⟨n3, rfl⟩ : ∃ n : Nat, v3 = (n : Int) := ⟨v3.toNat, by omega⟩
  obtain ⟨n4, rfl⟩ : ∃ n : Nat, v4 = (n : Int) := ⟨v4.toNat, by omega⟩
  have w2 : wrap64 (1 + (n2 : Int)) = ((1 + n2 : Nat) : Int) := by rw [w64] <;> omega
  have w3 : wrap64 (2 + (n3 : Int)) = ((2 + n3 : Nat) : Int) := by rw [w64] <;> omega
  have w4 : wrap64 (3 + (n4 : Int)) = ((3 + n4 : Nat) : Int) := by rw [w64] <;> omega
  by_cases c : n1 = 2
  · subst c
    refine ⟨⟨2, 3 + n4, 1 + n2, v5 == 0⟩, ⟨by show 2 ≤ 2; omega, by show 2 ≤ 3 + n4 ∧ 3 + n4 ≤ 4; omega, fun _ => by show 3 ≤ 3 + n4; omega, by show 1 + n2 = 1 ∨ 1 + n2 = 2; omega, fun _ => rfl⟩, ?_⟩
    simp only [wrackmake_Array.f, e1, e2, e3, Option.bind_some, w2, w3]
    rw [if_pos (by rfl), e4]
    simp only [Option.bind_some, e5, w4]
  · refine ⟨⟨n1, 2 + n3, 1 + n2, false⟩, ⟨by show n1 ≤ 2; omega, by show 2 ≤ 2 + n3 ∧ 2 + n3 ≤ 4; omega, fun h => absurd h c, by show 1 + n2 = 1 ∨ 1 + n2 = 2; omega, fun h => by simp at h⟩, ?_⟩
    simp only [wrackmake_Array.f, e1, e2, e3, Option.bind_some, w2, w3]
    rw [if_neg (by omega)]
theorem below_nat (x : Int) (n : Nat) (h : 0 < n) (h2 : n ≤ 100000) : ∃ q : Nat, wrackmake_Below.f x (n : Int) = some (q : Int) ∧ q < n := by
  refine ⟨(x % (n : Int)).toNat, ?_, ?_⟩
  · rw [below_f (by omega) (by omega), Int.toNat_of_nonneg (Int.emod_nonneg _ (by omega))]
  · have h1 := Int.emod_nonneg x (show (n : Int) ≠ 0 by omega)
    have h3 := Int.emod_lt_of_pos x (show (0 : Int) < (n : Int) by omega)
    omega
theorem law (l1 l2 : List Int) (n off sz gone : Int) : ∃ (k rows gi o z : Nat) (a : Ar) (D : List Int), a.Ok ∧ wrackmake_Array.f l1 = some ((a.k : Int), (a.m : Int), (a.ch : Int), a.lf) ∧ wrackmake_Below.f n 4 = some ((rows - 1 : Nat) : Int) ∧ (1 ≤ rows ∧ rows ≤ 4) ∧ wrackmake_Bytes.f k l2 ((rows * a.w * a.c : Nat) : Int) = some D ∧ D.length ≤ 100000 ∧ wrackkeep1_arrays.f k = some true ∧ wrackkeep1_spans.f k = some true ∧ wrackmake_Below.f gone (a.m : Int) = some (gi : Int) ∧ gi < a.m ∧ wrackmake_Below.f off ((rows * a.w * a.c : Nat) : Int) = some (o : Int) ∧ o < rows * a.w * a.c ∧ wrackmake_Below.f sz ((min (64 - o % 64) (rows * a.w * a.c - o) : Nat) : Int) = some (z : Int) ∧ z < min (64 - o % 64) (rows * a.w * a.c - o) ∧ (∀ b : List Int, b.length = rows * a.w * a.c → (∀ x ∈ b, 0 ≤ x ∧ x < 256) → RoadFacts a rows gi o (1 + z) b) := by
  obtain ⟨a, ha, hA⟩ := array_f l1
  have hm := ha.m
  have hcc := ha.c_le
  have hww := ha.w_le4
  obtain ⟨r, hr1, hr2⟩ := below_nat n 4 (by omega) (by omega)
  have h1 : 1 * 1 ≤ (r + 1) * a.w := Nat.mul_le_mul (by omega) hww.1
  have h2 : (1 * 1) * 64 ≤ (r + 1) * a.w * a.c := Nat.mul_le_mul h1 hcc.1
  have h3 : (r + 1) * a.w ≤ 4 * 4 := Nat.mul_le_mul (by omega) hww.2
  have h4 : (r + 1) * a.w * a.c ≤ 16 * 128 := Nat.mul_le_mul h3 hcc.2
  obtain ⟨N, hN⟩ : ∃ N, N = (r + 1) * a.w * a.c := ⟨_, rfl⟩
  obtain ⟨gi, g1, g2⟩ := below_nat gone a.m (by omega) (by omega)
  obtain ⟨o, o1, o2⟩ := below_nat off N (by omega) (by omega)
  obtain ⟨z, z1, z2⟩ := below_nat sz (min (64 - o % 64) (N - o)) (by omega) (by omega)
  obtain ⟨K1, D, d1, k1⟩ := get_of (bytes_f l2 N (by omega))
  obtain ⟨K2, r2, d2, k2⟩ := get_of arrays_f
  obtain ⟨K3, r3, d3, k3⟩ := get_of spans_ok
  subst d2 d3
  refine ⟨K1 + K2 + K3, r + 1, gi, o, z, a, D, ha, hA, hr1, by omega, by rw [← hN]; exact k1 _ (by omega), by omega, k2 _ (by omega), k3 _ (by omega), g1, g2, by rw [← hN]; exact o1, by omega, by rw [← hN]; exact z1, by omega, fun b hb hby => ?_⟩
  exact facts a ha (r + 1) gi o (1 + z) (by omega) g2 (by omega) (by omega) (by omega) b hb hby
end Go.Proofs.Ytppbkljdeiegjaa.Pure.ArrArrayRoads
