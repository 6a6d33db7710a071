-- written by hand after the rows that prn.py writes (a parameter [][]int)
import Derived.Test.YtchjgjpoephljaaRows
import Derived.Test.YtchjgjpoephljaaPWordChainx6
import Derived.Test.YtchjgjpoephljaaPureWordChain
import Derived.WalkKit
import Derived.ProofKit
import Derived.OpenShut
import Derived.ShutString
import Derived.ChangeOld
import Derived.Below
import Derived.SizedLaws
import Derived.Deep.Slices
import Derived.Test.YtchjgjpoephljaaWSized
/- wrackkeep3.WordChain returns true and leaves its arguments as they were. Conditions: none. -/
namespace Go.Proofs.Ytchjgjpoephljaa.wordChain
open Go.ChangeShapes Go.WideShapes Go.ChangeAt Go.RowKit Go.Proofs.YtchjgjpoephljaaW.PrintWords
set_option linter.unusedVariables false
theorem own : ownKnob Try.prog.godebug = none := by kernel_rfl
theorem laidOut : laidOutB Try.prog = true := by kernel_rfl
def IsRow (k : IntKind) (w : World) (a : Option Addr) (len cap : Nat) (zs : List Int) : Prop :=
  (a = none ∧ len = 0 ∧ cap = 0 ∧ zs = []) ∨
  ∃ x, a = some x ∧ len ≤ cap ∧ cap ≤ maxLen ∧ zs.length = cap ∧ (∀ i, i < zs.length → w.cell? (x.add i) = some (.int k (zs.getD i 0))) ∧ ∀ n ∈ zs, (Lit.int k n).wf = true
/-- A slice of ints that came in, as a row that is read. -/
theorem row_int {H : Type} {enc : TypeId × Value → H} {W : World} {fuel : Nat} {cs : List Value} {x : DataW H × List MemPlace} (hf : DataW.trod enc Try.prog W 0 (fun _ => true) true fuel 23 cs = some x) :
    ∃ (A : Option Addr) (c : Nat) (l : List Int), cs = [.slice A l.length c] ∧ l.length ≤ c ∧ Kd.C (Kd.int .i64) W A l.length l := by
  have h : ∃ (A : Option Addr) (n c : Nat) (zs : List Int), cs = [.slice A n c] ∧ IsRow .i64 W A n c zs := by
    rcases open_ints Try.underlying23 Try.underlying3 (by kernel_rfl) hf with ⟨hcs, _⟩ | ⟨y, l, c, zs, hcs, _, hl, hm, hz, _, hcell, hwz⟩
    · exact ⟨none, 0, 0, [], hcs, .inl ⟨rfl, rfl, rfl, rfl⟩⟩
    · exact ⟨some y, l, c, zs, hcs, .inr ⟨y, rfl, hl, hm, by simpa using hz, hcell, hwz⟩⟩
  obtain ⟨A, n, c, zs, rfl, hr⟩ := h
  obtain ⟨l, rfl, hr0, hm0, hw0, hc0⟩ := ReadsInt.ofRowC hr
  exact ⟨A, c, l, rfl, hc0, Kd.C_of_reads (d := (0 : Int)) (h1 := fun _ => rfl) hr0⟩
theorem row_ints {H : Type} {enc : TypeId × Value → H} {W : World} {fuel : Nat} {A : Option Addr} {n c : Nat} {x : DataW H × List MemPlace} (hf : DataW.trod enc Try.prog W 0 (fun _ => true) true fuel 22 [.slice A n c] = some x) :
    ∃ l : List (List Int), l.length = n ∧ n ≤ c ∧ Kd.C (Kd.slice 3 (Kd.int .i64)) W A n l := by
  rcases Go.Deep.open_slice1 Try.underlying22 (by kernel_rfl) hf with ⟨hcs, _⟩ | ⟨a, len, cap, m, f2, V, D, Pl, hcs, _, hl, hm, hmm, _, hcell⟩
  · simp at hcs
    obtain ⟨rfl, rfl, rfl⟩ := hcs
    exact ⟨[], rfl, Nat.le_refl _, ⟨rfl, by simp, fun h => absurd h (Nat.lt_irrefl 0)⟩⟩
  · simp at hcs
    obtain ⟨rfl, rfl, rfl⟩ := hcs
    have hlm : n ≤ m := by rw [hmm]; simp; exact hl
    have hx : ∀ i, ∃ z : List Int, i < n → ∃ (A : Option Addr) (q : Nat), V i = .slice A z.length q ∧ z.length ≤ q ∧ Kd.C (Kd.int .i64) W A z.length z := fun i => by
      by_cases hi : i < n
      · obtain ⟨A, q, z, e, h1, h2⟩ := row_int (hcell i (by omega)).2
        exact ⟨z, fun _ => ⟨A, q, List.cons.inj e |>.1, h1, h2⟩⟩
      · exact ⟨[], fun h => absurd h hi⟩
    refine ⟨(List.range n).map fun i => Classical.choose (hx i), by simp, hl, by simp, ?_, fun _ => ⟨a, rfl, fun j p hp => ?_⟩⟩
    · have : maxLen ≤ 9223372036854775807 := by decide
      omega
    · have hj : j < n := by
        have := (List.getElem?_eq_some_iff.1 hp).1
        simpa using this
      have e : p = Classical.choose (hx j) := by
        rw [List.getElem?_map, List.getElem?_range hj] at hp
        simpa using hp.symm
      obtain ⟨A2, q, hV, h1, h2⟩ := Classical.choose_spec (hx j) hj
      rw [← e] at hV h1 h2
      refine ⟨[V j], rfl, ⟨A2, q, by rw [hV], h1, h2⟩, fun i u hu => ?_⟩
      cases i with
      | zero =>
        have : V j = u := by simpa using hu
        rw [← this, show j * (Kd.slice 3 (Kd.int .i64)).sz + 0 = j from by show j * 1 + 0 = j; omega]
        exact (hcell j (by omega)).1
      | succ i => simp at hu
set_option maxRecDepth 100000 in
theorem lifted (os : Os) (started : os.Started) (H : Type) (enc : TypeId × Value → H) :
    ReturnsInHanded {} Try.checked os 3 .any (Rows.wordChainSpec.pre6 enc Try.prog Try.f3 Rows.wordChainRow.domain false) (Rows.wordChainSpec.post enc Try.prog Try.f3 false true false false) := by
  refine returnsInHanded_of_change_sized (C := Try.checked) own started (by kernel_rfl) Try.func3
    (ChangeSpec.witness6 (enc := enc) (C := Try.checked) false ⟨#[], #[.slice none 0 0, .slice none 0 0], []⟩ 8 (by kernel_rfl) (by kernel_rfl) (by kernel_rfl) (by kernel_rfl)) ?_
  intro W base args ds gs before hval0 hW hcnd hsz0 _
  have hval : ∀ (j : Nat) t v, Try.f3.params[j]? = some t → args[j]? = some v → Value.okWide Try.prog W .any base t v := hval0
  have hW' := hW
  obtain ⟨p, q, hA0, hV, rfl, hfz, hnd⟩ := hW
  have hA : DataW.TrodAll enc Try.prog W 0 (fun _ => true) true Try.f3.params.toList args.toList ds p := hA0
  rw [Try.params3] at hA hval
  obtain ⟨v0, vs0, d0, ds0, p0, q0, hargs, rfl, rfl, h0, r0⟩ := trodAll_cons hA
  obtain ⟨v1, vs1, d1, ds1, p1, q1, rfl, rfl, rfl, h1, r1⟩ := trodAll_cons r0
  obtain ⟨rfl, rfl, rfl⟩ := trodAll_nil r1
  obtain rfl : args = #[v0, v1] := by cases args; simp_all
  obtain ⟨rfl, rfl⟩ := trodVars_none hV
  obtain ⟨a0, len0, cap0, rfl⟩ := okWide_slice Try.underlying22 (hval 0 22 v0 rfl rfl)
  have k0 := h0
  have lt0 : ∀ x ∈ p0, x.block < W.heap.size := by obtain ⟨m, hm⟩ := k0; exact DataW.trod_lt m _ _ _ hm
  obtain ⟨l0, hl0, hc0, hC0⟩ : ∃ l : List (List Int), l.length = len0 ∧ len0 ≤ cap0 ∧ Kd.C (Kd.slice 3 (Kd.int .i64)) W a0 len0 l := by
    obtain ⟨fuel, hf⟩ := h0
    exact row_ints hf
  subst hl0
  obtain ⟨a1, len1, cap1, rfl⟩ := okWide_slice Try.underlying23 (hval 1 23 v1 rfl rfl)
  have k1 := h1
  have lt1 : ∀ x ∈ p1, x.block < W.heap.size := by obtain ⟨m, hm⟩ := k1; exact DataW.trod_lt m _ _ _ hm
  obtain ⟨l1, hl1, hc1, hC1⟩ : ∃ l : List Int, l.length = len1 ∧ len1 ≤ cap1 ∧ Kd.C (Kd.int .i64) W a1 len1 l := by
    obtain ⟨fuel, hf⟩ := h1
    obtain ⟨A, q, z, e, q1, q2⟩ := row_int hf
    have e2 : Value.slice a1 len1 cap1 = .slice A z.length q := List.cons.inj e |>.1
    injection e2 with e3 e4 e5
    subst e3 e4 e5
    exact ⟨z, rfl, q1, q2⟩
  subst hl1
  clear hA0 hval0 hsz0
  obtain ⟨k, wss, D, hW, hT, hD, hPh, hO⟩ := Pure.WordP.law l0 l1
  refine (PWordChain.wrackkeep3_WordChain.lawx k a0 cap0 l0 a1 cap1 l1 wss D W hC0 hc0 hC1 hc1 hW hT hD hPh hO).mono fun e W' ⟨he, bel⟩ => ?_
  subst he
  exact ⟨_, rfl, _, _, _, [], _, [], hW', trodAll_mk1 (shut_bool Try.underlying4 _), (trodAll_cons_mk (Below.trod laidOut (by kernel_rfl) (of_decide_eq_true (by kernel_rfl)) k0 bel lt0) (trodAll_cons_mk (Below.trod laidOut (by kernel_rfl) (of_decide_eq_true (by kernel_rfl)) k1 bel lt1) trodAll_mk0)), rfl, bel.frame _, fun h => by cases h⟩
theorem over : Rows.wordChainRow.holds Try.pinned (OpenSpec.ofChange Rows.wordChainSpec) :=
  OpenClaim.holds_of_wide 3 Try.f3 rfl rfl rfl rfl rfl rfl rfl ⟨rfl, rfl, rfl, rfl, rfl⟩ rfl rfl rfl rfl rfl (by kernel_rfl) Try.func3 (by kernel_rfl)
    (of_decide_eq_true (by kernel_rfl)) (by unfold Func.isWrapper; first | (rw [if_pos (by decide +kernel)]; kernel_rfl) | (rw [if_neg (by decide +kernel)]; exact ⟨rfl, rfl⟩))
    (fun os started H enc _ => lifted os started H enc)
theorem proved : Rows.WordChainSaid := over
#print axioms proved
end Go.Proofs.Ytchjgjpoephljaa.wordChain
namespace Go.Proofs.Ytchjgjpoephljaa
/-- The row, under a short name, for the claim. -/
theorem wordChain_holds : Rows.WordChainSaid := wordChain.proved
end Go.Proofs.Ytchjgjpoephljaa
