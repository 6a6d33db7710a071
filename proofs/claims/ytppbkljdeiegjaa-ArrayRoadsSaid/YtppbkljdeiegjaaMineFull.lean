/- Lemmas of this session: 'xs[:n:n]', a row without room behind it; what is appended to it lies anew. -/
import Derived.Test.YtppbkljdeiegjaaMine
namespace Go.Proofs.YtppbkljdeiegjaaW.PrintMine
open Go.RowKit Go.Proofs.YtppbkljdeiegjaaW.PrintWords Go.Proofs.YtppbkljdeiegjaaW.PrintLast Go.Proofs.YtppbkljdeiegjaaW.PrintMore
/-- No room behind it. -/
def Full (v : Value) (n : Nat) : Prop := ∃ A, v = .slice A n n
section
variable {P : Program}
theorem cut_to3 (t e : TypeId) (kh : IntKind) {i : TypeInfo} (ht : P.underlying t = some (.slice e)) (hi : P.info? e = some i) (A : Option Addr) (n c : Nat) (j : Int) (h0 : 0 ≤ j) (hm : j ≤ n) (hc : n ≤ c) :
    ∀ W : World, (Instr.slice t (.slice A n c) none (some (.int kh j)) (some (.int kh j))).run P W = .ok (.slice A j.toNat j.toNat) W := by
  intro W
  have hel : P.elem t = e := by simp [Program.elem, ht]
  have hu : P.underlying t = some (.slice (P.elem t)) := by rw [hel]; exact ht
  have ha : (A.map fun x => x.add 0) = A := by cases A <;> simp [Addr.add]
  rw [run_slice_hm W t A n c hu kh kh j j h0 (Int.le_refl _) (by omega), hel]
  simp [sizeOf, typeInfo, hi, sliced, Result.andThen, ha]
variable {α : Type} {enc : α → Value} {h1 : ∀ x, (enc x).oneCell' = true}
theorem cells_of {W : World} {ad : Addr} {xs : List α} (HC : (Kd.scalar enc h1).C W (some ad) xs.length xs) : ∀ j v, (xs.map enc)[j]? = some v → W.cell? (ad.add j) = some v := by
  intro j v hv
  rw [List.getElem?_map] at hv
  obtain ⟨p, hp, rfl⟩ := Option.map_eq_some_iff.1 hv
  have hj := (List.getElem?_eq_some_iff.1 hp).1
  obtain ⟨ad', he, hc⟩ := HC.2.2 (by omega)
  injection he with he
  subst he
  obtain ⟨c, hc1, hc2, hc3⟩ := hc j p hp
  have hc2' : c = [enc p] := hc2
  subst hc2'
  have := hc3 0 _ rfl
  rwa [show j * (Kd.scalar enc h1).sz + 0 = j from by show j * 1 + 0 = j; omega] at this
theorem run_append_full {W : World} (t ty e : TypeId) (z : Value) (bytes : Nat) (i : TypeInfo) (ht : P.underlying t = some (.slice e)) (hi : P.info? e = some i) (hz : i.zero = some z) (hsz : i.size = 1) (hby : i.bytes = bytes) (hzs : z.cells.size = 1)
    (A A2 : Option Addr) (c2 : Nat) (xs ys : List α) (HC : (Kd.scalar enc h1).C W A xs.length xs) (HC2 : (Kd.scalar enc h1).C W A2 ys.length ys) (hy : 0 < ys.length) (hb : 0 < bytes) (hl : (xs.length + ys.length) * bytes ≤ 140737488355328) :
    ∃ v1 w1, (Builtin.append_ #[t, t] ty #[.slice A xs.length xs.length, .slice A2 ys.length c2]).run P W = .ok v1 w1 ∧ (Kd.scalar enc h1).R e w1 W.heap.size (fun _ => True) v1 (xs ++ ys) ∧ W.grownBy w1 none := by
  have hle : xs.length + ys.length ≤ 140737488355328 := Nat.le_trans (Nat.le_mul_of_pos_right _ hb) hl
  obtain ⟨ad2, e2, _⟩ := HC2.2.2 hy
  subst e2
  have hnews := cells_of HC2
  have hlen : ((xs ++ ys).map enc).length = (xs.length + ys.length) * 1 := by simp
  subst hby
  have fin : ∀ (old : Nat) (W2 : World), W2 = W.drew.alloc (.cells ((xs.map enc).toArray ++ (ys.map enc).toArray ++ Builtin.zeroCells z.cells (grownCap W (xs.length + ys.length) old e - (xs.length + ys.length))) e) →
      (Kd.scalar enc h1).R e W2 W.heap.size (fun _ => True) (.slice (some ⟨W.heap.size, 0, none⟩) (xs.length + ys.length) (grownCap W (xs.length + ys.length) old e)) (xs ++ ys) ∧ W.grownBy W2 none := by
    intro old W2 hW2
    have hge := grownCap_ge W (xs.length + ys.length) old e
    have hcm : grownCap W (xs.length + ys.length) old e ≤ maxLen := grownCap_le_maxLen W (xs.length + ys.length) old e (by simp only [maxLen]; omega)
    have hh : W2.heap[W.heap.size]? = some (.cells ((xs.map enc).toArray ++ (ys.map enc).toArray ++ Builtin.zeroCells z.cells (grownCap W (xs.length + ys.length) old e - (xs.length + ys.length))) e (0, 0)) := by
      rw [hW2]; exact heap_alloc_new W.drew _
    have hl2 : (xs ++ ys).length = xs.length + ys.length := List.length_append
    refine ⟨⟨fun _ _ => trivial, (xs ++ ys).map enc, ⟨by rw [hlen, hl2]; rfl, .inr ⟨W.heap.size, _, _, by rw [hl2], Nat.le_refl _, hh, by rw [hl2]; exact hge, hcm, ?_, ?_⟩⟩, by rw [hlen, hl2]; rfl, fun t p hp => ?_⟩, ?_⟩
    · show _ = _ * 1
      simp only [Array.size_append, List.size_toArray, size_zeroCells, hzs, List.length_map, Nat.mul_one]
      omega
    · show List.take ((xs ++ ys).length * 1) _ = _
      simp only [Array.toList_append, List.append_assoc, Nat.mul_one]
      rw [← List.append_assoc, ← List.map_append]
      exact List.take_left' (by rw [List.length_map])
    · show (((xs ++ ys).map enc).drop (t * 1)).take 1 = [enc p]
      obtain ⟨ht, hp'⟩ := List.getElem?_eq_some_iff.1 hp
      rw [Nat.mul_one, List.drop_eq_getElem_cons (by rw [List.length_map]; exact ht), List.take_succ_cons, List.take_zero, List.getElem_map, hp']
    · refine ⟨by rw [hW2]; rfl, by rw [hW2]; rfl, by rw [hW2]; rfl, ?_, fun k hk _ => ?_⟩
      · rw [hW2]; simp
      · rw [hW2]
        exact Go.heap_alloc_old W.drew _ (show k < W.drew.heap.size from hk)
  cases A with
  | none =>
    have h0 : xs.length = 0 := by
      rcases Nat.eq_zero_or_pos xs.length with h0 | h0
      · exact h0
      · obtain ⟨ad, h, _⟩ := HC.2.2 h0
        cases h
    obtain rfl := List.eq_nil_of_length_eq_zero h0
    have hr := run_append_nil (P := P) W t ty e i z ht hi hz ad2 ys.length c2 (ys.map enc) (by rw [hsz]; simp) hnews hy (by omega) (by simp only [List.length_nil, Nat.zero_add] at hl; omega)
    obtain ⟨f1, f2⟩ := fin 0 _ rfl
    simp only [List.length_nil, Nat.zero_add, List.nil_append, List.map_nil] at f1 f2 hr ⊢
    refine ⟨_, _, hr, ?_, ?_⟩
    · simpa using f1
    · simpa using f2
  | some ad =>
    have hr := run_append_grow (P := P) W t ty e i z ht hi hz ad xs.length xs.length (xs.map enc) (by rw [hsz]; simp) (cells_of HC) ad2 ys.length c2 (ys.map enc) (by rw [hsz]; simp) hnews (by omega) (by omega) (growslice_fits (by omega) hl)
    obtain ⟨f1, f2⟩ := fin xs.length _ rfl
    exact ⟨_, _, hr, f1, f2⟩
variable {ops : Array Oper} {rest : List Oper} {o : Oper} {a : Act} {Q : Exit → Act → World → Prop}
theorem append_full {W : World} {base : Nat} {ok : Nat → Prop} (hgd : o.guard = none) (s x : Operand) (t e : TypeId) (z : Value) (bytes : Nat) (ho : o.op = .call { callee := .builtin .append, args := #[s, x], argTypes := #[t, t] })
    (ht : P.underlying t = some (.slice e)) (hinfo : (P.info? e).map (fun i => (i.zero, i.size, i.bytes)) = some (some z, 1, bytes)) (hz : z.cells.size = 1) (hb : 0 < bytes)
    (v : Value) (xs ys : List α) (A2 : Option Addr) (m c2 : Nat) (hm : m = ys.length) (hs : a.eval s = v) (hx : a.eval x = .slice A2 m c2)
    (HV : Kd.V (Kd.scalar enc h1) e W base ok v xs) (HF : Full v xs.length) (HC2 : (Kd.scalar enc h1).C W A2 ys.length ys) (hy : 0 < ys.length) (hl : (xs.length + ys.length) * bytes ≤ 140737488355328)
    (h : ∀ v1 w1, (Kd.scalar enc h1).R e w1 W.heap.size (fun _ => True) v1 (xs ++ ys) → Below W.heap.size W w1 → W.grownBy w1 none → True → wpList P ops Q rest (a.put o.dst v1) w1) : wpList P ops Q (o :: rest) a W := by
  subst hm
  obtain ⟨i, hi, hzz⟩ := Option.map_eq_some_iff.1 hinfo
  simp only [Prod.mk.injEq] at hzz
  obtain ⟨hz0, hz1, hz2⟩ := hzz
  obtain ⟨A, rfl⟩ := HF
  have hCC : (Kd.scalar enc h1).C W A xs.length xs := (Kd.V_reads' HV).2.2
  obtain ⟨v1, w1, hr, r1, r2⟩ := run_append_full (P := P) t o.type e z bytes i ht hi hz0 hz1 hz2 hz A A2 c2 xs ys hCC HC2 hy hb hl
  refine wpList_plain hgd fun K hK => ?_
  unfold Oper.wp execOp
  simp only [ho, resolve, invoke, builtin, Sem.run_bind, Sem.run_pure, Result.andThen_ok, List.map_toArray, List.map_cons, List.map_nil, hs, hx, hr]
  exact hK _ _ (h v1 w1 r1 ⟨r2.os, r2.tape, r2.output, r2.size, fun k hk => r2.block k hk (by simp)⟩ r2 trivial)
end
end Go.Proofs.YtppbkljdeiegjaaW.PrintMine
