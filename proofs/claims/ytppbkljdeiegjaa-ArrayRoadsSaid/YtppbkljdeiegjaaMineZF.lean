/- Lemmas of this session: append(xs, make([]T, n)...) where xs has no room behind it. -/
import Derived.Test.YtppbkljdeiegjaaMineFull
namespace Go.Proofs.YtppbkljdeiegjaaW.PrintMine
open Go.RowKit Go.Proofs.YtppbkljdeiegjaaW.PrintWords Go.Proofs.YtppbkljdeiegjaaW.PrintLast Go.Proofs.YtppbkljdeiegjaaW.PrintMore
section
variable {P : Program}
variable {α : Type} {enc : α → Value} {h1 : ∀ x, (enc x).oneCell' = true}
theorem zeros_list (z : Value) (z0 : α) (hz : z.cells = #[enc z0]) (m : Nat) : Builtin.zeroCells z.cells m = ((List.replicate m z0).map enc).toArray := by
  rw [hz]
  refine Array.ext ?_ fun i h1 h2 => ?_
  · simp [Builtin.zeroCells]
  · simp [Builtin.zeroCells, Nat.mod_one]
theorem run_append_zeros_full {W : World} (t ti ty e : TypeId) (z : Value) (bytes : Nat) (i : TypeInfo) (ht : P.underlying t = some (.slice e)) {k : IntKind} (hti : P.underlying ti = some (.int k)) (hi : P.info? e = some i) (hz : i.zero = some z) (hsz : i.size = 1) (hby : i.bytes = bytes) (z0 : α) (hz0 : z.cells = #[enc z0])
    (A : Option Addr) (xs : List α) (m : Nat) (kx : IntKind) (HC : (Kd.scalar enc h1).C W A xs.length xs) (hm : 0 < m) (hb : 0 < bytes) (hl : (xs.length + m) * bytes ≤ 140737488355328) :
    ∃ v1 w1, (Builtin.append_ #[t, ti] ty #[.slice A xs.length xs.length, .int kx m]).run P W = .ok v1 w1 ∧ (Kd.scalar enc h1).R e w1 W.heap.size (fun _ => True) v1 (xs ++ List.replicate m z0) ∧ W.grownBy w1 none := by
  have hle : xs.length + m ≤ 140737488355328 := Nat.le_trans (Nat.le_mul_of_pos_right _ hb) hl
  have hlen : ((xs ++ List.replicate m z0).map enc).length = (xs.length + m) * 1 := by simp
  subst hby
  have hzs : z.cells.size = 1 := by rw [hz0]; rfl
  have fin : ∀ (W2 : World), W2 = W.drew.alloc (.cells ((xs.map enc).toArray ++ ((List.replicate m z0).map enc).toArray ++ Builtin.zeroCells z.cells (grownCap W (xs.length + m) xs.length e - (xs.length + m))) e) →
      (Kd.scalar enc h1).R e W2 W.heap.size (fun _ => True) (.slice (some ⟨W.heap.size, 0, none⟩) (xs.length + m) (grownCap W (xs.length + m) xs.length e)) (xs ++ List.replicate m z0) ∧ W.grownBy W2 none := by
    intro W2 hW2
    have hge := grownCap_ge W (xs.length + m) xs.length e
    have hcm : grownCap W (xs.length + m) xs.length e ≤ maxLen := grownCap_le_maxLen W (xs.length + m) xs.length e (by simp only [maxLen]; omega)
    have hh : W2.heap[W.heap.size]? = some (.cells ((xs.map enc).toArray ++ ((List.replicate m z0).map enc).toArray ++ Builtin.zeroCells z.cells (grownCap W (xs.length + m) xs.length e - (xs.length + m))) e (0, 0)) := by
      rw [hW2]; exact heap_alloc_new W.drew _
    have hl2 : (xs ++ List.replicate m z0).length = xs.length + m := by simp
    refine ⟨⟨fun _ _ => trivial, (xs ++ List.replicate m z0).map enc, ⟨by rw [hlen, hl2]; rfl, .inr ⟨W.heap.size, _, _, by rw [hl2], Nat.le_refl _, hh, by rw [hl2]; exact hge, hcm, ?_, ?_⟩⟩, by rw [hlen, hl2]; rfl, fun t p hp => ?_⟩, ?_⟩
    · show _ = _ * 1
      simp only [Array.size_append, List.size_toArray, size_zeroCells, hzs, List.length_map, List.length_replicate, Nat.mul_one]
      omega
    · show List.take ((xs ++ List.replicate m z0).length * 1) _ = _
      simp only [Array.toList_append, List.append_assoc, Nat.mul_one]
      rw [← List.append_assoc, ← List.map_append]
      exact List.take_left' (by rw [List.length_map])
    · show (((xs ++ List.replicate m z0).map enc).drop (t * 1)).take 1 = [enc p]
      obtain ⟨ht, hp'⟩ := List.getElem?_eq_some_iff.1 hp
      rw [Nat.mul_one, List.drop_eq_getElem_cons (by rw [List.length_map]; exact ht), List.take_succ_cons, List.take_zero, List.getElem_map, hp']
    · refine ⟨by rw [hW2]; rfl, by rw [hW2]; rfl, by rw [hW2]; rfl, ?_, fun k hk _ => ?_⟩
      · rw [hW2]; simp
      · rw [hW2]
        exact Go.heap_alloc_old W.drew _ (show k < W.drew.heap.size from hk)
  have hw : IntKind.i64.wrap (m : Int) = m := by rw [IntKind.wrap_i64]; omega
  have hneg : ¬ ((m : Int) < 0) := by omega
  have hmb : m * i.bytes ≤ 140737488355328 := Nat.le_trans (Nat.mul_le_mul_right _ (Nat.le_add_left m xs.length)) hl
  have hbig : ¬ (281474976710656 < (m : Int) * (i.bytes : Int)) := by
    rw [← Int.natCast_mul]
    omega
  have hn : ¬ (xs.length + m ≤ xs.length) := by omega
  have h63' : ¬ (9223372036854775807 < ((xs.length : Int) + (m : Int))) := by omega
  have hfit := growslice_fits (show xs.length < xs.length + m by omega) hl
  have h48' : ¬ (281474976710656 < Builtin.nextslicecap (xs.length + m) xs.length * i.bytes) := by omega
  have hmz : ¬ (m * i.size = 0) := by rw [hsz]; omega
  have hna := zeros_list z z0 hz0 m
  have hfo : (Builtin.firstCells i.size xs.length (.slice A xs.length xs.length)).run P W.drew = .ok (xs.map enc).toArray W.drew := by
    cases A with
    | none =>
      have h0 : xs.length = 0 := by
        rcases Nat.eq_zero_or_pos xs.length with h0 | h0
        · exact h0
        · obtain ⟨ad, h, _⟩ := HC.2.2 h0
          cases h
      obtain rfl := List.eq_nil_of_length_eq_zero h0
      simp [Builtin.firstCells]
    | some ad => exact run_firstCells_some (P := P) W.drew i.size xs.length ad xs.length xs.length (xs.map enc) (by rw [hsz]; simp) (by simpa using cells_of HC)
  obtain ⟨f1, f2⟩ := fin _ rfl
  refine ⟨_, _, ?_, f1, f2⟩
  simp [Builtin.append_, run_underlying ht, run_underlying hti, sizeOf, typeInfo, zeroValue, hi, hz, asInt, asIntOf, hw, hneg, hbig, hn, h63', h48', Question.forced, hfo, newRow, grownCap, hmz, hna]
variable {ops : Array Oper} {rest : List Oper} {o : Oper} {a : Act} {Q : Exit → Act → World → Prop}
theorem append_zeros_full {W : World} (hgd : o.guard = none) (s x : Operand) (t ti e : TypeId) (z : Value) (z0 : α) (bytes : Nat) (ho : o.op = .call { callee := .builtin .append, args := #[s, x], argTypes := #[t, ti] })
    (ht : P.underlying t = some (.slice e)) {k : IntKind} (hti : P.underlying ti = some (.int k)) (hinfo : (P.info? e).map (fun i => (i.zero, i.size, i.bytes)) = some (some z, 1, bytes)) (hz0 : z.cells = #[enc z0]) (hb : 0 < bytes)
    (A : Option Addr) (xs : List α) (m : Nat) (kx : IntKind) (hs : a.eval s = .slice A xs.length xs.length) (hx : a.eval x = .int kx m) (HC : (Kd.scalar enc h1).C W A xs.length xs) (hm : 0 < m) (hl : (xs.length + m) * bytes ≤ 140737488355328)
    (h : ∀ v1 w1, (Kd.scalar enc h1).R e w1 W.heap.size (fun _ => True) v1 (xs ++ List.replicate m z0) → Below W.heap.size W w1 → wpList P ops Q rest (a.put o.dst v1) w1) : wpList P ops Q (o :: rest) a W := by
  obtain ⟨i, hi, hzz⟩ := Option.map_eq_some_iff.1 hinfo
  simp only [Prod.mk.injEq] at hzz
  obtain ⟨hz0', hz1, hz2⟩ := hzz
  obtain ⟨v1, w1, hr, r1, r2⟩ := run_append_zeros_full (P := P) (h1 := h1) t ti o.type e z bytes i ht hti hi hz0' hz1 hz2 z0 hz0 A xs m kx HC hm hb hl
  refine wpList_plain hgd fun K hK => ?_
  unfold Oper.wp execOp
  simp only [ho, resolve, invoke, builtin, Sem.run_bind, Sem.run_pure, Result.andThen_ok, List.map_toArray, List.map_cons, List.map_nil, hs, hx, hr]
  exact hK _ _ (h v1 w1 r1 ⟨r2.os, r2.tape, r2.output, r2.size, fun k hk => r2.block k hk (by simp)⟩)
end
end Go.Proofs.YtppbkljdeiegjaaW.PrintMine
