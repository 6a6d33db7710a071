/- Lemmas of this session: 'copy(out[k:], ys)', out a row of scalars of the call's own. -/
import Derived.Test.YtppbkljdeiegjaaMine
namespace Go.Proofs.YtppbkljdeiegjaaW.PrintMine
open Go.RowKit Go.Proofs.YtppbkljdeiegjaaW.PrintWords Go.Proofs.YtppbkljdeiegjaaW.PrintLast Go.Proofs.YtppbkljdeiegjaaW.PrintMore
/-- ys laid over xs from place k on, as far as there is room. -/
def copyAt {α : Type} (xs : List α) (k : Nat) (ys : List α) : List α := xs.take k ++ (ys.take (min ys.length (xs.length - k)) ++ xs.drop (k + min ys.length (xs.length - k)))
theorem copyAt_length {α : Type} (xs : List α) (k : Nat) (ys : List α) (h : k ≤ xs.length) : (copyAt xs k ys).length = xs.length := by
  simp only [copyAt, List.length_append, List.length_take, List.length_drop]
  omega
section
variable {P : Program} {ops : Array Oper} {rest : List Oper} {o : Oper} {a : Act} {Q : Exit → Act → World → Prop}
variable {α : Type} {enc : α → Value} {h1 : ∀ x, (enc x).oneCell' = true}
theorem run_copy_at (d : α) {W : World} (base : Nat) (t t' ty e : TypeId) (ht : P.underlying t = some (.slice e)) (hinfo : (P.info? e).map (·.size) = some 1)
    {n c k nd cd m cs : Nat} {A0 A As : Option Addr} {xs ys : List α} {ok : Nat → Prop} (hA : A = if c = k then A0 else A0.map (·.add (k * 1))) (hnd : nd = n - k) (hk : k ≤ n)
    (HO : (Kd.scalar enc h1).R e W base ok (.slice A0 n c) xs) (HR : (Kd.scalar enc h1).C W As m ys) :
    ∃ w1, (Builtin.copy_ #[t, t'] ty #[.slice A nd cd, .slice As m cs]).run P W = .ok (goInt ((min m nd : Nat) : Int)) w1 ∧ (Kd.scalar enc h1).R e w1 base ok (.slice A0 n c) (copyAt xs k ys) ∧ W.grownBy w1 (Value.slice A0 n c).ownBlock := by
  obtain ⟨hn, hnc, _⟩ := Kd.R_reads' HO
  subst hn
  have hR := Kd.reads_of_C (enc := enc) (d := d) (h1 := h1) HR
  have hm : ys.length = m := hR.1
  have hown := Kd.own_of_R HO
  have hmin : min ys.length (xs.length - k) = min m nd := by rw [hm, hnd]
  unfold copyAt
  rw [hmin]
  rcases Nat.eq_zero_or_pos (min m nd) with h0 | hp
  · refine ⟨W, ?_, ?_, World.grownBy.refl W _⟩
    · rw [h0]
      exact run_copy_none W t t' ty e A As nd cd m cs ht hinfo h0
    · rw [h0, List.take_zero, List.nil_append, Nat.add_zero, List.take_append_drop]
      exact HO
  · obtain ⟨ad, hAs, hc⟩ := hR.2.2 (by omega)
    rcases hown.2 with ⟨hx1, hx0⟩ | ⟨g', cap, cur, hv, hb, hh, hnc', hcm, hcs, htake⟩
    · injection hx1 with e1 e2 e3
      omega
    have hgg : A0 = some ⟨g', 0, none⟩ ∧ cap = c := by
      injection hv with e1 e2 e3
      exact ⟨e1, e3.symm⟩
    obtain ⟨rfl, rfl⟩ := hgg
    have hkn : k < xs.length := by omega
    have hA' : A = some ⟨g', k, none⟩ := by
      rw [hA, if_neg (by omega)]
      simp only [Option.map_some, Addr.add, Nat.mul_one, Nat.zero_add]
      split
      · rename_i h0; rw [h0]
      · rfl
    have hcs1 : cur.size = cap := by omega
    have hsrc : ∀ j u, (encs enc (ys.take (min m nd)))[j]? = some u → W.cell? (ad.add j) = some u := by
      intro j u hu
      have hj : j < (ys.take (min m nd)).length := by
        rcases Nat.lt_or_ge j (ys.take (min m nd)).length with h | h
        · exact h
        · rw [List.getElem?_eq_none (by rw [encs_length]; exact h)] at hu
          cases hu
      have hjm : j < min m nd := by rw [List.length_take] at hj; omega
      rw [encs_get (d := d) _ j hj] at hu
      rw [hc j (by omega), ← hu]
      simp [List.getD_eq_getElem?_getD, hjm]
    have hkl : (encs enc (ys.take (min m nd))).length = min m nd := by rw [encs_length, List.length_take]; omega
    have hr := run_copy_cells (P := P) W t t' ty e g' k nd cd ad m cs (encs enc (ys.take (min m nd))) ht hinfo (by rw [hkl]) hsrc
      (fun j hj => by rw [cell_of_row W g' _ cur e (0, 0) hh]; simp; omega) (fun j _ => blk_frozen hh _) (by intro u hu; simp only [encs, List.mem_map] at hu; obtain ⟨q, _, rfl⟩ := hu; exact h1 q)
    obtain ⟨cur', h3, h4, h5⟩ := setCells_row (encs enc (ys.take (min m nd))) k W cur hh (by rw [hkl]; omega)
    obtain ⟨s1, s2, s3, s4⟩ := setCells_same g' (encs enc (ys.take (min m nd))) k W
    have hln : (xs.take k ++ (ys.take (min m nd) ++ xs.drop (k + min m nd))).length = xs.length := by
      simp only [List.length_append, List.length_take, List.length_drop]
      omega
    refine ⟨_, by rw [hA', hAs, hr, hkl], Kd.R_of_own ?_ HO.1, ⟨s1, s2, s3, by rw [s4]; exact Nat.le_refl _, fun q _ hq => setCells_far _ _ q (fun he => hq (by rw [he]; rfl))⟩⟩
    rw [hln]
    refine ⟨by rw [encs_length, hln, Nat.mul_one], .inr ⟨g', cap, cur', rfl, hb, h3, by omega, hcm, by rw [h4, hcs], ?_⟩⟩
    have hxs : encs enc xs = cur.toList.take xs.length := by rw [← htake, Nat.mul_one]
    rw [h5, hkl, Nat.mul_one, encs_append, encs_append]
    have e1 : encs enc (xs.take k) = cur.toList.take k := by
      have : encs enc (xs.take k) = (encs enc xs).take k := by simp [encs, List.map_take]
      rw [this, hxs, List.take_take, Nat.min_eq_left (by omega)]
    have e2 : encs enc (xs.drop (k + min m nd)) = (cur.toList.take xs.length).drop (k + min m nd) := by
      have : encs enc (xs.drop (k + min m nd)) = (encs enc xs).drop (k + min m nd) := by simp [encs, List.map_drop]
      rw [this, hxs]
    have hlc : cur.toList.length = cap := by rw [Array.length_toList]; exact hcs1
    have hq : (cur.toList.take k ++ encs enc (ys.take (min m nd))).length = k + min m nd := by rw [List.length_append, List.length_take, hkl]; omega
    rw [e1, e2, List.take_append, List.take_of_length_le (by rw [hq]; omega), hq, List.drop_take, List.append_assoc]
theorem copy_at (d : α) {w0 W : World} (base : Nat) (hgd : o.guard = none) (s x : Operand) (t t' e : TypeId)
    (ho : o.op = .call { callee := .builtin .copy, args := #[s, x], argTypes := #[t, t'] }) (ht : P.underlying t = some (.slice e)) (hinfo : (P.info? e).map (·.size) = some 1)
    {n c k nd cd m cs : Nat} {A0 A As : Option Addr} {xs ys : List α} {ok : Nat → Prop} (hs : a.eval s = .slice A nd cd) (hx : a.eval x = .slice As m cs)
    (hA : A = if c = k then A0 else A0.map (·.add (k * 1))) (hnd : nd = n - k) (hk : k ≤ n)
    (HO : (Kd.scalar enc h1).R e W base ok (.slice A0 n c) xs) (HR : (Kd.scalar enc h1).C W As m ys) (HB : Below base w0 W) (hbase : base ≤ W.heap.size)
    (h : ∀ w1, (Kd.scalar enc h1).R e w1 base ok (.slice A0 n c) (copyAt xs k ys) → Below base w0 w1 → W.grownBy w1 (Value.slice A0 n c).ownBlock → wpList P ops Q rest (a.put o.dst (goInt ((min m nd : Nat) : Int))) w1) :
    wpList P ops Q (o :: rest) a W := by
  obtain ⟨w1, hr, h1', h2⟩ := run_copy_at (P := P) d base t t' o.type e ht hinfo hA hnd hk HO HR (cd := cd) (cs := cs)
  refine wpList_plain hgd fun K hK => ?_
  unfold Oper.wp execOp
  simp only [ho, resolve, invoke, builtin, Sem.run_bind, Sem.run_pure, Result.andThen_ok, List.map_toArray, List.map_cons, List.map_nil, hs, hx, hr]
  exact hK _ _ (h w1 h1' (HB.grown h2 hbase (fun k hk => Kd.R_base HO _ hk)) h2)
end
end Go.Proofs.YtppbkljdeiegjaaW.PrintMine
