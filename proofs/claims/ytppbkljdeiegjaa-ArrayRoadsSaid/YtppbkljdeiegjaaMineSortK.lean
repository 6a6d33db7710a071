/- Lemmas of this session: slices.SortFunc at structs of k cells without slices, from the shelf's contract to the printed texts' form. -/
import Derived.Test.YtppbkljdeiegjaaMine
import Derived.Lib.RowBridge
import Derived.Deep.QuietTactic
import Derived.BigQuiet
import Derived.Shelf.SlSortCmp.NoneTotal
namespace Go.Proofs.YtppbkljdeiegjaaW.PrintMine
open Go.RowKit Go.Proofs.YtppbkljdeiegjaaW.PrintWords Go.Proofs.YtppbkljdeiegjaaW.PrintLast Go.Proofs.YtppbkljdeiegjaaW.PrintMore
set_option linter.unusedSectionVars false
set_option linter.unusedSimpArgs false
set_option linter.unusedVariables false
section
variable {β : Type} {enc : β → List Value} {k : Nat}
theorem flat_len (hk : ∀ x, (enc x).length = k) : ∀ l : List β, (l.flatMap enc).length = l.length * k
  | [] => by simp
  | x :: t => by rw [List.flatMap_cons, List.length_append, flat_len hk t, hk, List.length_cons, Nat.add_mul, Nat.one_mul, Nat.add_comm]
theorem flat_seg (hk : ∀ x, (enc x).length = k) : ∀ (l : List β) (j : Nat) (x : β), l[j]? = some x → ((l.flatMap enc).drop (j * k)).take k = enc x
  | [], j, x, h => by simp at h
  | y :: t, 0, x, h => by
    obtain rfl : y = x := by simpa using h
    rw [Nat.zero_mul, List.drop_zero, List.flatMap_cons, List.take_append_of_le_length (by rw [hk]; exact Nat.le_refl _), List.take_of_length_le (by rw [hk]; exact Nat.le_refl _)]
  | y :: t, j + 1, x, h => by
    have h' : t[j]? = some x := by simpa using h
    have e : (enc y ++ t.flatMap enc).drop k = t.flatMap enc := by rw [← hk y]; exact List.drop_left
    rw [List.flatMap_cons, Nat.add_mul, Nat.one_mul, Nat.add_comm, ← List.drop_drop, e]
    exact flat_seg hk t j x h'
theorem flat_flatK [Inhabited β] (hk : ∀ x, (enc x).length = k) (d : Array β) : Go.Sort.flatK enc k d = (d.toList.flatMap enc).toArray := by
  refine Go.Sort.ext_get! (by rw [Go.Sort.size_flatK]; simp [flat_len hk]) fun t ht => ?_
  rw [Go.Sort.size_flatK] at ht
  have k0 : 0 < k := by
    rcases Nat.eq_zero_or_pos k with h | h
    · subst h; simp at ht
    · exact h
  have hj : t / k < d.size := by rw [Nat.div_lt_iff_lt_mul k0]; exact ht
  have hm : t % k < k := Nat.mod_lt _ k0
  have hs := flat_seg hk d.toList (t / k) d[t / k]! (by simp [hj])
  rw [Go.Sort.get_flatK _ _ _ _ ht, ← hs]
  have hl := flat_len hk d.toList
  have ht2 : t < (d.toList.flatMap enc).length := by rw [hl]; simpa using ht
  have e := Nat.div_add_mod t k
  have e2 : t / k * k + t % k = t := by rw [Nat.mul_comm]; exact e
  simp only [List.getElem!_eq_getElem?_getD, List.getElem?_take, if_pos hm, List.getElem?_drop, e2]
  simp [ht2]
end
section
variable {α : Type} {d : Kd α} {enc : α → List Value} {W W1 : World} {base g n c e : Nat} {ok : Nat → Prop} {xs : List α}
theorem R_flat (hM : ∀ w b o x cs, d.M w b o x cs → cs = enc x) (hk : ∀ x, (enc x).length = d.sz) (HO : d.R e W base ok (.slice (some ⟨g, 0, none⟩) n c) xs) :
    W.ownsRow base e d.sz (.slice (some ⟨g, 0, none⟩) n c) xs.length (xs.flatMap enc) := by
  obtain ⟨_, inner, hown, hr⟩ := HO
  have : inner = xs.flatMap enc := by
    have aux : ∀ (xs : List α) (inner : List Value), Reps (d.M W base fun k => ok k ∧ some k ≠ (Value.slice (some ⟨g, 0, none⟩) n c).ownBlock) d.sz xs inner → inner = xs.flatMap enc := by
      intro xs
      induction xs with
      | nil =>
        intro inner h
        have h1 := h.1
        rw [List.length_nil, Nat.zero_mul] at h1
        rw [List.eq_nil_of_length_eq_zero h1]
        rfl
      | cons x t ih =>
        intro inner h
        have h1 := h.1
        have h0 := hM _ _ _ _ _ (h.2 0 x rfl)
        rw [Nat.zero_mul, List.drop_zero] at h0
        rw [List.length_cons, Nat.add_mul, Nat.one_mul] at h1
        have ht := ih (inner.drop d.sz) ⟨by rw [List.length_drop]; omega, fun j p hp => by
          have := h.2 (j + 1) p (by simpa using hp)
          rw [Nat.add_mul, Nat.one_mul, Nat.add_comm, ← List.drop_drop] at this
          exact this⟩
        rw [List.flatMap_cons, ← ht, ← h0, List.take_append_drop]
    exact aux xs inner hr
  subst this
  exact hown
/-- The row's cells, held. -/
theorem R_holdsK {β : Type} [Inhabited β] {encβ : β → List Value} (hM : ∀ w b o x cs, d.M w b o x cs → cs = enc x) (hk : ∀ x, (enc x).length = d.sz) (hkβ : ∀ x, (encβ x).length = d.sz) (D : Array β) (hD : D.toList.flatMap encβ = xs.flatMap enc)
    (HO : d.R e W base ok (.slice (some ⟨g, 0, none⟩) n c) xs) : Go.Sort.HoldsK encβ d.sz W g 0 D := by
  have hown := R_flat hM hk HO
  unfold Go.Sort.HoldsK
  rw [flat_flatK hkβ, hD]
  rcases hown.2 with ⟨hv, _⟩ | ⟨g', cap', cur, hv, hb, hh, hnc, hcm, hcs, htake⟩
  · cases hv
  injection hv with ha _ hc
  injection ha with ha
  injection ha with hg
  subst hg; subst hc
  intro j hj
  have hj' : j < (xs.flatMap enc).length := by simpa using hj
  refine ⟨?_, blk_frozen hh _⟩
  have hl := flat_len hk xs
  have h1 : cur.toList[j]? = (xs.flatMap enc)[j]? := by
    rw [← htake, List.getElem?_take, if_pos (by omega)]
  have hsz : j < cur.size := by
    have : xs.length * d.sz ≤ c * d.sz := Nat.mul_le_mul_right _ hnc
    omega
  rw [show ((⟨g, 0 + j, none⟩ : Addr)) = ⟨g, j, none⟩ from by rw [Nat.zero_add], cell_of_row W g j cur e (0, 0) hh]
  have h2 : cur[j]? = (xs.flatMap enc)[j]? := by rw [← h1]; simp
  rw [h2]
  simp only [id, List.getElem!_toArray, List.getElem!_eq_getElem?_getD]
  rw [List.getElem?_eq_getElem hj']
  rfl
/-- .. and laid anew. -/
theorem R_layK {β : Type} [Inhabited β] {encβ : β → List Value} {q : Nat} {os : Array Obj} {ys : List α} (hM : ∀ w b o x cs, d.M w b o x cs → cs = enc x) (hM2 : ∀ w b o x, d.M w b o x (enc x)) (hk : ∀ x, (enc x).length = d.sz) (hkβ : ∀ x, (encβ x).length = d.sz) (D D' : Array β) (hD : D.toList.flatMap encβ = xs.flatMap enc) (hD' : D'.toList.flatMap encβ = ys.flatMap enc) (hl : ys.length = xs.length)
    (HO : d.R e W base ok (.slice (some ⟨g, 0, none⟩) n c) xs) (hW : W1 = Go.Sort.grow (Go.Sort.putRowK encβ d.sz (Go.Sort.ahead W q) g 0 D') os) :
    d.R e W1 base ok (.slice (some ⟨g, 0, none⟩) n c) ys ∧ W.grownBy W1 (some g) := by
  have hH := R_holdsK hM hk hkβ D hD HO
  have hown := R_flat hM hk HO
  unfold Go.Sort.HoldsK at hH
  rw [flat_flatK hkβ, hD] at hH
  have key : d.R e (Go.Sort.putRowK encβ d.sz (Go.Sort.ahead W q) g 0 D') base ok (.slice (some ⟨g, 0, none⟩) n c) ys ∧ W.grownBy (Go.Sort.putRowK encβ d.sz (Go.Sort.ahead W q) g 0 D') (some g) := by
    have hl2 : (xs.flatMap enc).length = (ys.flatMap enc).length := by rw [flat_len hk, flat_len hk, hl]
    obtain ⟨W2, hW2⟩ : ∃ W2, W2 = Go.Sort.putRowK encβ d.sz (Go.Sort.ahead W q) g 0 D' := ⟨_, rfl⟩
    rw [← hW2]
    unfold Go.Sort.putRowK at hW2
    rw [flat_flatK hkβ, hD', Go.Lib.putRow_eq_setCells id W g 0 (xs.flatMap enc).toArray (ys.flatMap enc) q hH (by rw [List.size_toArray]; exact hl2.symm)] at hW2
    rcases hown.2 with ⟨hv, _⟩ | ⟨g', cap', cur, hv, hb, hh, hnc, hcm, hcs, htake⟩
    · cases hv
    injection hv with ha _ hc
    injection ha with ha
    injection ha with hg
    subst hg; subst hc
    have hd : (W.drewN q).heap[g]? = some (.cells cur e (0, 0)) := hh
    have hfl := flat_len hk ys
    have hcl : (ys.flatMap enc).length ≤ cur.size := by
      have : xs.length * d.sz ≤ c * d.sz := Nat.mul_le_mul_right _ hnc
      rw [hfl, hl]
      omega
    simp only [List.map_id] at hW2
    obtain ⟨cur', h3, h4, h5⟩ := setCells_row (ys.flatMap enc) 0 (W.drewN q) cur hd (by omega)
    obtain ⟨s1, s2, s3, s4⟩ := setCells_same g (ys.flatMap enc) 0 (W.drewN q)
    rw [← hW2] at h3 s1 s2 s3 s4
    have hn : n = xs.length := (Kd.R_reads' HO).1
    refine ⟨⟨fun k' hk' => HO.1 k' (by simpa [Value.ownBlock] using hk'), ys.flatMap enc, ⟨by rw [hfl], .inr ⟨g, c, cur', by rw [hl, hn], hb, h3, by omega, hcm, by rw [h4, hcs], ?_⟩⟩, by rw [hfl], fun t p hp => ?_⟩, s1, s2, s3, by rw [s4]; exact Nat.le_refl _, fun k' _ hk' => ?_⟩
    · rw [h5, ← hfl, List.take_zero, List.nil_append]
      exact List.take_left' rfl
    · rw [flat_seg hk ys t p hp]
      exact hM2 _ _ _ _
    · rw [hW2]
      exact (setCells_far _ _ k' (fun he => hk' (by rw [he]))).trans rfl
  obtain ⟨hr, hg⟩ := key
  generalize Go.Sort.putRowK encβ d.sz (Go.Sort.ahead W q) g 0 D' = W2 at hr hg hW
  have hb : ∀ k, k < W2.heap.size → W1.heap[k]? = W2.heap[k]? := by
    intro k hk
    rw [hW]
    show (W2.heap ++ os)[k]? = _
    rw [Array.getElem?_append_left hk]
  have hs : W2.heap.size ≤ W1.heap.size := by
    rw [hW]
    show _ ≤ (W2.heap ++ os).size
    rw [Array.size_append]; omega
  exact ⟨Kd.R_below hr ⟨by rw [hW]; rfl, by rw [hW]; rfl, by rw [hW]; rfl, hs, fun k hk => hb k hk⟩, ⟨by rw [hW]; exact hg.os, by rw [hW]; exact hg.tape, by rw [hW]; exact hg.output, Nat.le_trans hg.size hs, fun k hk hne => (hb k (Nat.lt_of_lt_of_le hk hg.size)).trans (hg.block k hk hne)⟩⟩
theorem R_noneK (HO : d.R e W base ok (.slice none n c) xs) : xs = [] := by
  rcases HO.2.choose_spec.1.2 with ⟨_, h⟩ | ⟨g', cap', cur, hv, _⟩
  · exact List.eq_nil_of_length_eq_zero h
  · injection hv with ha
    cases ha
end
end Go.Proofs.YtppbkljdeiegjaaW.PrintMine
