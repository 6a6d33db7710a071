/- Lemmas of this session: a row of elements of one cell that a function of Go's library has laid anew (the shelf's words 'Holds', 'putRow', 'grow'), in the printed texts' form. -/
import Derived.Test.YtchjgjpoephljaaMine
import Derived.Lib.RowBridge
import Derived.Sort.Grow
namespace Go.Proofs.YtchjgjpoephljaaW.PrintMine
open Go.RowKit Go.Proofs.YtchjgjpoephljaaW.PrintWords Go.Proofs.YtchjgjpoephljaaW.PrintLast Go.Proofs.YtchjgjpoephljaaW.PrintMore
set_option linter.unusedSectionVars false
section
variable {α : Type} [Inhabited α] {enc : α → Value} {h1 : ∀ x, (enc x).oneCell' = true} {W W1 : World} {base g n c e : Nat} {ok : Nat → Prop} {xs : List α}
theorem R_cap_ {A : Option Addr} (HO : (Kd.scalar enc h1).R e W base ok (.slice A n c) xs) : c ≤ 9223372036854775807 := by
  rcases HO.2.choose_spec.1.2 with ⟨hv, _⟩ | ⟨g', cap', cur, hv, hb, hh, _, hcm, _⟩
  · injection hv with _ _ hc
    omega
  · injection hv with _ _ hc
    subst hc
    exact hcm
theorem R_none_ (HO : (Kd.scalar enc h1).R e W base ok (.slice none n c) xs) : xs.length = 0 := by
  rcases HO.2.choose_spec.1.2 with ⟨_, h⟩ | ⟨g', cap', cur, hv, _⟩
  · exact h
  · injection hv with ha
    cases ha
theorem R_in (HO : (Kd.scalar enc h1).R e W base ok (.slice (some ⟨g, 0, none⟩) n c) xs) : g < W.heap.size := Kd.R_lt HO g (by simp [Value.ownBlock])
theorem R_holds_ (HO : (Kd.scalar enc h1).R e W base ok (.slice (some ⟨g, 0, none⟩) n c) xs) : Go.Sort.Holds enc W g 0 xs.toArray := by
  obtain ⟨hn, _, _⟩ := Kd.R_reads' HO
  intro j hj
  have hj' : j < xs.length := by simpa using hj
  obtain ⟨cs, hl, hM, hc⟩ := Kd.R_getA HO (default : α) (j : Int) (by omega) (by omega)
  obtain ⟨_, cur, _, hh⟩ : ∃ k cur, k = g ∧ W.heap[g]? = some (.cells cur e (0, 0)) := by
    obtain ⟨cells, hc2⟩ := own_typed HO.2.choose_spec.1 g (by simp [Value.ownBlock])
    exact ⟨g, cells, rfl, hc2⟩
  have hM' : cs = [enc (xs.getD j default)] := hM
  subst hM'
  have h0 := hc 0 _ rfl
  rw [Int.toNat_natCast, add_at] at h0
  refine ⟨?_, blk_frozen hh _⟩
  have e1 : xs.toArray[j]! = xs.getD j default := by simp [hj']
  rw [e1, ← h0]
  congr 2
  show 0 + j = 0 + (j * 1 + 0)
  omega
theorem R_lay {q : Nat} {ys zs : List α} (HO : (Kd.scalar enc h1).R e W base ok (.slice (some ⟨g, 0, none⟩) n c) xs) (hl : ys.length + zs.length = xs.length)
    (hW : W1 = Go.Sort.putRow enc (Go.Sort.ahead W q) g 0 (ys ++ zs).toArray) :
    (Kd.scalar enc h1).R e W1 base ok (.slice (some ⟨g, 0, none⟩) ys.length c) ys ∧ W.grownBy W1 (some g) := by
  have hH := R_holds_ HO
  obtain ⟨hn, hnc, _⟩ := Kd.R_reads' HO
  rw [Go.Lib.putRow_eq_setCells enc W g 0 xs.toArray _ q hH (by simp; omega)] at hW
  obtain ⟨hok, inner, hown, hr⟩ := HO
  rcases hown.2 with ⟨hv, _⟩ | ⟨g', cap', cur, hv, hb, hh, _, hcm, hcs, htake⟩
  · cases hv
  injection hv with ha _ hc
  injection ha with ha
  injection ha with hg
  subst hg; subst hc
  have hd : (W.drewN q).heap[g]? = some (.cells cur e (0, 0)) := hh
  have hsz : (Kd.scalar enc h1).sz = 1 := rfl
  rw [hsz, Nat.mul_one] at hcs
  obtain ⟨cur', h3, h4, h5⟩ := setCells_row ((ys ++ zs).map enc) 0 (W.drewN q) cur hd (by simp; omega)
  obtain ⟨s1, s2, s3, s4⟩ := setCells_same g ((ys ++ zs).map enc) 0 (W.drewN q)
  rw [← hW] at h3 s1 s2 s3 s4
  refine ⟨⟨fun k' hk' => hok k' (by simpa [Value.ownBlock] using hk'), ys.map enc, ⟨by rw [List.length_map, hsz, Nat.mul_one], .inr ⟨g, c, cur', rfl, hb, h3, by omega, hcm, by rw [h4, hcs, hsz, Nat.mul_one], ?_⟩⟩, by rw [List.length_map, hsz, Nat.mul_one], fun t p hp => ?_⟩, s1, s2, s3, by rw [s4]; exact Nat.le_refl _, fun k' _ hk' => ?_⟩
  · rw [h5, hsz, Nat.mul_one, List.take_zero, List.nil_append, List.map_append, List.append_assoc]
    exact List.take_left' (by rw [List.length_map])
  · show ((ys.map enc).drop (t * 1)).take 1 = [enc p]
    obtain ⟨ht, hp'⟩ := List.getElem?_eq_some_iff.1 hp
    rw [Nat.mul_one, List.drop_eq_getElem_cons (by rw [List.length_map]; exact ht), List.take_succ_cons, List.take_zero, List.getElem_map, hp']
  · rw [hW]
    exact (setCells_far _ _ k' (fun he => hk' (by rw [he]))).trans rfl
/-- And blocks laid behind it. -/
theorem R_lay_grow {q : Nat} {os : Array Obj} {ys : List α} (HO : (Kd.scalar enc h1).R e W base ok (.slice (some ⟨g, 0, none⟩) n c) xs) (hl : ys.length = xs.length)
    (hW : W1 = Go.Sort.grow (Go.Sort.putRow enc (Go.Sort.ahead W q) g 0 ys.toArray) os) :
    (Kd.scalar enc h1).R e W1 base ok (.slice (some ⟨g, 0, none⟩) ys.length c) ys ∧ W.grownBy W1 (some g) := by
  obtain ⟨hr, hg⟩ := R_lay (ys := ys) (zs := []) (q := q) HO (by simpa using hl) rfl
  rw [List.append_nil] at hr hg
  generalize Go.Sort.putRow enc (Go.Sort.ahead W q) g 0 ys.toArray = W2 at hr hg hW
  have hb : ∀ k, k < W2.heap.size → W1.heap[k]? = W2.heap[k]? := by
    intro k hk
    rw [hW]
    show (W2.heap ++ os)[k]? = _
    rw [Array.getElem?_append_left hk]
  have hs : W2.heap.size ≤ W1.heap.size := by
    rw [hW]
    show _ ≤ (W2.heap ++ os).size
    rw [Array.size_append]; omega
  refine ⟨Kd.R_below hr ⟨by rw [hW]; rfl, by rw [hW]; rfl, by rw [hW]; rfl, hs, fun k hk => hb k hk⟩, ⟨by rw [hW]; exact hg.os, by rw [hW]; exact hg.tape, by rw [hW]; exact hg.output, Nat.le_trans hg.size hs, fun k hk hne => (hb k (Nat.lt_of_lt_of_le hk hg.size)).trans (hg.block k hk hne)⟩⟩
end
end Go.Proofs.YtchjgjpoephljaaW.PrintMine
