/- Lemmas of this session: slices.Delete at int, from the shelf's contract to the printed texts' form. -/
import Derived.Test.YtehkplafehlkgaaMine
import Derived.Shelf.SlicesG.Delete
import Derived.Lib.RowBridge
namespace Go.Proofs.YtehkplafehlkgaaW.PrintMine
open Go.RowKit Go.Proofs.YtehkplafehlkgaaW.PrintWords Go.Proofs.YtehkplafehlkgaaW.PrintLast Go.Proofs.YtehkplafehlkgaaW.PrintMore
section
variable {W W1 : World} {base g n c e : Nat} {ok : Nat → Prop} {xs : List Int}
theorem R_holds (HO : (Kd.int .i64).R e W base ok (.slice (some ⟨g, 0, none⟩) n c) xs) : Go.Sort.Holds (Value.int .i64) W g 0 xs.toArray := by
  obtain ⟨hn, _, _⟩ := Kd.R_reads' HO
  intro j hj
  have hj' : j < xs.length := by simpa using hj
  obtain ⟨cs, hl, hM, hc⟩ := Kd.R_getA HO 0 (j : Int) (by omega) (by omega)
  obtain ⟨_, cur, _, hh⟩ : ∃ k cur, k = g ∧ W.heap[g]? = some (.cells cur e (0, 0)) := by
    obtain ⟨cells, hc2⟩ := own_typed HO.2.choose_spec.1 g (by simp [Value.ownBlock])
    exact ⟨g, cells, rfl, hc2⟩
  have hM' : cs = [Value.int .i64 (xs.getD j 0)] := hM
  subst hM'
  have h0 := hc 0 _ rfl
  rw [Int.toNat_natCast, add_at] at h0
  refine ⟨?_, blk_frozen hh _⟩
  have e1 : xs.toArray[j]! = xs.getD j 0 := by simp [hj']
  rw [e1, ← h0]
  congr 2
  show 0 + j = 0 + (j * 1 + 0)
  omega
theorem R_cap {A : Option Addr} (HO : (Kd.int .i64).R e W base ok (.slice A n c) xs) : c ≤ 9223372036854775807 := by
  rcases HO.2.choose_spec.1.2 with ⟨hv, _⟩ | ⟨g', cap', cur, hv, hb, hh, _, hcm, _⟩
  · injection hv with _ _ hc
    omega
  · injection hv with _ _ hc
    subst hc
    exact hcm
theorem R_none (HO : (Kd.int .i64).R e W base ok (.slice none n c) xs) : xs.length = 0 := by
  rcases HO.2.choose_spec.1.2 with ⟨_, h⟩ | ⟨g', cap', cur, hv, _⟩
  · exact h
  · injection hv with ha
    cases ha
theorem R_sdel {i j q : Nat} (HO : (Kd.int .i64).R e W base ok (.slice (some ⟨g, 0, none⟩) n c) xs) (hij : i ≤ j) (hj : j ≤ xs.length)
    (hW : W1 = Go.Sort.putRow (Value.int .i64) (Go.Sort.ahead W q) g 0 (xs.take i ++ xs.drop j ++ List.replicate (j - i) 0).toArray) :
    (Kd.int .i64).R e W1 base ok (.slice (some ⟨g, 0, none⟩) (xs.length - (j - i)) c) (xs.take i ++ xs.drop j) ∧ W.grownBy W1 (some g) := by
  have hH := R_holds HO
  obtain ⟨hn, hnc, _⟩ := Kd.R_reads' HO
  rw [Go.Lib.putRow_eq_setCells (Value.int .i64) W g 0 xs.toArray _ q hH (by simp; omega)] at hW
  obtain ⟨hok, inner, hown, hr⟩ := HO
  rcases hown.2 with ⟨hv, _⟩ | ⟨g', cap', cur, hv, hb, hh, _, hcm, hcs, htake⟩
  · cases hv
  injection hv with ha _ hc
  injection ha with ha
  injection ha with hg
  subst hg; subst hc
  obtain ⟨ys, hys⟩ : ∃ ys, ys = xs.take i ++ xs.drop j := ⟨_, rfl⟩
  rw [← hys] at hW ⊢
  have hyl : ys.length = xs.length - (j - i) := by rw [hys, List.length_append, List.length_take, List.length_drop]; omega
  have hd : (W.drewN q).heap[g]? = some (.cells cur e (0, 0)) := hh
  have hsz : (Kd.int .i64).sz = 1 := rfl
  rw [hsz, Nat.mul_one] at hcs
  obtain ⟨cur', h3, h4, h5⟩ := setCells_row ((ys ++ List.replicate (j - i) 0).map (Value.int .i64)) 0 (W.drewN q) cur hd (by simp; omega)
  obtain ⟨s1, s2, s3, s4⟩ := setCells_same g ((ys ++ List.replicate (j - i) 0).map (Value.int .i64)) 0 (W.drewN q)
  rw [← hW] at h3 s1 s2 s3 s4
  refine ⟨⟨fun k' hk' => hok k' (by simpa [Value.ownBlock] using hk'), ys.map (Value.int .i64), ⟨by rw [List.length_map, hsz, Nat.mul_one], .inr ⟨g, c, cur', by rw [hyl], hb, h3, by omega, hcm, by rw [h4, hcs, hsz, Nat.mul_one], ?_⟩⟩, by rw [List.length_map, hsz, Nat.mul_one], fun t p hp => ?_⟩, s1, s2, s3, by rw [s4]; exact Nat.le_refl _, fun k' _ hk' => ?_⟩
  · rw [h5, hsz, Nat.mul_one, List.take_zero, List.nil_append, List.map_append, List.append_assoc]
    exact List.take_left' (by rw [List.length_map])
  · show ((ys.map (Value.int .i64)).drop (t * 1)).take 1 = [Value.int .i64 p]
    obtain ⟨ht, hp'⟩ := List.getElem?_eq_some_iff.1 hp
    rw [Nat.mul_one, List.drop_eq_getElem_cons (by rw [List.length_map]; exact ht), List.take_succ_cons, List.take_zero, List.getElem_map, hp']
  · rw [hW]
    exact (setCells_far _ _ k' (fun he => hk' (by rw [he]))).trans rfl
end
end Go.Proofs.YtehkplafehlkgaaW.PrintMine
