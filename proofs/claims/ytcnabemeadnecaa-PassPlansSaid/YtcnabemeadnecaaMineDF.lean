/- Lemmas of this session: slices.DeleteFunc at int (the shelf's contract) in the printed texts' form; rows of ints beside a block of another type. -/
import Derived.Test.YtcnabemeadnecaaMine
import Derived.Shelf.SlicesE.DeleteFunc
import Derived.Lib.RowBridge
namespace Go.Proofs.YtcnabemeadnecaaW.PrintMine
open Go.RowKit Go.Proofs.YtcnabemeadnecaaW.PrintWords Go.Proofs.YtcnabemeadnecaaW.PrintLast Go.Proofs.YtcnabemeadnecaaW.PrintMore
section
variable {W W1 : World} {base g n c e : Nat} {ok : Nat → Prop} {xs : List Int}
theorem R_holdsI (HO : (Kd.int .i64).R e W base ok (.slice (some ⟨g, 0, none⟩) n c) xs) : Go.Sort.Holds (Value.int .i64) W g 0 xs.toArray := by
  obtain ⟨hn, _, _⟩ := Kd.R_reads' HO
  intro j hj
  have hj' : j < xs.length := by simpa using hj
  obtain ⟨cs, hl, hM, hc⟩ := Kd.R_getA HO 0 (j : Int) (by omega) (by omega)
  obtain ⟨_, cur, _, hh⟩ : ∃ k cur, k = g ∧ W.heap[g]? = some (.cells cur e (0, 0)) := by
    obtain ⟨cells, hc2⟩ := own_typed HO.2.choose_spec.1 g (by simp [Value.ownBlock])
    exact ⟨g, cells, rfl, hc2⟩
  have hM' : cs = [Value.int .i64 (xs.getD j 0)] := hM
  subst hM'
  have h0 := hc 0 _ rfl
  rw [Int.toNat_natCast, add_at] at h0
  refine ⟨?_, blk_frozen hh _⟩
  have e1 : xs.toArray[j]! = xs.getD j 0 := by simp [hj']
  rw [e1, ← h0]
  congr 2
  show 0 + j = 0 + (j * 1 + 0)
  omega
theorem put_grownI {q : Nat} (HO : (Kd.int .i64).R e W base ok (.slice (some ⟨g, 0, none⟩) n c) xs) (ys : List Int) (hl : ys.length = xs.length) (hW : W1 = Go.Sort.putRow (Value.int .i64) (Go.Sort.ahead W q) g 0 ys.toArray) : W.grownBy W1 (some g) := by
  have hH := R_holdsI HO
  rw [Go.Lib.putRow_eq_setCells (Value.int .i64) W g 0 xs.toArray _ q hH (by simp; omega)] at hW
  obtain ⟨s1, s2, s3, s4⟩ := setCells_same g (ys.map (Value.int .i64)) 0 (W.drewN q)
  rw [← hW] at s1 s2 s3 s4
  refine ⟨s1, s2, s3, by rw [s4]; exact Nat.le_refl _, fun k' _ hk' => ?_⟩
  rw [hW]
  exact (setCells_far _ _ k' (fun he => hk' (by rw [he]))).trans rfl
/-- A row of ints stays where only a block of another type is written. -/
theorem R_beside {k : IntKind} {v : Value} {cs : Array Value} {t : TypeId} (h : (Kd.int k).R e W base ok v xs) (hb : W.heap[g]? = some (.cells cs t (0, 0))) (ht : t ≠ e) (hs : ∀ i, i ≠ g → W1.heap[i]? = W.heap[i]?) : (Kd.int k).R e W1 base ok v xs := by
  refine Kd.R_mono (Kd.R_step (Kd.R_bound h) (fun i hi hl => hs i ?_)) (fun i hi => hi.1)
  rintro rfl
  obtain ⟨_, _, _, q, hq, cells, hc⟩ := hi
  rw [hb] at hc
  injection hc with hc
  injection hc with _ hc
  have hq' : q = e := by
    rcases List.mem_cons.1 hq with h | h
    · exact h
    · cases h
  exact ht (hc.trans hq')
end
end Go.Proofs.YtcnabemeadnecaaW.PrintMine
