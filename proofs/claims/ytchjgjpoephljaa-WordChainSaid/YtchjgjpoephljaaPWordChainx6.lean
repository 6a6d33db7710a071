-- written by prn.py, a program of this session, over the kit's printer
import Derived.Test.YtchjgjpoephljaaPWordChainx0
import Derived.Test.YtchjgjpoephljaaPWordChainx2
import Derived.Test.YtchjgjpoephljaaPWordChainx3
import Derived.Test.YtchjgjpoephljaaPWordChainx4
import Derived.Test.YtchjgjpoephljaaPWordChainx5
namespace Go.Proofs.Ytchjgjpoephljaa.PWordChain
open Go.RowKit Go.Proofs.YtchjgjpoephljaaW.PrintWords Go.Proofs.YtchjgjpoephljaaW.PrintLast Go.Proofs.YtchjgjpoephljaaW.PrintMore Go.Proofs.YtchjgjpoephljaaW.PrintMine
attribute [local go_sem] max2_int min2_int max_two min_two max_three min_three max_four min_four   -- for this text's walks alone
set_option linter.unusedVariables false
set_option linter.unusedSimpArgs false

/-! ### word_Index_Find: function 15 -/
set_option maxHeartbeats 4000000 in
set_option maxRecDepth 100000 in
theorem word_Index_Find.calls (m0 gx : Nat) (P : ByteArray → List S39) (Z : List Int) (N : Nat) (s : ByteArray) (w : World) (hI : IsIdx m0 w gx P Z N) (hs : s.size ≤ maxLen) (hl : (P s).length ≤ 1000000000) :
    Calls Try.prog 15 #[.pointer (some ⟨gx, 0, none⟩), .string s] w fun e w' => ∃ v0_ : Value, e = .returned (v0_) ∧ Kd.R k39 39 w' w.heap.size (fun _ => True) v0_ (P s) ∧ Below w.heap.size w w' := by
  obtain ⟨b, x0, hrow⟩ := hI.row
  obtain ⟨A, c, hlook, hC, hc⟩ := hrow s hs
  have l1 := hlook w (Below.refl _ _)
  have HC := Aside0.mk hC
  have HCC := Aside0.mk hc
  have HF := Aside0.mk (show word_Place_32.f (P s) = some (P s) from by unfold word_Place_32.f; rw [if_pos hl])
  clear hI hrow hlook hs hC hc hl
  generalize P s = p at *
  go_enter Try.func15, Try.ntmps15
  go_wp2_with (go_at_call 32; refine (word_Place_32.calls A c p p w HC.out HCC.out HF.out).mono ?_; rintro e w' ⟨v, rfl, hR, hb⟩; have HR := Aside0.mk hR; have HB := Aside0.mk hb; clear hR hb)
  go_ret
  exact ⟨_, rfl, HR.out, HB.out⟩

/-! ### wrackkeep3_WordChain: function 3 -/
def w4lits : List ByteArray := [⟨#[116, 105, 100, 101]⟩, ⟨#[119, 114, 101, 99, 107]⟩, ⟨#[55]⟩, ⟨#[115, 97, 105, 108]⟩]
theorem litW4 (W : World) : Kd.C Kd.string (W.alloc (.cells (w4lits.map Value.string).toArray 9)) (some ⟨W.heap.size, 0, none⟩) 4 w4lits :=
  (Kd.R_reads' (Kd.R_of_own (enc := Value.string) (h1 := fun _ => rfl) (ok := fun _ => True) (base := 0) (xs := w4lits) (own_lit_of W 0 9 w4lits (Nat.zero_le _) (by simp [w4lits])) (fun _ _ => trivial))).2.2
def askW (n : Int) : ByteArray := rdOf ByteArray.empty w4lits (n % 4)
def askOf (l : List Int) : List ByteArray := (l.take 4).map askW
theorem askW_size (n : Int) : (askW n).size ≤ 5 := by
  have h1 := Int.emod_nonneg n (show (4 : Int) ≠ 0 by omega)
  have h2 := Int.emod_lt_of_pos n (show (0 : Int) < 4 by omega)
  have hh : ∀ i : Fin 4, (rdOf ByteArray.empty w4lits (i.val : Int)).size ≤ 5 := by decide +kernel
  have := hh ⟨(n % 4).toNat, by omega⟩
  unfold askW
  rwa [show (((⟨(n % 4).toNat, by omega⟩ : Fin 4)).val : Int) = n % 4 by simp only; omega] at this
theorem ne31 {W : World} {base g : Nat} {ok : Nat → Prop} {v : Value} {xs : List ByteArray} {cs : Array Value} (h : Kd.string.R 9 W base ok v xs) (hg : W.heap[g]? = some (.cells cs 31 (0, 0))) : some g ≠ v.ownBlock := fun e => by
  obtain ⟨_, _, _, y, hy, cs2, hc⟩ := (Kd.R_bound h).1 g e.symm
  have e2 : y = 9 := by simpa [Kd.string, Kd.scalar] using hy
  subst e2
  rw [hg] at hc
  simp at hc
theorem lit4 (j : Nat) (h : j < 4) : [Value.string ⟨#[116, 105, 100, 101]⟩, Value.string ⟨#[119, 114, 101, 99, 107]⟩, Value.string ⟨#[55]⟩, Value.string ⟨#[115, 97, 105, 108]⟩][j]? = some (Value.string (rdOf ByteArray.empty w4lits (j : Int))) := by
  match j, h with
  | 0, _ => rfl
  | 1, _ => rfl
  | 2, _ => rfl
  | 3, _ => rfl
  | n + 4, h => exact absurd h (by omega)
set_option maxHeartbeats 4000000 in
set_option maxRecDepth 100000 in
theorem wrackkeep3_WordChain.lawx (k : Nat) (A : Option Addr) (c : Nat) (l : List (List Int)) (A2 : Option Addr) (c2 : Nat) (l2 : List Int) (wss : List (List ByteArray)) (D : ByteArray → List Int) (w : World) (hr : Kd.C (Kd.slice 3 (Kd.int .i64)) w A l.length l) (hc : l.length ≤ c) (hr2 : Kd.C (Kd.int .i64) w A2 l2.length l2) (hc2 : l2.length ≤ c2) (hW : WordsOf k (txts l) wss) (hT : word_Words.f k T0 = some [sA, sB, sA, sC])
    (hD : ∀ s ∈ askOf l2, word_docs.f k (idxP (fun _ => []) 0 wss s) = some (D s) ∧ (D s).Pairwise (· ≤ ·) ∧ (D s).length ≤ 100000000)
    (hPh : ∀ p ∈ phr (idxP (fun _ => []) 0 wss) (askOf l2), 0 ≤ p.f1 ∧ p.f1 ≤ 1000000 ∧ (ordL (idxP (fun _ => []) 0 wss) (askOf l2) (idxZ wss).length).any (cl1B p (askOf l2).length) = true ∧ ∀ i : Nat, i < (askOf l2).length → word_Place_14.f k (idxP (fun _ => []) 0 wss ((askOf l2).getD i ByteArray.empty)) p.f0 (wrap64 (p.f1 + (i : Int))) = some true)
    (hO : 1 ≤ (askOf l2).length → (ordL (idxP (fun _ => []) 0 wss) (askOf l2) (idxZ wss).length).any (fun p => !hasI (allL D (askOf l2)) p.f0) = false) :
    Calls Try.prog 3 #[.slice A l.length c, .slice A2 l2.length c2] w fun e w' => e = .returned (.bool true) ∧ Below w.heap.size w w' := by
  have HR := Aside0.mk hr
  have HC := Aside0.mk hc
  have HW := Aside0.mk hW
  have HT := Aside0.mk hT
  have HD := Aside0.mk hD
  have HPH := Aside0.mk hPh
  have HOA := Aside0.mk hO
  have HTC := Aside0.mk (wrackkeep3_texts.calls A c l w hr hc)
  have hlen : (txts l).length ≤ 100 := hW.1
  clear hr hc hW hT hD hPh hO
  generalize txts l = docs at *
  have HPL : Aside0 (∀ s, (idxP (fun _ => []) 0 wss s).length ≤ 100000000) := ⟨fun s => by
    have h := idxP_len s wss (fun _ => []) 0
    have h2 := HW.out.sum wss.length
    rw [List.take_length] at h2
    simp only [List.length_nil] at h
    omega⟩
  have HZL : Aside0 ((idxZ wss).length ≤ 200) := ⟨by unfold idxZ; rw [List.length_map]; have := HW.out.2.1; omega⟩
  obtain ⟨n4, hn4⟩ : ∃ n, min l2.length 4 = n := ⟨_, rfl⟩
  have hm4 : (if (4 : Int) < (l2.length : Int) then (4 : Int) else (l2.length : Int)) = (n4 : Int) := by split <;> omega
  have hm4m : min (l2.length : Int) 4 = (n4 : Int) := by omega
  have hm4a : (0 : Int) ≤ (n4 : Int) := by omega
  have hm4b : (n4 : Int) ≤ (l2.length : Int) := by omega
  have hm4c : (l2.length : Int) ≤ (c2 : Int) := by omega
  have hm4d : (n4 : Int) ≤ (c2 : Int) := by omega
  have hbig : l2.length ≤ 9223372036854775807 := hr2.2.1
  have hn4b : n4 ≤ 4 := by omega
  have HR2 := Aside0.mk hr2
  have HT4 : Aside0 (l2.take 4 = l2.take n4) := ⟨by rw [← hn4, Nat.min_comm, ← List.take_take, List.take_of_length_le (Nat.le_refl l2.length)]⟩
  clear hn4 hr2 hc2
  go_enter Try.func3, Try.ntmps3
  go_upto_region 4 with (first | (go_at_call 6; refine HTC.out.mono ?_; rintro e w1 ⟨v1, rfl, hr1, hb⟩; obtain ⟨A1, c1, e1⟩ := Kd.R_slice hr1; subst e1; have HD1 := Aside0.mk (Kd.R_reads' hr1).2.2; have HDC := Aside0.mk (Kd.R_reads' hr1).2.1; have HB1 := Aside0.mk hb; clear hr1 hb) | (go_at_call 5; (refine (word_New.calls k A1 c1 docs wss _ HD1.out HDC.out HW.out).mono ?_); rintro e w2 ⟨gx, rfl, hi, hb⟩; have HX2 := Aside0.mk hi; have HB2 := Aside0.mk (below_step HB1.out hb); clear hi hb) | (go_at_call 7; refine (wrackkeep3_indexed.calls k _ HT.out).mono ?_; rintro e w4 ⟨rfl, hb⟩; have HB4 := Aside0.mk (below_step HB2.out hb); have HX4 := Aside0.mk (HX2.out.below hb); clear hb))
  clear HX2 HB2 HD1 HDC HB1 HTC HR HC HW HT
  generalize idxP (fun _ => []) 0 wss = P at *
  generalize idxZ wss = Z at *
  generalize idxN wss = NN at *
  go_upto_region 5 with (fail)
  obtain ⟨W9, hW9⟩ : ∃ W, W = w4.alloc (.cells #[.slice none 0 0] 31) := ⟨_, rfl⟩
  obtain ⟨gA, hgA⟩ : ∃ g, g = w4.heap.size := ⟨_, rfl⟩
  have BKA : Aside0 (W9.heap[gA]? = some (.cells #[.slice none 0 0] 31 (0, 0))) := ⟨by rw [hW9, hgA]; exact blk_new w4 _⟩
  have HB9 : Aside0 (Below w4.heap.size w4 W9) := ⟨by rw [hW9]; exact below_alloc (Below.refl _ _) _⟩
  have HGA : Aside0 (w4.heap.size ≤ gA) := ⟨by omega⟩
  rw [← hW9, ← hgA]
  clear hW9 hgA
  go_wp2
  go_loopg [41] n4 (fun gg s41 wr => ∃ (kk : Nat) (A7 : Option Addr) (c7 n7 : Nat), kk ≤ n4 ∧ n4 - kk ≤ gg ∧ s41 = .int .i64 kk ∧ Aside0 (wr.heap[gA]? = some (.cells #[.slice A7 n7 c7] 31 (0, 0))) ∧ Aside0 (Kd.R Kd.string 9 wr w4.heap.size (fun _ => True) (.slice A7 n7 c7) ((l2.take kk).map askW)) ∧ Aside0 (Below w4.heap.size w4 wr))
  case atStart => exact ⟨0, none, 0, 0, Nat.zero_le _, by omega, rfl, BKA, ⟨Kd.R_nil _ _ _ _ _⟩, HB9⟩
  case round =>
    obtain ⟨kk, A7, c7, n7, hkk, hg, rfl, BK, HO7, HB3⟩ := hrel
    clear BKA HB9
    by_cases hlt : kk < n4
    · have hltz : (kk : Int) < (n4 : Int) := by omega
      have hltl : (kk : Int) < (l2.length : Int) := by omega
      have h0 : (0 : Int) ≤ (kk : Int) := by omega
      have hkl : kk < l2.length := by omega
      obtain ⟨adx, ex, z0⟩ := Kd.at_int HR2.out (kk : Int) h0 hltl
      subst ex
      have hrd : rd l2 (kk : Int) = l2[kk] := by unfold rd; rw [Int.toNat_natCast, List.getD_eq_getElem?_getD, List.getElem?_eq_getElem hkl]; rfl
      rw [hrd, Int.toNat_natCast] at z0
      have hst : (l2.take (kk + 1)).map askW = (l2.take kk).map askW ++ [askW l2[kk]] := by
        rw [List.take_add_one, List.getElem?_eq_getElem hkl, List.map_append]; rfl
      generalize l2[kk] = n at *
      have hb0 := below_emod (x := n) (n := 4) (by omega) (by omega)
      have hm0 := Int.emod_nonneg n (show (4 : Int) ≠ 0 by omega)
      have hm1 := Int.emod_lt_of_pos n (show (0 : Int) < 4 by omega)
      have haw : askW n = rdOf ByteArray.empty w4lits (n % 4) := rfl
      obtain ⟨j, hj⟩ : ∃ j : Nat, n % 4 = (j : Int) := ⟨(n % 4).toNat, by omega⟩
      rw [hj] at hb0 hm0 hm1 haw
      have HBL := Aside0.mk hb0
      have hs0 := haw.symm
      generalize askW n = s0 at *
      have HST := Aside0.mk hst
      have HLL : Aside0 (((l2.take kk).map askW).length + 1 ≤ 1000) := ⟨by rw [List.length_map, List.length_take]; omega⟩
      have hlit := lit4 j (by omega)
      rw [hs0] at hlit
      have x7 : wr.cell? ⟨gA, 0, none⟩ = some (.slice A7 n7 c7) := (blk_cell BK.out 0).trans rfl
      replace z0 := (HB3.out.cell (World.block_lt_of_cell? w4 _ ((HB4.out.cell (World.block_lt_of_cell? w _ z0)).trans z0))).trans ((HB4.out.cell (World.block_lt_of_cell? w _ z0)).trans z0)
      clear hrd hst haw hs0 hb0 hj
      go_upto_region 8 with (fail)
      have x7a : ∀ o, (wr.alloc o).cell? ⟨gA, 0, none⟩ = some (.slice A7 n7 c7) := fun o => ((below_alloc (Below.refl wr.heap.size wr) o).cell (World.block_lt_of_cell? wr _ x7)).trans x7
      have X7A := x7a (.cells (w4lits.map Value.string).toArray 9)
      have HFL := fun (W : World) (hb : Below wr.heap.size wr W) => (⟨below_step HB3.out hb⟩ : Aside0 (Below w4.heap.size w4 W))
      have HFX := Aside0.mk HFL
      clear HFL
      have HNE := ne31 HO7.out BK.out
      have XB : Aside0 (∀ W wa, Below wr.heap.size wr W → W.grownBy wa (Value.slice A7 n7 c7).ownBlock → wa.heap[gA]? = some (.cells #[.slice A7 n7 c7] 31 (0, 0))) := ⟨fun W wa hb hg => (hg.block gA (Nat.lt_of_lt_of_le (blk_lt BK.out) hb.size) HNE).trans (blk_below BK.out hb)⟩
      clear HNE
      have HLM : Aside0 ((((l2.take kk).map askW).length + 1) * 16 ≤ 140737488355328) := ⟨by have := HLL.out; omega⟩
      have hlit2 : ∀ nd : Nat, ((wr.drewN nd).alloc (.cells #[Value.string ⟨#[116, 105, 100, 101]⟩, Value.string ⟨#[119, 114, 101, 99, 107]⟩, Value.string ⟨#[55]⟩, Value.string ⟨#[115, 97, 105, 108]⟩] 9)).cell? ⟨wr.heap.size, j, none⟩ = some (.string s0) := fun nd => (blk_cell (blk_new (wr.drewN nd) (.cells #[Value.string ⟨#[116, 105, 100, 101]⟩, Value.string ⟨#[119, 114, 101, 99, 107]⟩, Value.string ⟨#[55]⟩, Value.string ⟨#[115, 97, 105, 108]⟩] 9)) j).trans ((by simp : _ = _).trans hlit)
      have xq1 : ∀ nd : Nat, (((wr.alloc (.cells #[Value.string ⟨#[116, 105, 100, 101]⟩, Value.string ⟨#[119, 114, 101, 99, 107]⟩, Value.string ⟨#[55]⟩, Value.string ⟨#[115, 97, 105, 108]⟩] 9)).drewN nd).alloc (.cells #[Value.string s0] 9)).cell? ⟨gA, 0, none⟩ = some (.slice A7 n7 c7) := fun nd => ((show Below wr.heap.size wr (((wr.alloc (.cells #[Value.string ⟨#[116, 105, 100, 101]⟩, Value.string ⟨#[119, 114, 101, 99, 107]⟩, Value.string ⟨#[55]⟩, Value.string ⟨#[115, 97, 105, 108]⟩] 9)).drewN nd).alloc (.cells #[Value.string s0] 9)) from by repeat (first | exact Below.refl _ _ | apply below_drew1 | apply pw_below_drewN | apply below_alloc)).cell (World.block_lt_of_cell? wr _ x7)).trans x7
      have xq2 : ∀ nd : Nat, (((wr.drewN nd).alloc (.cells #[Value.string ⟨#[116, 105, 100, 101]⟩, Value.string ⟨#[119, 114, 101, 99, 107]⟩, Value.string ⟨#[55]⟩, Value.string ⟨#[115, 97, 105, 108]⟩] 9)).alloc (.cells #[Value.string s0] 9)).cell? ⟨gA, 0, none⟩ = some (.slice A7 n7 c7) := fun nd => ((show Below wr.heap.size wr (((wr.drewN nd).alloc (.cells #[Value.string ⟨#[116, 105, 100, 101]⟩, Value.string ⟨#[119, 114, 101, 99, 107]⟩, Value.string ⟨#[55]⟩, Value.string ⟨#[115, 97, 105, 108]⟩] 9)).alloc (.cells #[Value.string s0] 9)) from by repeat (first | exact Below.refl _ _ | apply below_drew1 | apply pw_below_drewN | apply below_alloc)).cell (World.block_lt_of_cell? wr _ x7)).trans x7
      have xq3 : ∀ nd : Nat, ((wr.drewN nd).alloc (.cells #[Value.string ⟨#[116, 105, 100, 101]⟩, Value.string ⟨#[119, 114, 101, 99, 107]⟩, Value.string ⟨#[55]⟩, Value.string ⟨#[115, 97, 105, 108]⟩] 9)).cell? ⟨gA, 0, none⟩ = some (.slice A7 n7 c7) := fun nd => ((show Below wr.heap.size wr ((wr.drewN nd).alloc (.cells #[Value.string ⟨#[116, 105, 100, 101]⟩, Value.string ⟨#[119, 114, 101, 99, 107]⟩, Value.string ⟨#[55]⟩, Value.string ⟨#[115, 97, 105, 108]⟩] 9)) from by repeat (first | exact Below.refl _ _ | apply below_drew1 | apply pw_below_drewN | apply below_alloc)).cell (World.block_lt_of_cell? wr _ x7)).trans x7
      go_region_law (first | (go_simp; go_at_call 8; (with_reducible refine (wrackmake_Below.calls n 4 (j : Int) _ HBL.out).mono ?_); rintro e w7 ⟨rfl, ⟨nd, rfl⟩⟩) | go_loud (refine Kd.R_append_step Kd.string (w0 := w4) w4.heap.size rfl (.tmp 45) (.tmp 51) 31 9 (.string ByteArray.empty) 16 rfl Try.underlying31 info9 rfl (by decide) (by omega) (.slice A7 n7 c7) ((l2.take kk).map askW) s0 [.string s0] (fun _ => True) (fun _ => False) rfl (by first | rfl | (simp; done) | (go_simp; done)) rfl (fun _ hk => hk.elim) (fun _ _ => trivial) (by exact Kd.R_below HO7.out (by repeat (first | exact Below.refl _ _ | apply below_drew1 | apply pw_below_drewN | apply below_alloc))) (by exact (HFX.out _ (by repeat (first | exact Below.refl _ _ | apply below_drew1 | apply pw_below_drewN | apply below_alloc))).out) (by exact (HFX.out _ (by repeat (first | exact Below.refl _ _ | apply below_drew1 | apply pw_below_drewN | apply below_alloc))).out.size) HLM.out ?_; intro v1 wa ho hb hg hat; rw [← HST.out] at ho; obtain ⟨A3, c3, e3⟩ := Kd.R_slice ho; subst e3; generalize ((l2.take (kk + 1)).map askW).length = n3 at ho ⊢; have ba := XB.out _ wa (by repeat (first | exact Below.refl _ _ | apply below_drew1 | apply pw_below_drewN | apply below_alloc)) hg; have xa : wa.cell? ⟨gA, 0, none⟩ = some (.slice A7 n7 c7) := (blk_cell ba 0).trans rfl; have xf : wa.frozen? ⟨gA, 0, none⟩ = false := blk_frozen ba 0; clear hg hat))
      all_goals
        have BK3 : Aside0 ((wa.setCell ⟨gA, 0, none⟩ (.slice A3 n3 c3)).heap[gA]? = some (.cells #[.slice A3 n3 c3] 31 (0, 0))) := ⟨(blk_set ba 0 _).trans rfl⟩
        have HO3 := Aside0.mk (Kd.R_grown1 ho rfl (grown_set wa gA 0 (.slice A3 n3 c3)) (ne31 ho ba))
        have HBS : Aside0 (Below w4.heap.size w4 (wa.setCell ⟨gA, 0, none⟩ (.slice A3 n3 c3))) := ⟨hb.setCell (by exact HGA.out) _⟩
        clear ho hb ba xa xf X7A xq1 xq2 xq3 x7 x7a z0 hlit hlit2
        generalize wa.setCell ⟨gA, 0, none⟩ (.slice A3 n3 c3) = wb at BK3 HO3 HBS ⊢
        go_wp2
        go_roundg (n4 - (kk + 1))
        case measure => omega
        case rel => exact ⟨kk + 1, A3, c3, n3, by omega, by omega, by go_num, BK3, HO3, HBS⟩
    · have hltz : ¬ (kk : Int) < (n4 : Int) := by omega
      have hk : kk = n4 := by omega
      subst hk
      have HOX : Aside0 (Kd.R Kd.string 9 wr w4.heap.size (fun _ => True) (.slice A7 n7 c7) (askOf l2)) := ⟨by have h := HO7.out; unfold askOf; rw [HT4.out]; exact h⟩
      have HAL : Aside0 ((askOf l2).length ≤ 4 ∧ ∀ s ∈ askOf l2, s.size ≤ maxLen) := ⟨by unfold askOf; rw [List.length_map, List.length_take]; omega, fun s hs => by
        obtain ⟨n, -, rfl⟩ := List.mem_map.1 hs
        have := askW_size n
        unfold maxLen
        omega⟩
      clear HO7 HT4 HR2 hm4 hm4m hm4a hm4b hm4c hm4d hbig hn4b hltz hlt hg hkk
      generalize askOf l2 = ask at *
      obtain ⟨hn7, hc7, hC7⟩ := Kd.R_reads' HOX.out
      subst hn7
      have x7 : wr.cell? ⟨gA, 0, none⟩ = some (.slice A7 ask.length c7) := (blk_cell BK.out 0).trans rfl
      have HBR : Aside0 (Below w.heap.size w wr) := ⟨below_step HB4.out HB3.out⟩
      have HX5 := Aside0.mk (HX4.out.below HB3.out)
      have HC7 := Aside0.mk hC7
      have HCC7 := Aside0.mk hc7
      clear HX4 HB3 HB4 hC7 hc7 HOX HGA
      by_cases he : ask.length = 0
      · have he1 : ((ask.length : Int) == 0) = true := by rw [he]; rfl
        have HE := Aside0.mk he
        clear he
        go_wp2
        go_ret
        exact ⟨rfl, HBR.out⟩
      · have he1 : ((ask.length : Int) == 0) = false := by simp [he]
        have HE : Aside0 (1 ≤ ask.length) := ⟨by omega⟩
        clear he
        have HPC := Aside0.mk (word_Index_Phrase.calls w1.heap.size gx P Z NN A7 c7 ask wr HX5.out HC7.out HCC7.out HE.out (by have := HAL.out.1; omega) HAL.out.2 HPL.out)
        have HOC : Aside0 (∀ W, Below wr.heap.size wr W → Calls Try.prog 10 #[.pointer (some ⟨gx, 0, none⟩), .slice A7 ask.length c7] W fun e w' => ∃ v : Value, e = .returned (.tuple #[v, .int .i64 0]) ∧ Kd.R k39 39 w' W.heap.size (fun _ => True) v (ordL P ask Z.length) ∧ Below W.heap.size W w') := ⟨fun W hb => word_Index_Order.calls w1.heap.size gx P Z NN A7 c7 ask W (HX5.out.below hb) (Kd.C_below HC7.out hb) HCC7.out HE.out (by have := HAL.out.1; omega) HAL.out.2 HPL.out (by have := HZL.out; omega)⟩
        have HAC : Aside0 (∀ W, Below wr.heap.size wr W → Calls Try.prog 11 #[.pointer (some ⟨gx, 0, none⟩), .slice A7 ask.length c7] W fun e w' => ∃ v : Value, e = .returned (.tuple #[v, .int .i64 0]) ∧ Kd.R (Kd.int .i64) 3 w' W.heap.size (fun _ => True) v (allL D ask) ∧ Below W.heap.size W w') := ⟨fun W hb => word_Index_All.calls k w1.heap.size gx P Z NN A7 c7 ask D W (HX5.out.below hb) (Kd.C_below HC7.out hb) HCC7.out HE.out (by have := HAL.out.1; omega) HAL.out.2 HD.out⟩
        have HFD : Aside0 (∀ W, Below wr.heap.size wr W → ∀ s ∈ ask, Calls Try.prog 15 #[.pointer (some ⟨gx, 0, none⟩), .string s] W fun e w' => ∃ v0_ : Value, e = .returned (v0_) ∧ Kd.R k39 39 w' W.heap.size (fun _ => True) v0_ (P s) ∧ Below W.heap.size W w') := ⟨fun W hb s hs => word_Index_Find.calls w1.heap.size gx P Z NN s W (HX5.out.below hb) (HAL.out.2 s hs) (by have := HPL.out s; omega)⟩
        have HXA : Aside0 (∀ W, Below wr.heap.size wr W → W.cell? ⟨gA, 0, none⟩ = some (.slice A7 ask.length c7)) := ⟨fun W hb => (hb.cell (World.block_lt_of_cell? wr _ x7)).trans x7⟩
        clear HX5 BK HPL HZL HD
        have HL4 : Aside0 (ask.length ≤ 4) := ⟨HAL.out.1⟩
        clear HAL
        obtain ⟨PH, hPH⟩ : ∃ q, phr P ask = q := ⟨_, rfl⟩
        obtain ⟨OR, hOR⟩ : ∃ q, ordL P ask Z.length = q := ⟨_, rfl⟩
        obtain ⟨AL, hAL⟩ : ∃ q, allL D ask = q := ⟨_, rfl⟩
        rw [hPH] at HPC
        rw [hPH, hOR] at HPH
        rw [hOR, hAL] at HOA
        rw [hOR] at HOC
        rw [hAL] at HAC
        clear hPH hOR hAL
        go_upto_region 15 with (first | (go_at_call 9; refine HPC.out.mono ?_; rintro e w5 ⟨v5, rfl, hr5, hb⟩; obtain ⟨A5, c5, e5⟩ := Kd.R_slice hr5; subst e5; have x75 := HXA.out _ hb; have HR5 := Aside0.mk (Kd.R_reads' hr5); have HB5 := Aside0.mk hb; clear hr5 hb) | (go_at_call 10; refine (HOC.out _ HB5.out).mono ?_; rintro e w6 ⟨v6, rfl, hr6, hb⟩; obtain ⟨A6, c6, e6⟩ := Kd.R_slice hr6; subst e6; have HR6 := Aside0.mk (Kd.R_reads' hr6); have HR56 := Aside0.mk (Kd.C_below HR5.out.2.2 hb); have HB6 := Aside0.mk (below_step HB5.out hb); have x76 := HXA.out _ HB6.out; clear hr6 hb) | (go_at_call 11; refine (HAC.out _ HB6.out).mono ?_; rintro e w7 ⟨v7, rfl, hr7, hb⟩; obtain ⟨A8, c8, e8⟩ := Kd.R_slice hr7; subst e8; have HR7 := Aside0.mk (Kd.R_reads' hr7); have HR57 := Aside0.mk (Kd.C_below HR56.out hb); have HR67 := Aside0.mk (Kd.C_below HR6.out.2.2 hb); have HB7 := Aside0.mk (below_step HB6.out hb); clear hr7 hb))
        obtain ⟨W5, hW5⟩ : ∃ W, W = wr := ⟨_, rfl⟩
        subst hW5
        obtain ⟨W8, hW8⟩ : ∃ W, W = w7.alloc (.cells #[.slice A8 AL.length c8] 23) := ⟨_, rfl⟩
        obtain ⟨gB, hgB⟩ : ∃ g, g = w7.heap.size := ⟨_, rfl⟩
        have xB : W8.cell? ⟨gB, 0, none⟩ = some (.slice A8 AL.length c8) := by rw [hW8, hgB]; exact (blk_cell (blk_new w7 _) 0).trans rfl
        have hb8 : Below w7.heap.size w7 W8 := by rw [hW8]; exact below_alloc (Below.refl _ _) _
        rw [← hW8, ← hgB]
        clear hW8 hgB x75 x76 x7
        have XB := Aside0.mk xB
        have HB8 : Aside0 (Below W5.heap.size W5 W8) := ⟨below_step HB7.out hb8⟩
        have HR58 := Aside0.mk (Kd.C_below HR57.out hb8)
        have HR68 := Aside0.mk (Kd.C_below HR67.out hb8)
        have HR78 := Aside0.mk (Kd.C_below HR7.out.2.2 hb8)
        have hbigP : PH.length ≤ 9223372036854775807 := HR58.out.2.1
        have HC6 := Aside0.mk HR6.out.2.1
        clear xB hb8 HR5 HR6 HR7 HR56 HR57 HR67 HB5 HB6 HB7 HPC HOC HAC
        go_wp2
        go_loopg [87] PH.length (fun gg s87 wx => ∃ kk : Nat, kk ≤ PH.length ∧ PH.length - kk ≤ gg ∧ s87 = .int .i64 kk ∧ Aside0 (Below W8.heap.size W8 wx))
        case atStart => exact ⟨0, Nat.zero_le _, by omega, rfl, ⟨Below.refl _ _⟩⟩
        case round =>
          obtain ⟨kk, hkk, hg, rfl, HB9⟩ := hrel
          have HB59 : Aside0 (Below W5.heap.size W5 wr) := ⟨below_step HB8.out HB9.out⟩
          by_cases hlt : kk < PH.length
          · have hltz : (kk : Int) < (PH.length : Int) := by omega
            have h0 : (0 : Int) ≤ (kk : Int) := by omega
            obtain ⟨adp, ep, y0, y1⟩ := at_T39 HR58.out (kk : Int) h0 hltz
            subst ep
            have hrd : rd_T39 PH (kk : Int) = PH[kk] := by unfold rd_T39; rw [Int.toNat_natCast, List.getD_eq_getElem?_getD, List.getElem?_eq_getElem hlt]; rfl
            rw [hrd, Int.toNat_natCast] at y0 y1
            obtain ⟨hp1, hp2, hany, hfd⟩ := HPH.out _ (List.getElem_mem hlt)
            obtain ⟨⟨p0, p1⟩, hp⟩ : ∃ p, PH[kk] = p := ⟨_, rfl⟩
            rw [hp] at y0 y1 hp1 hp2 hany hfd
            simp only at y0 y1 hp1 hp2 hfd
            replace y0 := (HB9.out.cell (World.block_lt_of_cell? W8 _ y0)).trans y0
            replace y1 := (HB9.out.cell (World.block_lt_of_cell? W8 _ y1)).trans y1
            have HANY := Aside0.mk hany
            have HFI := Aside0.mk hfd
            have HP12 := Aside0.mk (And.intro hp1 hp2)
            clear hrd hp hany hfd
            go_upto_region 20 with (fail)
            obtain ⟨W9, hW9⟩ : ∃ W, W = wr.alloc (.cells #[.int .i64 p0, .int .i64 p1] 39) := ⟨_, rfl⟩
            obtain ⟨gp, hgp⟩ : ∃ g, g = wr.heap.size := ⟨_, rfl⟩
            have BKP : Aside0 (W9.heap[gp]? = some (.cells #[.int .i64 p0, .int .i64 p1] 39 (0, 0))) := ⟨by rw [hW9, hgp]; exact blk_new wr _⟩
            have HB10 : Aside0 (Below wr.heap.size wr W9) := ⟨by rw [hW9]; exact below_alloc (Below.refl _ _) _⟩
            rw [← hW9, ← hgp]
            clear hW9 hgp y0 y1
            have hcf := word_Place_12.cf13 ⟨gp, 0, none⟩ ⟨gA, 0, none⟩ A6 c6 OR (cl1B ⟨p0, p1⟩ ask.length) W9 (Kd.C_below (Kd.C_below HR68.out HB9.out) HB10.out) (fun W hb x _ => word_Place_12.cl13 x ⟨p0, p1⟩ gp gA A7 ask.length c7 W ((blk_cell (blk_below BKP.out hb) 0).trans rfl) ((blk_cell (blk_below BKP.out hb) 1).trans rfl) (HXA.out _ (below_step (below_step HB59.out HB10.out) hb)) (by have := HL4.out; omega) HP12.out)
            rw [HANY.out] at hcf
            go_upto_region 22 with (go_at_call 12; refine hcf.mono ?_; rintro e w10 ⟨rfl, hb⟩; have HB11 := Aside0.mk hb; clear hb)
            have xA := HXA.out _ (below_step (below_step HB59.out HB10.out) HB11.out)
            have HB12 : Aside0 (Below W8.heap.size W8 w10) := ⟨below_step (below_step HB9.out HB10.out) HB11.out⟩
            have HB52 : Aside0 (Below W5.heap.size W5 w10) := ⟨below_step HB8.out HB12.out⟩
            have BK10 := Aside0.mk (blk_below BKP.out HB11.out)
            clear hcf HANY HB10 HB11 BKP
            go_wp2
            go_loopg [97] ask.length (fun gg s97 wx => ∃ jj : Nat, jj ≤ ask.length ∧ ask.length - jj ≤ gg ∧ s97 = .int .i64 jj ∧ Aside0 (Below w10.heap.size w10 wx))
            case atStart => exact ⟨0, Nat.zero_le _, by omega, rfl, ⟨Below.refl _ _⟩⟩
            case round =>
              obtain ⟨jj, hjj, hgj, rfl, HBX⟩ := hrel
              clear xA
              by_cases hlj : jj < ask.length
              · have hljz : (jj : Int) < (ask.length : Int) := by omega
                have h0j : (0 : Int) ≤ (jj : Int) := by omega
                have HBW : Aside0 (Below W5.heap.size W5 wr) := ⟨below_step HB52.out HBX.out⟩
                obtain ⟨adw, ew, z0⟩ := Kd.at_string HC7.out (jj : Int) h0j hljz
                subst ew
                have hrdw : rdOf ByteArray.empty ask (jj : Int) = ask[jj] := by unfold rdOf; rw [Int.toNat_natCast, List.getD_eq_getElem?_getD, List.getElem?_eq_getElem hlj]; rfl
                have hgd : ask.getD jj ByteArray.empty = ask[jj] := by rw [List.getD_eq_getElem?_getD, List.getElem?_eq_getElem hlj]; rfl
                rw [hrdw, Int.toNat_natCast] at z0
                have hfi := HFI.out jj hlj
                rw [hgd] at hfi
                have HFC := Aside0.mk (fun W hb => HFD.out W hb _ (List.getElem_mem hlj))
                clear hrdw hgd
                generalize ask[jj] = s at *
                replace z0 := (HBW.out.cell (World.block_lt_of_cell? W5 _ z0)).trans z0
                have bp := blk_below BK10.out HBX.out
                have k0 : wr.cell? ⟨gp, 0, none⟩ = some (.int .i64 p0) := (blk_cell bp 0).trans rfl
                have k1 : wr.cell? ⟨gp, 1, none⟩ = some (.int .i64 p1) := (blk_cell bp 1).trans rfl
                clear bp
                obtain ⟨F, hF⟩ : ∃ F, P s = F := ⟨_, rfl⟩
                rw [hF] at hfi
                have HCT : Aside0 (∀ A c W, Kd.C k39 W A F.length F → F.length ≤ c → Calls Try.prog 14 #[.slice A F.length c, .agg #[.int .i64 p0, .int .i64 (IntKind.i64.wrap (p1 + (jj : Int)))]] W fun e w' => e = .returned (.bool true) ∧ Below W.heap.size W w') := ⟨fun A c W h1 h2 => by
                  rw [i64_w]
                  exact word_Place_14.calls k A c F p0 _ true W h1 h2 hfi⟩
                have HFC2 : Aside0 (∀ W, Below wr.heap.size wr W → Calls Try.prog 15 #[.pointer (some ⟨gx, 0, none⟩), .string s] W fun e w' => ∃ v0_ : Value, e = .returned (v0_) ∧ Kd.R k39 39 w' W.heap.size (fun _ => True) v0_ F ∧ Below W.heap.size W w') := ⟨fun W hb => by rw [← hF]; exact HFC.out W (below_step HBW.out hb)⟩
                have HKS : Aside0 (∀ w', Below wr.heap.size wr w' → w'.cell? ⟨gp, 0, none⟩ = some (.int .i64 p0) ∧ w'.cell? ⟨gp, 1, none⟩ = some (.int .i64 p1) ∧ Below wr.heap.size wr w') := ⟨fun w' h => ⟨(h.cell (World.block_lt_of_cell? wr _ k0)).trans k0, (h.cell (World.block_lt_of_cell? wr _ k1)).trans k1, h⟩⟩
                clear hF hfi HFC
                have HK1 : Aside0 (wrap64 ((jj : Int) + 1) = ((jj + 1 : Nat) : Int)) := ⟨by have := HL4.out; unfold wrap64; omega⟩
                go_upto_region 25 with (fail)
                go_cut [113] (fun v113 wy => v113 = .bool false ∧ Aside0 (Below wr.heap.size wr wy))
                case first =>
                  go_region_held3 (fun w' => w'.cell? ⟨gp, 0, none⟩ = some (.int .i64 p0) ∧ w'.cell? ⟨gp, 1, none⟩ = some (.int .i64 p1) ∧ Below wr.heap.size wr w') (first | exact HKS.out _ (by (repeat (first | assumption | exact Below.refl _ _ | apply below_drew1)))) (first | (go_at_call 15; (with_reducible refine (HFC2.out _ ?hbb).mono ?_); (case hbb => (repeat (first | assumption | exact Below.refl _ _ | apply below_drew1))); rintro e w17 ⟨v17, rfl, hR, hb⟩; obtain ⟨A17, c17, e17⟩ := Kd.R_slice hR; subst e17; have HR17 := Aside0.mk (Kd.R_reads' hR); clear hR; have hb17 : Below wr.heap.size wr w17 := below_step (by (repeat (first | assumption | exact Below.refl _ _ | apply below_drew1))) hb; clear hb) | (go_at_call 14; (with_reducible refine (HCT.out _ _ _ HR17.out.2.2 HR17.out.2.1).mono ?_); rintro e w18 ⟨rfl, hb⟩; have hb18 : Below wr.heap.size wr w18 := below_step (by (repeat (first | assumption | exact Below.refl _ _ | apply below_drew1))) hb; clear hb))
                  all_goals
                    go_wp2_with fail
                    go_meet
                    case rel => exact ⟨rfl, ⟨hb18⟩⟩
                case rest =>
                  obtain ⟨rfl, HB17⟩ := hcut
                  have HBY : Aside0 (Below w10.heap.size w10 wc) := ⟨below_step HBX.out HB17.out⟩
                  clear k0 k1 z0
                  go_wp2
                  go_roundg (ask.length - (jj + 1))
                  case measure => omega
                  case rel => exact ⟨jj + 1, by omega, by omega, by rw [HK1.out], HBY⟩
              · have hljz : ¬ (jj : Int) < (ask.length : Int) := by omega
                have HBZ : Aside0 (Below W8.heap.size W8 wr) := ⟨below_step HB12.out HBX.out⟩
                go_wp2
                go_roundg (PH.length - (kk + 1))
                case measure => omega
                case rel => exact ⟨kk + 1, by omega, by omega, by go_num, HBZ⟩
          · have hltz : ¬ (kk : Int) < (PH.length : Int) := by omega
            have hcf := word_Place_12.cf16 ⟨gB, 0, none⟩ A6 c6 OR (fun p => !hasI AL p.f0) wr (Kd.C_below HR68.out HB9.out) (fun W hb x _ => word_Place_12.cl16 x gB A8 c8 AL W ((hb.cell (World.block_lt_of_cell? wr _ ((HB9.out.cell (World.block_lt_of_cell? W8 _ XB.out)).trans XB.out))).trans ((HB9.out.cell (World.block_lt_of_cell? W8 _ XB.out)).trans XB.out)) (Kd.C_below (Kd.C_below HR78.out HB9.out) hb))
            rw [HOA.out HE.out] at hcf
            go_wp2_with (go_at_call 12; refine hcf.mono ?_; rintro e w10 ⟨rfl, hb⟩; have HB11 := Aside0.mk hb; clear hb)
            go_ret
            exact ⟨rfl, below_step (below_step HBR.out HB59.out) HB11.out⟩

end Go.Proofs.Ytchjgjpoephljaa.PWordChain
