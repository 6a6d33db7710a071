-- written by prn.py, a program of this session, over the kit's printer
import Derived.Test.YtcnabemeadnecaaPPassPlansx0
import Derived.Test.YtcnabemeadnecaaPPassPlansx4
namespace Go.Proofs.Ytcnabemeadnecaa.PPassPlans
open Go.RowKit Go.Proofs.YtcnabemeadnecaaW.PrintWords Go.Proofs.YtcnabemeadnecaaW.PrintLast Go.Proofs.YtcnabemeadnecaaW.PrintMore Go.Proofs.YtcnabemeadnecaaW.PrintMine
attribute [local go_sem] max2_int min2_int max_two min_two max_three min_three max_four min_four   -- for this text's walks alone
set_option linter.unusedVariables false
set_option linter.unusedSimpArgs false

/-! ### pass_job_try: function 36 -/
/-- Block g is a job: the states of the blocks, their bytes, the blocks read so far, its disk and its plan; all its own blocks from n on, the disk's below n. -/
def IsJob (m n : Nat) (w : World) (g gd : Nat) (S B R : List Int) (sk tr : Int) (D : List Int) (F : List S59) (mp : Int → Int) (N : Nat) (tm : Int) : Prop :=
  ∃ (bs cs bb cb : Nat) (vR : Value), w.heap[g]? = some (.cells #[.slice (some ⟨bs, 0, none⟩) S.length cs, .slice (some ⟨bb, 0, none⟩) B.length cb, vR, .int .i64 0, .pointer (some ⟨gd, 0, none⟩), .int .i64 sk, .int .i64 tr] 69 (0, 0)) ∧
    n ≤ g ∧ n ≤ bs ∧ n ≤ bb ∧ (g ≠ bs ∧ g ≠ bb ∧ bs ≠ bb) ∧ Kd.R (Kd.int .i64) 3 w n (fun k => k = bs) (.slice (some ⟨bs, 0, none⟩) S.length cs) S ∧ Kd.R (Kd.int .u8) 5 w n (fun k => k = bb) (.slice (some ⟨bb, 0, none⟩) B.length cb) B ∧
    Kd.R (Kd.int .i64) 3 w n (fun k => k ≠ g ∧ k ≠ bs ∧ k ≠ bb) vR R ∧ IsDisk m n w gd D F mp N tm ∧ m ≤ n ∧ n ≤ w.heap.size
set_option maxHeartbeats 4000000 in
set_option maxRecDepth 100000 in
theorem pass_job_try.calls (k m n g gd : Nat) (S B R : List Int) (sk tr : Int) (D : List Int) (F : List S59) (mp : Int → Int) (N : Nat) (tm : Int) (at_ : Nat) (f : Int × Int × Int) (w : World) (hJ : IsJob m n w g gd S B R sk tr D F mp N tm) (h : drive_fault.f k D F (at_ : Int) = some f) (q1 : at_ < S.length) (q2 : D.length = 64 * S.length) (q3 : D.length ≤ 65536) (q3b : B.length = D.length) (qR : R.length ≤ 1000000)
    (q4 : N ≤ 100000000) (q5 : 0 ≤ mp at_) (q6 : mp at_ ≤ 100000000) (q7 : 0 ≤ tm) (q8 : tm ≤ 1000000000000) (q9 : 0 ≤ ansT f) (q10 : ansT f ≤ 100000000) :
    Calls Try.prog 36 #[.pointer (some ⟨g, 0, none⟩), .int .i64 at_] w fun e w' => e = .returned (.bool (ansE f (mp at_ + 1) == 0)) ∧ IsJob m n w' g gd (S.set at_ (if ansE f (mp at_ + 1) = 0 then 1 else 2)) (if ansE f (mp at_ + 1) = 0 then copyAt B (64 * at_) (ansR D at_ f (mp at_ + 1)) else B) (R ++ [(at_ : Int)]) sk tr D F (upd mp at_ (mp at_ + 1)) (N + 1) (tm + ansT f) ∧ Below m w w' := by
  obtain ⟨bs, cs, bb, cb, vR, j1, j2, j3, j4, ⟨j5, j6, j7⟩, j8, j9, j10, j11, j12, j13⟩ := hJ
  have x4 : w.cell? ⟨g, 4, none⟩ = some (.pointer (some ⟨gd, 0, none⟩)) := (blk_cell j1 4).trans rfl
  have HD := Aside0.mk j11
  have H := Aside0.mk h
  have hmw : m ≤ w.heap.size := Nat.le_trans j12 j13
  have J1 := Aside0.mk j1
  have J8 := Aside0.mk j8
  have J9 := Aside0.mk j9
  have J10 := Aside0.mk j10
  clear j1 j8 j9 j10 j11 h
  generalize hE : ansE f (mp at_ + 1) = E at *
  generalize hV : ansR D at_ f (mp at_ + 1) = V at *
  have HRD := drive_Disk_Read.calls k m n gd D F mp N tm (at_ : Int) f w HD.out hmw H.out (by omega) (by omega) q3 q4 q5 q6 q7 q8 q9 q10
  rw [hE, hV] at HRD
  replace HRD := Aside0.mk HRD
  replace hE := Aside0.mk hE
  replace hV := Aside0.mk hV
  go_enter Try.func36, Try.ntmps36
  go_upto_region 2 with (go_at_call 12; refine HRD.out.mono ?_; rintro e w1 ⟨v1, rfl, hR, hI, hb, hF, hZ⟩; have HZ1 := Aside0.mk hZ; have HV1 := Aside0.mk hR; have HD1 := Aside0.mk hI; have HB1 := Aside0.mk hb; have HF1 := Aside0.mk hF; clear hR hI hb hF hZ)
  obtain ⟨A1, c1, e1⟩ := Kd.R_slice HV1.out
  subst e1
  have gw : g < w.heap.size := blk_lt J1.out
  have bsw : bs < w.heap.size := by
    obtain ⟨gx, cx, ex, _, gx2, _⟩ := Kd.R_form J8.out (by omega)
    injection ex with ex
    injection ex with ex
    injection ex with ex
    rw [ex]; exact gx2
  have bbw : bb < w.heap.size := by
    obtain ⟨gx, cx, ex, _, gx2, _⟩ := Kd.R_form J9.out (by omega)
    injection ex with ex
    injection ex with ex
    injection ex with ex
    rw [ex]; exact gx2
  have RRb := Aside0.mk (Kd.R_step (Kd.R_bound J10.out) (fun k hk hl => HF1.out k hk.2.1 hl))
  have hs1 : w.heap.size ≤ w1.heap.size := HZ1.out
  have BK1 := Aside0.mk ((HF1.out g j2 (blk_lt J1.out)).trans J1.out)
  have RS1 := Aside0.mk (Kd.R_step J8.out (fun k hk hl => HF1.out k (by rw [hk]; exact j3) hl))
  have RB1 := Aside0.mk (Kd.R_step J9.out (fun k hk hl => HF1.out k (by rw [hk]; exact j4) hl))
  have RR1 := Aside0.mk (Kd.R_mono (Kd.R_step (Kd.R_bound J10.out) (fun k hk hl => HF1.out k hk.2.1 hl)) (fun _ hk => hk.1))
  have hn1 : n ≤ w1.heap.size := Nat.le_trans j13 HB1.out.size
  have hg1 : g < w1.heap.size := blk_lt BK1.out
  have x2 : w1.cell? ⟨g, 2, none⟩ = some vR := (blk_cell BK1.out 2).trans rfl
  have f2 := blk_frozen BK1.out 2
  have hbs : bs < w1.heap.size := Nat.lt_of_lt_of_le bsw hs1
  have hbb : bb < w1.heap.size := Nat.lt_of_lt_of_le bbw hs1
  clear x4 HRD J1 J8 J9 J10 HD
  go_upto_region 3 with ((with_reducible refine gate_builtin (b := .append) (xs := #[.tmp 21, .tmp 23]) rfl ?_); at_builtin; refine Kd.R_append (Kd.int .i64) (w0 := w1) n rfl (.tmp 21) (.tmp 23) 22 3 (.int .i64 0) 8 rfl Try.underlying22 info3 rfl (by decide) (by omega) vR R (at_ : Int) [.int .i64 at_] (fun k => k ≠ g ∧ k ≠ bs ∧ k ≠ bb) (fun _ => False) rfl (by first | (go_simp; done) | (go_simp; rfl)) ?aP (fun _ hk => hk.elim) ?aF ?aO ?aB ?aS ?aL ?_; (case aP => exact rfl); (case aB => exact Below.refl _ _); (case aF => exact fun k hk => ⟨by omega, by omega, by omega⟩); (case aO => exact RR1.out); (case aS => exact hn1); (case aL => omega); intro v2 w2 ho hb hg hat; have RR2 := Aside0.mk ho; have HB2 := Aside0.mk hb; have HG2 := Aside0.mk hg; have BK2 := Aside0.mk (blk_grown BK1.out hg (Kd.R_away RR1.out (fun _ hk => hk.1))); have x2b : w2.cell? ⟨g, 2, none⟩ = some vR := (blk_cell BK2.out 2).trans rfl; have f2b := blk_frozen BK2.out 2; obtain ⟨A2, c2, e2⟩ := Kd.R_slice RR2.out; subst e2; clear ho hb hg hat)
  have hgs := grown_set w2 g 2 (.slice A2 (R.length + 1) c2)
  have BK3 : (w2.setCell ⟨g, 2, none⟩ (.slice A2 (R.length + 1) c2)).heap[g]? = some (.cells #[.slice (some ⟨bs, 0, none⟩) S.length cs, .slice (some ⟨bb, 0, none⟩) B.length cb, .slice A2 (R.length + 1) c2, .int .i64 0, .pointer (some ⟨gd, 0, none⟩), .int .i64 sk, .int .i64 tr] 69 (0, 0)) := blk_put BK2.out 2 _ rfl
  generalize w2.setCell ⟨g, 2, none⟩ (.slice A2 (R.length + 1) c2) = W3 at hgs BK3 ⊢
  replace hgs := Aside0.mk hgs
  have RS3 := Aside0.mk (Kd.R_step (Kd.R_step RS1.out (fun k hk hl => HG2.out.block k hl (by rw [hk]; exact Kd.R_away RR1.out (fun _ h => h.2.1)))) (fun k hk hl => hgs.out.block k hl (fun e => j5 (by injection e with e; omega))))
  have RB3 := Aside0.mk (Kd.R_step (Kd.R_step RB1.out (fun k hk hl => HG2.out.block k hl (by rw [hk]; exact Kd.R_away RR1.out (fun _ h => h.2.2)))) (fun k hk hl => hgs.out.block k hl (fun e => j6 (by injection e with e; omega))))
  have RR3 := Aside0.mk (Kd.R_step RR2.out (fun k hk hl => hgs.out.block k hl (fun e => hk.1 (by injection e))))
  have HD3 := Aside0.mk ((HD1.out.kept HG2.out (fun k e => Nat.le_of_not_lt fun hk => Kd.R_away (g := k) RRb.out (fun _ h => by have := h.2.1; omega) e.symm)).kept hgs.out (fun k e => by injection e with e; omega))
  have HV3 := Aside0.mk (Kd.R_step (Kd.R_step (Kd.R_bound HV1.out) (fun k hk hl => HG2.out.block k hl (Kd.R_away RRb.out (fun _ h => by have h1 := h.2.2.1; have h2 := hk.2.1; omega)))) (fun k hk hl => hgs.out.block k hl (fun e => by injection e with e; have h2 := hk.2.1; omega)))
  have HB3 : Aside0 (Below m w W3) := ⟨(HB1.out.grown HG2.out (by omega) (fun k e => Nat.le_of_not_lt fun hk => Kd.R_away (g := k) RRb.out (fun _ h => by have := h.2.1; omega) e.symm)).grown hgs.out (Nat.le_trans (by omega) HG2.out.size) (fun k e => by injection e with e; omega)⟩
  clear RS1 RB1 RR1 RR2 HG2 HD1 HV1 BK1 BK2 x2 x2b f2 f2b
  have x0 : W3.cell? ⟨g, 0, none⟩ = some (.slice (some ⟨bs, 0, none⟩) S.length cs) := (blk_cell BK3 0).trans rfl
  obtain ⟨y0, y1⟩ := Kd.R_celln 0 RS3.out (at_ : Int) (by omega) (by omega)
  have ec : ((at_ : Int)).toNat = at_ := Int.toNat_natCast at_
  rw [ec] at y0 y1
  have d1 : decide ((at_ : Int) < (S.length : Int)) = true := decide_eq_true (by omega)
  have d2 : decide ((0 : Int) ≤ (at_ : Int)) = true := decide_eq_true (by omega)
  go_upto_region 4 with (fail)
  obtain ⟨p4, g4⟩ := Kd.R_putg RS3.out (at_ : Int) (2 : Int)
  rw [ec] at p4 g4
  have BK4 : (W3.setCell ⟨bs, at_, none⟩ (.int .i64 2)).heap[g]? = some (.cells #[.slice (some ⟨bs, 0, none⟩) (S.set at_ 2).length cs, .slice (some ⟨bb, 0, none⟩) B.length cb, .slice A2 (R.length + 1) c2, .int .i64 0, .pointer (some ⟨gd, 0, none⟩), .int .i64 sk, .int .i64 tr] 69 (0, 0)) := by
    rw [List.length_set]
    exact (g4.block g (blk_lt BK3) (fun e => j5 (by injection e))).trans BK3
  have RS4 := Aside0.mk p4
  have G4 := Aside0.mk g4
  change (W3.grownBy (W3.setCell ⟨bs, at_, none⟩ (.int .i64 2)) (some bs)) at g4
  clear p4 x0 y0 y1
  generalize W3.setCell ⟨bs, at_, none⟩ (.int .i64 2) = W4 at RS4 G4 BK4 g4 ⊢
  clear g4
  have RB4 := Aside0.mk (Kd.R_step RB3.out (fun k hk hl => G4.out.block k hl (fun e => j7 (by injection e with e; omega))))
  have RR4 := Aside0.mk (Kd.R_step RR3.out (fun k hk hl => G4.out.block k hl (fun e => hk.2.1 (by injection e))))
  have HD4 := Aside0.mk (HD3.out.kept G4.out (fun k e => by injection e with e; omega))
  have HV4 := Aside0.mk (Kd.R_step HV3.out (fun k hk hl => G4.out.block k hl (fun e => by injection e with e; have h2 := hk.2.1; omega)))
  clear RS3 RB3 RR3 HD3 HV3
  by_cases hz : E = 0
  · subst hz
    have x0 : W4.cell? ⟨g, 0, none⟩ = some (.slice (some ⟨bs, 0, none⟩) (S.set at_ 2).length cs) := (blk_cell BK4 0).trans rfl
    have hlS : (S.set at_ 2).length = S.length := List.length_set
    obtain ⟨y0, y1⟩ := Kd.R_celln 0 RS4.out (at_ : Int) (by omega) (by omega)
    rw [ec] at y0 y1
    rw [hlS] at x0
    go_upto_region 7 with (fail)
    obtain ⟨p5, g5⟩ := Kd.R_putg RS4.out (at_ : Int) (1 : Int)
    rw [ec, List.set_set] at p5
    rw [ec] at g5
    have BK5 : (W4.setCell ⟨bs, at_, none⟩ (.int .i64 1)).heap[g]? = some (.cells #[.slice (some ⟨bs, 0, none⟩) (S.set at_ 1).length cs, .slice (some ⟨bb, 0, none⟩) B.length cb, .slice A2 (R.length + 1) c2, .int .i64 0, .pointer (some ⟨gd, 0, none⟩), .int .i64 sk, .int .i64 tr] 69 (0, 0)) := by
      have e : (S.set at_ 1).length = (S.set at_ 2).length := by rw [List.length_set, List.length_set]
      rw [e]
      exact (g5.block g (blk_lt BK4) (fun e => j5 (by injection e))).trans BK4
    have RS5 : Aside0 (Kd.R (Kd.int .i64) 3 (W4.setCell ⟨bs, at_, none⟩ (.int .i64 1)) n (fun k => k = bs) (.slice (some ⟨bs, 0, none⟩) (S.set at_ 1).length cs) (S.set at_ 1)) := ⟨by rw [List.length_set]; exact p5⟩
    have G5 : Aside0 (W4.grownBy (W4.setCell ⟨bs, at_, none⟩ (.int .i64 1)) (some bs)) := ⟨g5⟩
    clear p5 g5 x0 y0 y1
    generalize W4.setCell ⟨bs, at_, none⟩ (.int .i64 1) = W5 at RS5 G5 BK5 ⊢
    have RB5 := Aside0.mk (Kd.R_step RB4.out (fun k hk hl => G5.out.block k hl (fun e => j7 (by injection e with e; omega))))
    have RR5 := Aside0.mk (Kd.R_step RR4.out (fun k hk hl => G5.out.block k hl (fun e => hk.2.1 (by injection e))))
    have HD5 := Aside0.mk (HD4.out.kept G5.out (fun k e => by injection e with e; omega))
    have HV5 := Aside0.mk (Kd.R_step HV4.out (fun k hk hl => G5.out.block k hl (fun e => by injection e with e; have h2 := hk.2.1; omega)))
    clear RS4 RB4 RR4 HD4 HV4
    have x1 : W5.cell? ⟨g, 1, none⟩ = some (.slice (some ⟨bb, 0, none⟩) B.length cb) := (blk_cell BK5 1).trans rfl
    have HCV := Aside0.mk (Kd.R_reads' HV5.out).2.2
    have hcb := (Kd.R_reads' RB5.out).2.1
    have hcm := (Kd.R_reads' RB5.out).2.2.2
    have at1 : at_ ≤ 1024 := by omega
    have at2 : at_ * 64 + 64 ≤ B.length := by omega
    go_wp2_with ((with_reducible refine gate_builtin (b := .copy) (xs := #[.tmp 51, .tmp 52]) rfl ?_); refine copy_at (enc := (Value.int .u8)) (h1 := fun _ => rfl) 0 n rfl (.tmp 51) (.tmp 52) 23 23 5 rfl Try.underlying23 (by kernel_rfl) (A0 := some ⟨bb, 0, none⟩) (n := B.length) (c := cb) (k := 64 * at_) (xs := B) (ys := V) rfl rfl ?hA ?hnd ?hk RB5.out ?hR (Below.refl _ _) ?hS ?_; (case hA => (rw [if_neg (by omega), Nat.mul_one, Nat.mul_comm 64 at_]; simp only [Option.map_some, Addr.add, Nat.zero_add]; first | rfl | (split <;> first | rfl | (rename_i h0; rw [h0])))); (case hnd => omega); (case hk => omega); (case hR => exact HCV.out); (case hS => exact Nat.le_of_lt (Nat.lt_of_le_of_lt j2 (blk_lt BK5))); intro w6 ho hb hg; have RB6 := Aside0.mk ho; have G6 : Aside0 (W5.grownBy w6 (some bb)) := ⟨hg⟩; have HB6 := Aside0.mk hb; clear ho hb hg)
    go_ret
    have BK6 := G6.out.block g (blk_lt BK5) (fun e => j6 (by injection e with e))
    rw [BK5] at BK6
    have HL6 : (copyAt B (64 * at_) V).length = B.length := copyAt_length _ _ _ (by omega)
    have RS6 := Aside0.mk (Kd.R_step RS5.out (fun k hk hl => G6.out.block k hl (fun e => j7 (by injection e with e; omega))))
    have RR6 := Aside0.mk (Kd.R_step RR5.out (fun k hk hl => G6.out.block k hl (fun e => hk.2.2 (by injection e))))
    have HD6 := Aside0.mk (HD5.out.kept G6.out (fun k e => by injection e with e; omega))
    refine ⟨by first | rfl | simp, ?_, ?_⟩
    · refine ⟨bs, cs, bb, cb, _, ?_, j2, j3, j4, ⟨j5, j6, j7⟩, RS6.out, by rw [HL6]; exact RB6.out, RR6.out, HD6.out, j12, ?_⟩
      · rw [List.length_append, HL6]
        exact BK6
      · exact Nat.le_of_lt (Nat.lt_of_le_of_lt j2 (blk_lt BK6))
    · exact ((HB3.out.grown G4.out (Nat.le_trans j12 (Nat.le_of_lt (Nat.lt_of_le_of_lt j2 (blk_lt BK3)))) (fun k e => by injection e with e; omega)).grown G5.out (Nat.le_trans j12 (Nat.le_of_lt (Nat.lt_of_le_of_lt j2 (blk_lt BK4)))) (fun k e => by injection e with e; omega)).grown G6.out (Nat.le_trans j12 (Nat.le_of_lt (Nat.lt_of_le_of_lt j2 (blk_lt BK5)))) (fun k e => by injection e with e; omega)
  · have tE : (E != 0) = true := bne_iff_ne.mpr hz
    have tE2 : (E == 0) = false := beq_eq_false_iff_ne.mpr hz
    go_wp2
    go_ret
    have eE := hE.out
    refine ⟨by first | rfl | (simp [tE2]) , ?_, ?_⟩
    · refine ⟨bs, cs, bb, cb, _, ?_, j2, j3, j4, ⟨j5, j6, j7⟩, by rw [List.length_set]; exact RS4.out, RB4.out, RR4.out, HD4.out, j12, ?_⟩
      · rw [List.length_append]
        exact BK4
      · exact Nat.le_of_lt (Nat.lt_of_le_of_lt j2 (blk_lt BK4))
    · exact HB3.out.grown G4.out (Nat.le_trans j12 (Nat.le_of_lt (Nat.lt_of_le_of_lt j2 (blk_lt BK3)))) (fun k e => by injection e with e; omega)
structure JS where
  S : List Int
  B : List Int
  R : List Int
  mp : Int → Int
  N : Nat
  tm : Int
def tryJ (D : List Int) (ft : Nat → Int × Int × Int) (j : JS) (a : Nat) : JS :=
  ⟨j.S.set a (if ansE (ft a) (j.mp a + 1) = 0 then 1 else 2), if ansE (ft a) (j.mp a + 1) = 0 then copyAt j.B (64 * a) (ansR D a (ft a) (j.mp a + 1)) else j.B, j.R ++ [(a : Int)], upd j.mp a (j.mp a + 1), j.N + 1, j.tm + ansT (ft a)⟩
/-- The state after at most c tries on n blocks. -/
structure JOk (n c : Nat) (j : JS) : Prop where
  hS : j.S.length = n
  hB : j.B.length = 64 * n
  hR : j.R.length ≤ c
  hN : j.N ≤ c
  hm : ∀ x, 0 ≤ j.mp x ∧ j.mp x ≤ c
  ht : 0 ≤ j.tm ∧ j.tm ≤ 100 * c
def IsJS (m n : Nat) (w : World) (g gd : Nat) (j : JS) (sk tr : Int) (D : List Int) (F : List S59) : Prop := IsJob m n w g gd j.S j.B j.R sk tr D F j.mp j.N j.tm
theorem tryJ_ok {D : List Int} {ft : Nat → Int × Int × Int} {n c : Nat} {j : JS} {a : Nat} (h : JOk n c j) (ha : a < n) (hf : 0 ≤ ansT (ft a) ∧ ansT (ft a) ≤ 100) : JOk n (c + 1) (tryJ D ft j a) := by
  obtain ⟨h1, h2, h3, h4, h5, h6⟩ := h
  refine ⟨by simp only [tryJ, List.length_set]; exact h1, ?_, by simp only [tryJ, List.length_append, List.length_cons, List.length_nil]; omega, by simp only [tryJ]; omega, fun x => ?_, by simp only [tryJ]; omega⟩
  · simp only [tryJ]
    split
    · rw [copyAt_length _ _ _ (by omega)]; exact h2
    · exact h2
  · have e1 := h5 a
    have e2 := h5 x
    simp only [tryJ, upd]
    split <;> omega
theorem tryJ_calls (k m n g gd : Nat) (sk tr : Int) (D : List Int) (F : List S59) (ft : Nat → Int × Int × Int) (nb c : Nat) (j : JS) (a : Nat) (w : World) (hJ : IsJS m n w g gd j sk tr D F) (ok : JOk nb c j) (ha : a < nb) (hc : c ≤ 100000) (hD : D.length = 64 * nb) (hD2 : D.length ≤ 65536)
    (hf : drive_fault.f k D F (a : Int) = some (ft a)) (hT : 0 ≤ ansT (ft a) ∧ ansT (ft a) ≤ 100) :
    Calls Try.prog 36 #[.pointer (some ⟨g, 0, none⟩), .int .i64 a] w fun e w' => e = .returned (.bool (ansE (ft a) (j.mp a + 1) == 0)) ∧ IsJS m n w' g gd (tryJ D ft j a) sk tr D F ∧ Below m w w' := by
  obtain ⟨h1, h2, h3, h4, h5, h6⟩ := ok
  have e1 := h5 a
  exact pass_job_try.calls k m n g gd j.S j.B j.R sk tr D F j.mp j.N j.tm a (ft a) w hJ hf (by omega) (by omega) hD2 (by omega) (by omega) (by omega) e1.1 (by omega) h6.1 (by omega) hT.1 (by omega)

/-! ### pass_job_forward: function 28 -/
theorem IsJS.mark {m n : Nat} {w : World} {g gd : Nat} {j : JS} {sk tr : Int} {D : List Int} {F : List S59} (h : IsJS m n w g gd j sk tr D F) {bs cs : Nat} (hc : w.cell? ⟨g, 0, none⟩ = some (.slice (some ⟨bs, 0, none⟩) j.S.length cs)) (a : Nat) (v : Int) (ha : a < j.S.length) :
    IsJS m n (w.setCell ⟨bs, a, none⟩ (.int .i64 v)) g gd ⟨j.S.set a v, j.B, j.R, j.mp, j.N, j.tm⟩ sk tr D F ∧ w.grownBy (w.setCell ⟨bs, a, none⟩ (.int .i64 v)) (some bs) ∧ m ≤ bs ∧ m ≤ w.heap.size := by
  obtain ⟨bs', cs', bb, cb, vR, j1, j2, j3, j4, ⟨j5, j6, j7⟩, j8, j9, j10, j11, j12, j13⟩ := h
  have e0 : w.cell? ⟨g, 0, none⟩ = some (.slice (some ⟨bs', 0, none⟩) j.S.length cs') := (blk_cell j1 0).trans rfl
  rw [hc] at e0
  injection e0 with e0
  injection e0 with e1 e2 e3
  injection e1 with e1
  injection e1 with e1
  subst e1 e3
  obtain ⟨p4, g4⟩ := Kd.R_putg j8 (a : Int) v
  rw [Int.toNat_natCast] at p4 g4
  refine ⟨⟨bs, cs, bb, cb, vR, ?_, j2, j3, j4, ⟨j5, j6, j7⟩, by rw [List.length_set]; exact p4, Kd.R_step j9 (fun k hk hl => g4.block k hl (fun e => j7 (by injection e with e; omega))), Kd.R_step j10 (fun k hk hl => g4.block k hl (fun e => hk.2.1 (by injection e))), j11.kept g4 (fun k e => by injection e with e; omega), j12, Nat.le_trans j13 g4.size⟩, g4, Nat.le_trans j12 j3, Nat.le_trans j12 j13⟩
  rw [List.length_set]
  exact (g4.block g (blk_lt j1) (fun e => j5 (by injection e))).trans j1
theorem IsJS.below {m n : Nat} {w W : World} {g gd : Nat} {j : JS} {sk tr : Int} {D : List Int} {F : List S59} (h : IsJS m n w g gd j sk tr D F) (hb : Below w.heap.size w W) : IsJS m n W g gd j sk tr D F := by
  obtain ⟨bs, cs, bb, cb, vR, j1, j2, j3, j4, j5, j8, j9, j10, j11, j12, j13⟩ := h
  exact ⟨bs, cs, bb, cb, vR, blk_below j1 hb, j2, j3, j4, j5, Kd.R_below j8 hb, Kd.R_below j9 hb, Kd.R_below j10 hb, j11.below hb, j12, Nat.le_trans j13 hb.size⟩
theorem IsJS.cells {m n : Nat} {w : World} {g gd : Nat} {j : JS} {sk tr : Int} {D : List Int} {F : List S59} (h : IsJS m n w g gd j sk tr D F) : ∃ bs cs, w.cell? ⟨g, 0, none⟩ = some (.slice (some ⟨bs, 0, none⟩) j.S.length cs) ∧ w.cell? ⟨g, 5, none⟩ = some (.int .i64 sk) ∧ Kd.R (Kd.int .i64) 3 w n (fun k => k = bs) (.slice (some ⟨bs, 0, none⟩) j.S.length cs) j.S := by
  obtain ⟨bs, cs, bb, cb, vR, j1, j2, j3, j4, j5, j8, j9, j10, j11, j12, j13⟩ := h
  exact ⟨bs, cs, (blk_cell j1 0).trans rfl, (blk_cell j1 5).trans rfl, j8⟩
def markJ (a : Nat) (v : Int) (j : JS) : JS := ⟨j.S.set a v, j.B, j.R, j.mp, j.N, j.tm⟩
/-- Marks the c blocks behind block a as skipped. -/
def skipJ : Nat → Nat → JS → JS
  | 0, _, j => j
  | c + 1, a, j => markJ (a + c + 1) 3 (skipJ c a j)
def fwdJ (D : List Int) (ft : Nat → Int × Int × Int) (sk n : Nat) : Nat → Nat → JS → JS
  | 0, _, j => j
  | d + 1, a, j => if a < n then (if ansE (ft a) (j.mp a + 1) = 0 then fwdJ D ft sk n d (a + 1) (tryJ D ft j a) else fwdJ D ft sk n d (a + min sk (n - 1 - a) + 1) (skipJ (min sk (n - 1 - a)) a (tryJ D ft j a))) else j
theorem JOk.more {n c c' : Nat} {j : JS} (h : JOk n c j) (hc : c ≤ c') : JOk n c' j :=
  ⟨h.hS, h.hB, by have := h.hR; omega, by have := h.hN; omega, fun y => by have := h.hm y; omega, by have := h.ht; omega⟩
theorem JOk.mark {n c : Nat} {j : JS} (h : JOk n c j) (a : Nat) (v : Int) : JOk n c (markJ a v j) := ⟨by simp only [markJ, List.length_set]; exact h.hS, h.hB, h.hR, h.hN, h.hm, h.ht⟩
set_option maxHeartbeats 4000000 in
set_option maxRecDepth 100000 in
theorem pass_job_forward.calls (k m n g gd : Nat) (sk : Nat) (tr : Int) (D : List Int) (F : List S59) (ft : Nat → Int × Int × Int) (nb c : Nat) (j0 : JS) (w : World) (hJ : IsJS m n w g gd j0 sk tr D F) (ok : JOk nb c j0) (hc : c + nb ≤ 100000) (hsk : sk ≤ 64) (hD : D.length = 64 * nb) (hD2 : D.length ≤ 65536)
    (hf : ∀ a < nb, drive_fault.f k D F (a : Int) = some (ft a) ∧ 0 ≤ ansT (ft a) ∧ ansT (ft a) ≤ 100) (hm : m ≤ w.heap.size) :
    Calls Try.prog 28 #[.pointer (some ⟨g, 0, none⟩)] w fun e w' => e = .returned (.tuple #[]) ∧ IsJS m n w' g gd (fwdJ D ft sk nb nb 0 j0) sk tr D F ∧ JOk nb (c + nb) (fwdJ D ft sk nb nb 0 j0) ∧ Below m w w' := by
  obtain ⟨JE, hJE⟩ : ∃ x, fwdJ D ft sk nb nb 0 j0 = x := ⟨_, rfl⟩
  rw [hJE]
  replace hJE := Aside0.mk hJE
  have HJ := Aside0.mk hJ
  have HF := Aside0.mk hf
  have OK0 := Aside0.mk ok
  clear hJ hf ok
  go_enter Try.func28, Try.ntmps28
  go_upto_region 1 with (fail)
  go_loopw [2] (fun i wr => ∃ (x fu : Nat) (j : JS), x ≤ nb ∧ nb - x ≤ fu ∧ i = .int .i64 x ∧ Aside0 (fwdJ D ft sk nb fu x j = JE) ∧ Aside0 (IsJS m n wr g gd j sk tr D F) ∧ Aside0 (JOk nb (c + x) j) ∧ Aside0 (Below m w wr)) (fun i _ => nb - (intOf i).toNat)
  case atStart => exact ⟨0, nb, j0, Nat.zero_le _, by omega, rfl, hJE, HJ, OK0, ⟨Below.refl _ _⟩⟩
  case round =>
    obtain ⟨x, fu, j, h1, hfu, rfl, HE, HJr, OK, HB⟩ := hrel
    obtain ⟨bs, cs, y0, -, -⟩ := HJr.out.cells
    have hl := OK.out.hS
    rw [hl] at y0
    by_cases hlt : x < nb
    · have he := HE.out
      obtain ⟨d, hd⟩ : ∃ d, fu = d + 1 := ⟨fu - 1, by omega⟩
      subst hd
      unfold fwdJ at he
      rw [if_pos hlt] at he
      have hx1 : x ≤ 100000 := by omega
      by_cases hz : ansE (ft x) (j.mp x + 1) = 0
      · rw [if_pos hz] at he
        have HE2 := Aside0.mk he
        clear he
        have HZ := Aside0.mk hz
        clear hz
        go_wp2_with (go_at_call 36; refine (tryJ_calls k m n g gd sk tr D F ft nb (c + x) j x wr HJr.out OK.out hlt (by omega) hD hD2 (HF.out x hlt).1 (HF.out x hlt).2).mono ?_; rw [HZ.out]; rintro e w2 ⟨rfl, hI, hb⟩; have HI2 := Aside0.mk hI; have HB2 := Aside0.mk (HB.out.trans hb); clear hI hb)
        go_roundw
        case rel => exact ⟨x + 1, d, _, by omega, by omega, by go_num, HE2, HI2, ⟨by have := tryJ_ok (D := D) (ft := ft) OK.out hlt (HF.out x hlt).2; rw [Nat.add_assoc] at this; exact this⟩, HB2⟩
        case measure => simp [intOf]; omega
      · rw [if_neg hz] at he
        have HE2 := Aside0.mk he
        clear he
        have tv : (ansE (ft x) (j.mp x + 1) == 0) = false := beq_eq_false_iff_ne.mpr hz
        have HZ := Aside0.mk tv
        clear hz tv
        go_upto_region 4 with (go_at_call 36; refine (tryJ_calls k m n g gd sk tr D F ft nb (c + x) j x wr HJr.out OK.out hlt (by omega) hD hD2 (HF.out x hlt).1 (HF.out x hlt).2).mono ?_; rw [HZ.out]; rintro e w2 ⟨rfl, hI, hb⟩; have HI2 := Aside0.mk hI; have HB2 := Aside0.mk (HB.out.trans hb); clear hI hb)
        have OK2 := Aside0.mk (tryJ_ok (D := D) (ft := ft) OK.out hlt (HF.out x hlt).2)
        obtain ⟨bs2, cs2, z0, z5, -⟩ := HI2.out.cells
        have hl2 := OK2.out.hS
        rw [hl2] at z0
        clear y0
        go_quiet (fail)
        have hmin : (if (nb : Int) - 1 - (x : Int) < (sk : Int) then (nb : Int) - 1 - (x : Int) else (sk : Int)) = ((min sk (nb - 1 - x) : Nat) : Int) := by
          split <;> omega
        rw [hmin]
        have hsm : x + min sk (nb - 1 - x) < nb := by omega
        generalize min sk (nb - 1 - x) = s at hmin hsm HE2 ⊢
        clear hmin
        have HI3 := Aside0.mk (HI2.out.below (pw_below_drewN (Below.refl w2.heap.size w2) nq))
        have HB3 := Aside0.mk (HB2.out.trans ((pw_below_drewN (Below.refl w2.heap.size w2) nq).mono (Nat.le_trans hm HB2.out.size)))
        generalize w2.drewN nq = w3 at HI3 HB3 ⊢
        generalize tryJ D ft j x = jt at HI2 HI3 OK2 HE2 hl2
        clear z0 z5 HI2 HB2
        go_wp2
        go_loopw [2, 31] (fun i cv wr' => ∃ (y z : Nat), y ≤ s ∧ Aside0 (z = x + y) ∧ z ≤ 100000 ∧ i = .int .i64 z ∧ cv = .int .i64 y ∧ Aside0 (IsJS m n wr' g gd (skipJ y x jt) sk tr D F) ∧ Aside0 (JOk nb (c + x + 1) (skipJ y x jt)) ∧ Aside0 (Below m w wr')) (fun _ cv _ => s - (intOf cv).toNat)
        case atStart => exact ⟨0, x, Nat.zero_le _, ⟨rfl⟩, hx1, rfl, rfl, HI3, OK2, HB3⟩
        case round =>
          obtain ⟨y, z, g1, gz, gz2, rfl, rfl, HIy, OKy, HBy⟩ := hrel
          have hly := OKy.out.hS
          obtain ⟨bs3, cs3, z0, -, zR⟩ := HIy.out.cells
          by_cases hys : y < s
          · have hxy : x + y + 1 < nb := by omega
            obtain ⟨u, hu⟩ : ∃ u, x + y + 1 = u := ⟨_, rfl⟩
            have hxb : (z : Int) + 1 = (u : Int) := by have := gz.out; omega
            have hmk := HIy.out.mark z0 u 3 (by omega)
            obtain ⟨mk1, mk2, mk3, mk4⟩ := hmk
            have MK1 := Aside0.mk mk1
            have MK2 := Aside0.mk mk2
            clear mk1 mk2
            obtain ⟨v0, v1⟩ := Kd.R_celln 0 zR (u : Int) (by omega) (by omega)
            rw [Int.toNat_natCast] at v0 v1
            rw [hly] at z0
            have lt1 : (u : Int) < (nb : Int) := by omega
            have lt0 : (0 : Int) ≤ (u : Int) := by omega
            have HU := Aside0.mk hu
            clear hu
            clear zR
            go_upto_region 7 with (fail)
            go_upto_region 8 with (fail)
            generalize wr.setCell ⟨bs3, u, none⟩ (.int .i64 3) = w5 at MK1 MK2 ⊢
            have HB5 := Aside0.mk (HBy.out.grown MK2.out mk4 (fun k e => by injection e with e; omega))
            go_wp2
            go_roundw
            case rel => exact ⟨y + 1, u, by omega, ⟨by have := HU.out; omega⟩, by omega, by first | rfl | go_num, by go_num, ⟨by have := MK1.out; rw [← HU.out] at this; exact this⟩, ⟨OKy.out.mark _ _⟩, HB5⟩
            case measure => simp [intOf]; omega
          · have ex : y = s := by omega
            subst ex
            go_wp2
            go_roundw
            case rel => exact ⟨x + y + 1, d, _, by omega, by omega, by have := gz.out; subst this; go_num, HE2, HIy, ⟨OKy.out.more (by omega)⟩, HBy⟩
            case measure => have := gz.out; simp [intOf]; omega
    · have ex : x = nb := by omega
      subst ex
      have he := HE.out
      have he2 : j = JE := by
        cases fu with
        | zero => exact he
        | succ d => unfold fwdJ at he; rw [if_neg (Nat.lt_irrefl _)] at he; exact he
      subst he2
      go_wp2
      refine bodyPost_end (results_none rfl _ _ _) rfl ?_
      exact ⟨rfl, HJr.out, OK.out, HB.out⟩

/-! ### pass_job_backward: function 29 -/
/-- The blocks below d, from the last one on: those in state 3 are tried, up to one that can't be read. -/
def bwdJ (D : List Int) (ft : Nat → Int × Int × Int) : Nat → Bool → JS → JS
  | 0, _, j => j
  | d + 1, s, j => if rdOf 0 j.S d = 3 then (if s = true then bwdJ D ft d true j else bwdJ D ft d (!(ansE (ft d) (j.mp d + 1) == 0)) (tryJ D ft j d)) else bwdJ D ft d false j
set_option maxHeartbeats 4000000 in
set_option maxRecDepth 100000 in
theorem pass_job_backward.calls (k m n g gd : Nat) (sk tr : Int) (D : List Int) (F : List S59) (ft : Nat → Int × Int × Int) (nb c : Nat) (j0 : JS) (w : World) (hJ : IsJS m n w g gd j0 sk tr D F) (ok : JOk nb c j0) (hc : c + nb ≤ 100000) (hD : D.length = 64 * nb) (hD2 : D.length ≤ 65536)
    (hf : ∀ a < nb, drive_fault.f k D F (a : Int) = some (ft a) ∧ 0 ≤ ansT (ft a) ∧ ansT (ft a) ≤ 100) (hm : m ≤ w.heap.size) :
    Calls Try.prog 29 #[.pointer (some ⟨g, 0, none⟩)] w fun e w' => e = .returned (.tuple #[]) ∧ IsJS m n w' g gd (bwdJ D ft nb false j0) sk tr D F ∧ JOk nb (c + nb) (bwdJ D ft nb false j0) ∧ Below m w w' := by
  obtain ⟨JE, hJE⟩ : ∃ x, bwdJ D ft nb false j0 = x := ⟨_, rfl⟩
  rw [hJE]
  replace hJE := Aside0.mk hJE
  have HJ := Aside0.mk hJ
  have HF := Aside0.mk hf
  have OK0 := Aside0.mk ok
  obtain ⟨bs0, cs0, h0, -, -⟩ := hJ.cells
  have hl := ok.hS
  rw [hl] at h0
  clear hJ hf ok
  go_enter Try.func29, Try.ntmps29
  go_upto_region 2 with (fail)
  clear h0
  go_loopw [3, 2] (fun i sv wr => ∃ (x : Nat) (v : Int) (s : Bool) (j : JS), x ≤ nb ∧ v = (x : Int) - 1 ∧ -1 ≤ v ∧ v ≤ 100000 ∧ i = .int .i64 v ∧ sv = .bool s ∧ Aside0 (bwdJ D ft x s j = JE) ∧ Aside0 (IsJS m n wr g gd j sk tr D F) ∧ Aside0 (JOk nb (c + (nb - x)) j) ∧ Aside0 (Below m w wr)) (fun i _ _ => (intOf i + 1).toNat)
  case atStart => exact ⟨nb, _, false, j0, Nat.le_refl _, rfl, by omega, by omega, rfl, rfl, hJE, HJ, ⟨by rw [Nat.sub_self]; exact OK0.out⟩, ⟨Below.refl _ _⟩⟩
  case round =>
    obtain ⟨x, v, s, j, h1, hv, hv1, hv2, rfl, rfl, HE, HJr, OK, HB⟩ := hrel
    obtain ⟨bs, cs, y0, -, y1⟩ := HJr.out.cells
    have hl := OK.out.hS
    cases x with
    | zero =>
      have ev : v = -1 := by omega
      subst ev
      have he := HE.out
      unfold bwdJ at he
      subst he
      clear y0 y1 hv
      go_wp2
      refine bodyPost_end (results_none rfl _ _ _) rfl ?_
      exact ⟨rfl, HJr.out, OK.out, HB.out⟩
    | succ d =>
      have ev : v = (d : Int) := by omega
      subst ev
      clear hv
      have he := HE.out
      unfold bwdJ at he
      obtain ⟨z0, z1⟩ := Kd.R_celln 0 y1 (d : Int) (by omega) (by omega)
      rw [Int.toNat_natCast] at z0 z1
      obtain ⟨q, hq⟩ : ∃ q, rdOf (0 : Int) j.S (d : Int) = q := ⟨_, rfl⟩
      rw [hq] at z0 he
      rw [hl] at y0
      clear y1
      have hx : (nb - (d + 1)) + 1 = nb - d := by omega
      by_cases hc1 : q = 3
      · subst hc1
        rw [if_pos rfl] at he
        cases s with
        | true =>
          rw [if_pos rfl] at he
          have HE2 := Aside0.mk he
          clear he
          go_wp2
          go_roundw
          case rel => exact ⟨d, _, true, j, by omega, rfl, by omega, by omega, by go_num, rfl, HE2, HJr, ⟨OK.out.more (by omega)⟩, HB⟩
          case measure => simp [intOf]
        | false =>
          rw [if_neg (by simp)] at he
          have HE2 := Aside0.mk he
          clear he
          go_wp2_with (go_at_call 36; refine (tryJ_calls k m n g gd sk tr D F ft nb (c + (nb - (d + 1))) j d wr HJr.out OK.out (by omega) (by omega) hD hD2 (HF.out d (by omega)).1 (HF.out d (by omega)).2).mono ?_; rintro e w2 ⟨rfl, hI, hb⟩; have HI2 := Aside0.mk hI; have HB2 := Aside0.mk (HB.out.trans hb); clear hI hb)
          go_roundw
          case rel => exact ⟨d, _, _, _, by omega, rfl, by omega, by omega, by go_num, rfl, HE2, HI2, ⟨by have := tryJ_ok (D := D) (ft := ft) OK.out (show d < nb by omega) (HF.out d (by omega)).2; rw [Nat.add_assoc, hx] at this; exact this⟩, HB2⟩
          case measure => simp [intOf]
      · rw [if_neg hc1] at he
        have HE2 := Aside0.mk he
        clear he
        have tv : (q == 3) = false := beq_eq_false_iff_ne.mpr hc1
        have tv2 : (q != 3) = true := bne_iff_ne.mpr hc1
        go_wp2
        go_roundw
        case rel => exact ⟨d, _, false, j, by omega, rfl, by omega, by omega, by go_num, rfl, HE2, HJr, ⟨OK.out.more (by omega)⟩, HB⟩
        case measure => simp [intOf]

/-! ### pass_job_each: function 30 -/
/-- One pass over the blocks from i on, d of them, that tries those in state st. -/
def eachJ (D : List Int) (ft : Nat → Int × Int × Int) (st : Int) : Nat → Nat → JS → JS
  | 0, _, j => j
  | d + 1, i, j => eachJ D ft st d (i + 1) (if rdOf 0 j.S i = st then tryJ D ft j i else j)
set_option maxHeartbeats 4000000 in
set_option maxRecDepth 100000 in
theorem pass_job_each.calls (k m n g gd : Nat) (sk tr : Int) (D : List Int) (F : List S59) (ft : Nat → Int × Int × Int) (nb c : Nat) (j0 : JS) (st : Int) (w : World) (hJ : IsJS m n w g gd j0 sk tr D F) (ok : JOk nb c j0) (hc : c + nb ≤ 100000) (hD : D.length = 64 * nb) (hD2 : D.length ≤ 65536)
    (hf : ∀ a < nb, drive_fault.f k D F (a : Int) = some (ft a) ∧ 0 ≤ ansT (ft a) ∧ ansT (ft a) ≤ 100) (hm : m ≤ w.heap.size) :
    Calls Try.prog 30 #[.pointer (some ⟨g, 0, none⟩), .int .i64 st] w fun e w' => e = .returned (.tuple #[]) ∧ IsJS m n w' g gd (eachJ D ft st nb 0 j0) sk tr D F ∧ Below m w w' := by
  obtain ⟨JE, hJE⟩ : ∃ x, eachJ D ft st nb 0 j0 = x := ⟨_, rfl⟩
  rw [hJE]
  replace hJE := Aside0.mk hJE
  have HJ := Aside0.mk hJ
  have HF := Aside0.mk hf
  have OK0 := Aside0.mk ok
  obtain ⟨bs0, cs0, h0⟩ : ∃ bs cs, w.cell? ⟨g, 0, none⟩ = some (.slice (some ⟨bs, 0, none⟩) j0.S.length cs) := by
    obtain ⟨bs, cs, _, _, _, h1, _⟩ := hJ
    exact ⟨bs, cs, (blk_cell h1 0).trans rfl⟩
  have hl := ok.hS
  rw [hl] at h0
  clear hJ hf ok
  go_enter Try.func30, Try.ntmps30
  go_upto_region 1 with (fail)
  clear h0
  go_loopw [11] (fun i wr => ∃ (x : Nat) (j : JS), x ≤ nb ∧ i = .int .i64 x ∧ Aside0 (eachJ D ft st (nb - x) x j = JE) ∧ Aside0 (IsJS m n wr g gd j sk tr D F) ∧ Aside0 (JOk nb (c + x) j) ∧ Aside0 (Below m w wr)) (fun i _ => nb - (intOf i).toNat)
  case atStart => exact ⟨0, j0, Nat.zero_le _, rfl, hJE, HJ, OK0, ⟨Below.refl _ _⟩⟩
  case round =>
    obtain ⟨x, j, h1, rfl, HE, HJr, OK, HB⟩ := hrel
    obtain ⟨bs, cs, y0, y1⟩ : ∃ bs cs, wr.cell? ⟨g, 0, none⟩ = some (.slice (some ⟨bs, 0, none⟩) j.S.length cs) ∧ Kd.R (Kd.int .i64) 3 wr n (fun k => k = bs) (.slice (some ⟨bs, 0, none⟩) j.S.length cs) j.S := by
      obtain ⟨bs, cs, _, _, _, h1, _, _, _, _, h2, _⟩ := HJr.out
      exact ⟨bs, cs, (blk_cell h1 0).trans rfl, h2⟩
    have hl := OK.out.hS
    by_cases hlt : x < nb
    · have he := HE.out
      obtain ⟨d, hd⟩ : ∃ d, nb - x = d + 1 := ⟨nb - x - 1, by omega⟩
      rw [hd] at he
      unfold eachJ at he
      obtain ⟨z0, z1⟩ := Kd.R_celln 0 y1 (x : Int) (by omega) (by omega)
      rw [Int.toNat_natCast] at z0 z1
      obtain ⟨v, hv⟩ : ∃ v, rdOf (0 : Int) j.S (x : Int) = v := ⟨_, rfl⟩
      rw [hv] at z0 he
      rw [hl] at y0
      have hd1 : nb - (x + 1) = d := by omega
      have hx1 : x ≤ 100000 := by omega
      clear y1
      by_cases hc1 : v = st
      · subst hc1
        rw [if_pos rfl] at he
        have HE2 := Aside0.mk he
        clear he
        go_wp2_with (go_at_call 36; refine (tryJ_calls k m n g gd sk tr D F ft nb (c + x) j x wr HJr.out OK.out hlt (by omega) hD hD2 (HF.out x hlt).1 (HF.out x hlt).2).mono ?_; rintro e w2 ⟨rfl, hI, hb⟩; have HI2 := Aside0.mk hI; have HB2 := Aside0.mk (HB.out.trans hb); clear hI hb)
        go_roundw
        case rel => exact ⟨x + 1, _, by omega, by go_num, ⟨by rw [hd1]; exact HE2.out⟩, HI2, ⟨by have := tryJ_ok (D := D) (ft := ft) OK.out hlt (HF.out x hlt).2; rw [Nat.add_assoc] at this; exact this⟩, HB2⟩
        case measure => simp [intOf]; omega
      · rw [if_neg hc1] at he
        have HE2 := Aside0.mk he
        clear he
        have tv : (v == st) = false := beq_eq_false_iff_ne.mpr hc1
        go_wp2
        go_roundw
        case rel => exact ⟨x + 1, j, by omega, by go_num, ⟨by rw [hd1]; exact HE2.out⟩, HJr, ⟨⟨OK.out.hS, OK.out.hB, by have := OK.out.hR; omega, by have := OK.out.hN; omega, fun y => by have := OK.out.hm y; omega, by have := OK.out.ht; omega⟩⟩, HB⟩
        case measure => simp [intOf]; omega
    · have ex : x = nb := by omega
      subst ex
      have he := HE.out
      rw [Nat.sub_self] at he
      unfold eachJ at he
      subst he
      go_wp2
      refine bodyPost_end (results_none rfl _ _ _) rfl ?_
      exact ⟨rfl, HJr.out, HB.out⟩

/-! ### pass_Run: function 17 -/
theorem eachJ_ok {D : List Int} {ft : Nat → Int × Int × Int} {st : Int} {n : Nat} (hf : ∀ a < n, 0 ≤ ansT (ft a) ∧ ansT (ft a) ≤ 100) : ∀ (d i c : Nat) (j : JS), i + d ≤ n → JOk n c j → JOk n (c + d) (eachJ D ft st d i j)
  | 0, i, c, j, _, h => h
  | d + 1, i, c, j, hi, h => by
    unfold eachJ
    rw [show c + (d + 1) = (c + 1) + d by omega]
    refine eachJ_ok hf d (i + 1) (c + 1) _ (by omega) ?_
    split
    · exact tryJ_ok h (by omega) (hf i (by omega))
    · exact h.more (by omega)
/-- r more passes over the blocks in state 2. -/
def eachR (D : List Int) (ft : Nat → Int × Int × Int) (nb : Nat) : Nat → JS → JS
  | 0, j => j
  | r + 1, j => eachR D ft nb r (eachJ D ft 2 nb 0 j)
def startJ (nb : Nat) : JS := ⟨List.replicate nb 0, List.replicate (64 * nb) 0, [], fun _ => 0, 0, 0⟩
def runJ (D : List Int) (ft : Nat → Int × Int × Int) (K T nb : Nat) : JS := eachR D ft nb (T - 1) (eachJ D ft 3 nb 0 (bwdJ D ft nb false (fwdJ D ft K nb nb 0 (startJ nb))))
theorem startJ_ok (nb : Nat) : JOk nb 0 (startJ nb) := ⟨List.length_replicate, List.length_replicate, Nat.le_refl _, Nat.le_refl _, fun _ => ⟨Int.le_refl _, Int.le_refl _⟩, ⟨Int.le_refl _, Int.le_refl _⟩⟩
theorem IsJS.disk {m n : Nat} {w : World} {g gd : Nat} {j : JS} {sk tr : Int} {D : List Int} {F : List S59} (h : IsJS m n w g gd j sk tr D F) : IsDisk m n w gd D F j.mp j.N j.tm := by
  obtain ⟨bs, cs, bb, cb, vR, j1, j2, j3, j4, j5, j8, j9, j10, j11, j12, j13⟩ := h
  exact j11
theorem made_ok {m n gd nb K T : Nat} {D : List Int} {F : List S59} {w5 Z : World} {bs bb : Nat} (hI : IsDisk m n w5 gd D F (fun _ => 0) 0 0) (hm : m ≤ n) (hn : n ≤ w5.heap.size) (hb : Below w5.heap.size w5 Z) (hbs : w5.heap.size ≤ bs) (hbb : w5.heap.size ≤ bb) (hne : bs ≠ bb) (g : Nat) (hg : w5.heap.size ≤ g) (hg1 : g ≠ bs) (hg2 : g ≠ bb)
    (hJ : Z.heap[g]? = some (.cells #[.slice (some ⟨bs, 0, none⟩) nb nb, .slice (some ⟨bb, 0, none⟩) (nb * 64) (nb * 64), .slice none 0 0, .int .i64 0, .pointer (some ⟨gd, 0, none⟩), .int .i64 K, .int .i64 T] 69 (0, 0)))
    (hS : Kd.R (Kd.int .i64) 3 Z n (fun k => k = bs) (.slice (some ⟨bs, 0, none⟩) nb nb) (List.replicate nb 0)) (hB : Kd.R (Kd.int .u8) 5 Z n (fun k => k = bb) (.slice (some ⟨bb, 0, none⟩) (nb * 64) (nb * 64)) (List.replicate (nb * 64) 0)) :
    IsJS m n Z g gd (startJ nb) K T D F := by
  refine ⟨bs, nb, bb, nb * 64, .slice none 0 0, ?_, Nat.le_trans hn hg, Nat.le_trans hn hbs, Nat.le_trans hn hbb, ⟨hg1, hg2, hne⟩, ?_, ?_, Kd.R_nil _ _ _ _ _, hI.below hb, hm, Nat.le_trans hn hb.size⟩
  · simp only [startJ, List.length_replicate]
    rw [Nat.mul_comm 64 nb]
    exact hJ
  · simp only [startJ, List.length_replicate]
    exact hS
  · simp only [startJ, List.length_replicate]
    rw [Nat.mul_comm 64 nb]
    exact hB
theorem made_row (W : World) (n e nb : Nat) (kd : IntKind) (hn : n ≤ W.heap.size) (hnb : nb ≤ 65536) : Kd.R (Kd.int kd) e (W.alloc (.cells (madeCells #[.int kd 0] nb) e)) n (fun k => k = W.heap.size) (.slice (some ⟨W.heap.size, 0, none⟩) nb nb) (List.replicate nb 0) :=
  Kd.R_of_own (by rw [List.length_replicate]; exact own_made_of W n e nb hn (by omega)) (fun k hk => by simp [Value.ownBlock] at hk; exact hk.symm)
theorem made1 {m n gd nb K T : Nat} {D : List Int} {F : List S59} {w5 : World} {MS MB : Array Value} (hMS : madeCells #[.int .i64 0] nb = MS) (hMB : madeCells #[.int .u8 0] (nb * 64) = MB) (hnb : nb ≤ 1024) (hI : IsDisk m n w5 gd D F (fun _ => 0) 0 0) (hm : m ≤ n) (hn : n ≤ w5.heap.size) :
    IsJS m n (((w5.alloc (Obj.cells MS 3)).alloc (Obj.cells MB 5)).alloc (Obj.cells #[.slice (some ⟨w5.heap.size, 0, none⟩) nb nb, .slice (some ⟨w5.heap.size + 1, 0, none⟩) (nb * 64) (nb * 64), .slice none 0 0, .int .i64 0, .pointer (some ⟨gd, 0, none⟩), .int .i64 K, .int .i64 T] 69)).drew (w5.heap.size + 1 + 1) gd (startJ nb) K T D F ∧
      Below w5.heap.size w5 (((w5.alloc (Obj.cells MS 3)).alloc (Obj.cells MB 5)).alloc (Obj.cells #[.slice (some ⟨w5.heap.size, 0, none⟩) nb nb, .slice (some ⟨w5.heap.size + 1, 0, none⟩) (nb * 64) (nb * 64), .slice none 0 0, .int .i64 0, .pointer (some ⟨gd, 0, none⟩), .int .i64 K, .int .i64 T] 69)).drew := by
  subst hMS hMB
  have s1 : (w5.alloc (Obj.cells (madeCells #[.int .i64 0] nb) 3)).heap.size = w5.heap.size + 1 := by simp
  have s2 : ((w5.alloc (Obj.cells (madeCells #[.int .i64 0] nb) 3)).alloc (Obj.cells (madeCells #[.int .u8 0] (nb * 64)) 5)).heap.size = w5.heap.size + 1 + 1 := by simp
  have r1 := made_row w5 n 3 nb .i64 hn (by omega)
  have r2 := made_row (w5.alloc (Obj.cells (madeCells #[.int .i64 0] nb) 3)) n 5 (nb * 64) .u8 (by rw [s1]; omega) (by omega)
  rw [s1] at r2
  have b1 : Below w5.heap.size w5 (w5.alloc (Obj.cells (madeCells #[.int .i64 0] nb) 3)) := below_alloc (Below.refl _ _) _
  generalize w5.alloc (Obj.cells (madeCells #[.int .i64 0] nb) 3) = W1 at *
  have b2 : Below W1.heap.size W1 (W1.alloc (Obj.cells (madeCells #[.int .u8 0] (nb * 64)) 5)) := below_alloc (Below.refl _ _) _
  generalize W1.alloc (Obj.cells (madeCells #[.int .u8 0] (nb * 64)) 5) = W2 at *
  have bj := blk_new W2 (.cells #[.slice (some ⟨w5.heap.size, 0, none⟩) nb nb, .slice (some ⟨w5.heap.size + 1, 0, none⟩) (nb * 64) (nb * 64), .slice none 0 0, .int .i64 0, .pointer (some ⟨gd, 0, none⟩), .int .i64 K, .int .i64 T] 69 (0, 0))
  rw [s2] at bj
  have b3 : Below W2.heap.size W2 (W2.alloc (Obj.cells #[.slice (some ⟨w5.heap.size, 0, none⟩) nb nb, .slice (some ⟨w5.heap.size + 1, 0, none⟩) (nb * 64) (nb * 64), .slice none 0 0, .int .i64 0, .pointer (some ⟨gd, 0, none⟩), .int .i64 K, .int .i64 T] 69)).drew := below_drew1 (below_alloc (Below.refl _ _) _)
  have b4 := below_step (below_step b1 b2) b3
  exact ⟨made_ok (bs := w5.heap.size) (bb := w5.heap.size + 1) hI hm hn b4 (Nat.le_refl _) (Nat.le_succ _) (by omega) _ (by omega) (by omega) (by omega) bj (Kd.R_below (Kd.R_below r1 b2) b3) (Kd.R_below r2 b3), b4⟩
theorem made2 {m n gd nb K T : Nat} {D : List Int} {F : List S59} {w5 : World} {MS MB : Array Value} (hMS : madeCells #[.int .i64 0] nb = MS) (hMB : madeCells #[.int .u8 0] (nb * 64) = MB) (hnb : nb ≤ 1024) (hI : IsDisk m n w5 gd D F (fun _ => 0) 0 0) (hm : m ≤ n) (hn : n ≤ w5.heap.size) :
    IsJS m n (((w5.alloc (Obj.cells MB 5)).alloc (Obj.cells MS 3)).alloc (Obj.cells #[.slice (some ⟨w5.heap.size + 1, 0, none⟩) nb nb, .slice (some ⟨w5.heap.size, 0, none⟩) (nb * 64) (nb * 64), .slice none 0 0, .int .i64 0, .pointer (some ⟨gd, 0, none⟩), .int .i64 K, .int .i64 T] 69)).drew (w5.heap.size + 1 + 1) gd (startJ nb) K T D F ∧
      Below w5.heap.size w5 (((w5.alloc (Obj.cells MB 5)).alloc (Obj.cells MS 3)).alloc (Obj.cells #[.slice (some ⟨w5.heap.size + 1, 0, none⟩) nb nb, .slice (some ⟨w5.heap.size, 0, none⟩) (nb * 64) (nb * 64), .slice none 0 0, .int .i64 0, .pointer (some ⟨gd, 0, none⟩), .int .i64 K, .int .i64 T] 69)).drew := by
  subst hMS hMB
  have s1 : (w5.alloc (Obj.cells (madeCells #[.int .u8 0] (nb * 64)) 5)).heap.size = w5.heap.size + 1 := by simp
  have s2 : ((w5.alloc (Obj.cells (madeCells #[.int .u8 0] (nb * 64)) 5)).alloc (Obj.cells (madeCells #[.int .i64 0] nb) 3)).heap.size = w5.heap.size + 1 + 1 := by simp
  have r1 := made_row w5 n 5 (nb * 64) .u8 hn (by omega)
  have r2 := made_row (w5.alloc (Obj.cells (madeCells #[.int .u8 0] (nb * 64)) 5)) n 3 nb .i64 (by rw [s1]; omega) (by omega)
  rw [s1] at r2
  have b1 : Below w5.heap.size w5 (w5.alloc (Obj.cells (madeCells #[.int .u8 0] (nb * 64)) 5)) := below_alloc (Below.refl _ _) _
  generalize w5.alloc (Obj.cells (madeCells #[.int .u8 0] (nb * 64)) 5) = W1 at *
  have b2 : Below W1.heap.size W1 (W1.alloc (Obj.cells (madeCells #[.int .i64 0] nb) 3)) := below_alloc (Below.refl _ _) _
  generalize W1.alloc (Obj.cells (madeCells #[.int .i64 0] nb) 3) = W2 at *
  have bj := blk_new W2 (.cells #[.slice (some ⟨w5.heap.size + 1, 0, none⟩) nb nb, .slice (some ⟨w5.heap.size, 0, none⟩) (nb * 64) (nb * 64), .slice none 0 0, .int .i64 0, .pointer (some ⟨gd, 0, none⟩), .int .i64 K, .int .i64 T] 69 (0, 0))
  rw [s2] at bj
  have b3 : Below W2.heap.size W2 (W2.alloc (Obj.cells #[.slice (some ⟨w5.heap.size + 1, 0, none⟩) nb nb, .slice (some ⟨w5.heap.size, 0, none⟩) (nb * 64) (nb * 64), .slice none 0 0, .int .i64 0, .pointer (some ⟨gd, 0, none⟩), .int .i64 K, .int .i64 T] 69)).drew := below_drew1 (below_alloc (Below.refl _ _) _)
  have b4 := below_step (below_step b1 b2) b3
  exact ⟨made_ok (bs := w5.heap.size + 1) (bb := w5.heap.size) hI hm hn b4 (Nat.le_succ _) (Nat.le_refl _) (by omega) _ (by omega) (by omega) (by omega) bj (Kd.R_below r2 b3) (Kd.R_below (Kd.R_below r1 b2) b3), b4⟩
theorem pass_Run.keep {g2 : Nat} {K T : Nat} {w5 w' : World} (z0 : w5.cell? ⟨g2, 0, none⟩ = some (.int .i64 (K : Int))) (z1 : w5.cell? ⟨g2, 1, none⟩ = some (.int .i64 (T : Int))) (h : Below w5.heap.size w5 w') :
    w'.cell? ⟨g2, 0, none⟩ = some (.int .i64 (K : Int)) ∧ w'.cell? ⟨g2, 1, none⟩ = some (.int .i64 (T : Int)) ∧ Below w5.heap.size w5 w' :=
  ⟨(h.cell (World.block_lt_of_cell? w5 _ z0)).trans z0, (h.cell (World.block_lt_of_cell? w5 _ z1)).trans z1, h⟩
set_option maxHeartbeats 4000000 in
set_option maxRecDepth 100000 in
theorem pass_Run.calls (k : Nat) (A0 : Option Addr) (c0 : Nat) (D : List Int) (A1 : Option Addr) (c1 : Nat) (F : List S59) (K T nb : Nat) (ft : Nat → Int × Int × Int) (w : World) (hr0 : Kd.C (Kd.int .u8) w A0 D.length D) (hc0 : D.length ≤ c0) (hr1 : Kd.C k59 w A1 F.length F) (hc1 : F.length ≤ c1) (h : drive_New.f k D F = some ())
    (hK : K ≤ 64) (hT1 : 1 ≤ T) (hT2 : T ≤ 16) (hnb0 : 1 ≤ nb) (hD : D.length = 64 * nb) (hD2 : D.length ≤ 65536) (hf : ∀ a < nb, drive_fault.f k D F (a : Int) = some (ft a) ∧ 0 ≤ ansT (ft a) ∧ ansT (ft a) ≤ 100) :
    Calls Try.prog 17 #[.agg #[.slice A0 D.length c0, .slice A1 F.length c1], .agg #[.int .i64 K, .int .i64 T]] w fun e w' => ∃ vS vB vR : Value, e = .returned (.tuple #[.agg #[vS, vB, vR, .int .i64 (runJ D ft K T nb).tm], .int .i64 0]) ∧ Kd.R (Kd.int .i64) 3 w' w.heap.size (fun _ => True) vS (runJ D ft K T nb).S ∧ Kd.R (Kd.int .u8) 5 w' w.heap.size (fun _ => True) vB (runJ D ft K T nb).B ∧ Kd.R (Kd.int .i64) 3 w' w.heap.size (fun _ => True) vR (runJ D ft K T nb).R ∧ Below w.heap.size w w' := by
  have HCk := Aside0.mk (show pass_Check.f (K : Int) (T : Int) = some 0 from by unfold pass_Check.f; rw [if_neg (by omega), if_neg (by omega), if_neg (by omega), if_neg (by omega)])
  have HN := Aside0.mk h
  have HR0 := Aside0.mk hr0
  have HR1 := Aside0.mk hr1
  have HC0 := Aside0.mk hc0
  have HC1 := Aside0.mk hc1
  have HF := Aside0.mk hf
  have HDL := Aside0.mk hD
  clear h hr0 hr1 hc0 hc1 hf hD
  go_enter Try.func17, Try.ntmps17
  go_upto_region 1 with (first | ((with_reducible refine gate_dst (N := 2) rfl ?_); refine box_event ?hg (N := 2) ?hd (cs := #[.slice A0 D.length c0, .slice A1 F.length c1]) (t := 26) ?hr ?_; (case hd => rfl); (case hg => rfl); (case hr => first | (go_simp; done) | (go_simp; rfl)); intro g1 hg W1 hbox hb; have BK1 := Aside0.mk hbox; have HB1 := Aside0.mk (below_step (Below.refl _ _) hb); clear hb hbox hg) | ((with_reducible refine gate_dst (N := 3) rfl ?_); refine box_event ?hg (N := 3) ?hd (cs := #[.int .i64 K, .int .i64 T]) (t := 43) ?hr ?_; (case hd => rfl); (case hg => rfl); (case hr => first | (go_simp; done) | (go_simp; rfl)); intro g2 hg W2 hbox hb; have BK2 := Aside0.mk hbox; have HB2 := Aside0.mk (below_step HB1.out hb); have BK1b := Aside0.mk (blk_below BK1.out hb); clear hb hbox hg) | ((with_reducible refine gate_dst (N := 4) rfl ?_); refine box_event ?hg (N := 4) ?hd (cs := #[.slice none 0 0, .slice none 0 0, .slice none 0 0, .int .i64 0]) (t := 46) ?hr ?_; (case hd => rfl); (case hg => rfl); (case hr => first | (go_simp; done) | (go_simp; rfl)); intro g4 hg W3 hbox hb; have GE4 := Aside0.mk (by rw [hg]; exact HB2.out.size : w.heap.size ≤ g4); have BK4 := Aside0.mk hbox; have HB3 := Aside0.mk (below_step HB2.out hb); have BK1c := Aside0.mk (blk_below BK1b.out hb); have BK2c := Aside0.mk (blk_below BK2.out hb); clear hb hbox hg))
  clear BK1 BK1b BK2 HB1 HB2
  have x0 : W3.cell? ⟨g1, 0, none⟩ = some (.slice A0 D.length c0) := (blk_cell BK1c.out 0).trans rfl
  have x1 : W3.cell? ⟨g1, 1, none⟩ = some (.slice A1 F.length c1) := (blk_cell BK1c.out 1).trans rfl
  go_upto_region 2 with (go_at_call 7; refine (drive_New.calls k A0 c0 D A1 c1 F _ (Kd.C_below HR0.out HB3.out) HC0.out (Kd.C_below HR1.out HB3.out) HC1.out HN.out).mono ?_; rintro e w4 ⟨gd, rfl, hI, hb⟩; have HD4 := Aside0.mk hI; have HS4 := Aside0.mk hb; clear hI hb)
  clear x0 x1 BK1c
  have q0 : w4.cell? ⟨g2, 0, none⟩ = some (.int .i64 K) := (blk_cell (blk_below BK2c.out HS4.out) 0).trans rfl
  have q1 : w4.cell? ⟨g2, 1, none⟩ = some (.int .i64 T) := (blk_cell (blk_below BK2c.out HS4.out) 1).trans rfl
  go_upto_region 4 with (go_at_call 27; refine (pass_Check.calls (K : Int) (T : Int) 0 _ HCk.out).mono ?_; rintro e w5 ⟨rfl, hb⟩; have HS5 := Aside0.mk (below_step HS4.out hb); have HD5 := Aside0.mk (HD4.out.below hb); have HN5 := Aside0.mk hb.size; clear hb)
  clear HD4
  have z0 : w5.cell? ⟨g2, 0, none⟩ = some (.int .i64 K) := (blk_cell (blk_below BK2c.out HS5.out) 0).trans rfl
  have z1 : w5.cell? ⟨g2, 1, none⟩ = some (.int .i64 T) := (blk_cell (blk_below BK2c.out HS5.out) 1).trans rfl
  clear q0 q1
  have HBl : Aside0 (∀ w', IsDisk W3.heap.size w4.heap.size w' gd D F (fun _ => 0) 0 0 → Calls Try.prog 10 #[.pointer (some ⟨gd, 0, none⟩)] w' fun e w'' => e = .returned (.int .i64 nb) ∧ w' = w'') := ⟨fun w' hI => (drive_Disk_Blocks.calls _ _ gd D F _ 0 0 w' hI).mono (by rintro e w'' ⟨rfl, rfl⟩; refine ⟨?_, rfl⟩; have := HDL.out; rw [show (D.length : Int) / 64 = (nb : Int) by omega])⟩
  go_upto_region 6 with (fail)
  have hnb : nb ≤ 1024 := by have := HDL.out; omega
  have hwr : IntKind.i64.wrap ((nb : Int) * 64) = (nb : Int) * 64 := by rw [IntKind.wrap_i64]; omega
  have hmS := print_make (P := Try.prog) 22 3 .i64 8 Try.underlying22 info3 (by decide) nb (by omega)
  have hmB := print_make (P := Try.prog) 23 5 .u8 1 Try.underlying23 info5 (by decide) (nb * 64) (by omega)
  have ec : ((nb * 64 : Nat) : Int) = (nb : Int) * 64 := by omega
  rw [ec] at hmB
  generalize hMS : madeCells #[.int .i64 0] nb = MS at hmS
  generalize hMB : madeCells #[.int .u8 0] (nb * 64) = MB at hmB
  have HMS := Aside0.mk hMS
  have HMB := Aside0.mk hMB
  clear hMS hMB ec
  have hlt2 : g2 < w5.heap.size := blk_lt (blk_below BK2c.out HS5.out)
  have hlt3 : g2 < w5.heap.size + 1 := Nat.lt_succ_of_lt hlt2
  have hlt4 : g2 < w5.heap.size + 1 + 1 := Nat.lt_succ_of_lt hlt3
  have hne2 : g2 ≠ w5.heap.size := Nat.ne_of_lt hlt2
  have hne3 : g2 ≠ w5.heap.size + 1 := Nat.ne_of_lt hlt3
  go_cut [8] (fun p wx => ∃ g, p = .pointer (some ⟨g, 0, none⟩) ∧ Aside0 (IsJS W3.heap.size w4.heap.size wx g gd (startJ nb) K T D F) ∧ Aside0 (Below W3.heap.size W3 wx))
  case first =>
    go_region_held3 (fun w' => w'.cell? ⟨g2, 0, none⟩ = some (.int .i64 (K : Int)) ∧ w'.cell? ⟨g2, 1, none⟩ = some (.int .i64 (T : Int)) ∧ Below w5.heap.size w5 w') (first | exact pass_Run.keep z0 z1 (below_drew1 (Below.refl _ _)) | exact pass_Run.keep z0 z1 (by first | assumption | (apply below_alloc; assumption) | (repeat (first | (with_reducible first | exact Below.refl _ _ | apply below_alloc | apply pw_below_drewN | apply below_drew1) | exact Below.refl _ _)))) (first | (go_at_call 10; refine (HBl.out _ ?hI).mono ?_; (case hI => exact HD5.out.below (by first | assumption | (repeat (first | (with_reducible first | exact Below.refl _ _ | apply below_alloc | apply pw_below_drewN | apply below_drew1) | exact Below.refl _ _)))); rintro e w' ⟨rfl, rfl⟩))
    all_goals
      go_wp2_with fail
      go_meet
      case rel =>
        have hmm := HS4.out.size
        have hnn := HS5.out
        first
        | (have hz := made1 (K := K) (T := T) HMS.out HMB.out hnb HD5.out HS4.out.size HN5.out; exact ⟨_, rfl, ⟨hz.1⟩, ⟨below_step HS5.out hz.2⟩⟩)
        | (have hz := made2 (K := K) (T := T) HMS.out HMB.out hnb HD5.out HS4.out.size HN5.out; exact ⟨_, rfl, ⟨hz.1⟩, ⟨below_step HS5.out hz.2⟩⟩)
  case rest =>
    obtain ⟨g, rfl, HJ0, HB0⟩ := hcut
    obtain ⟨J1, hJ1⟩ : ∃ x, fwdJ D ft K nb nb 0 (startJ nb) = x := ⟨_, rfl⟩
    obtain ⟨J2, hJ2⟩ : ∃ x, bwdJ D ft nb false J1 = x := ⟨_, rfl⟩
    obtain ⟨J3, hJ3⟩ : ∃ x, eachJ D ft 3 nb 0 J2 = x := ⟨_, rfl⟩
    obtain ⟨JE, hJE⟩ : ∃ x, eachR D ft nb (T - 1) J3 = x := ⟨_, rfl⟩
    have hrun : runJ D ft K T nb = JE := by unfold runJ; rw [hJ1, hJ2, hJ3, hJE]
    have HRUN := Aside0.mk hrun
    replace hJE := Aside0.mk hJE
    have HC := Aside0.mk (pass_job_forward.calls k _ _ g gd K T D F ft nb 0 (startJ nb) wc HJ0.out (startJ_ok nb) (by omega) hK HDL.out hD2 HF.out HB0.out.size)
    rw [hJ1] at HC
    clear z0 z1 hmS hmB hrun hlt2 hlt3 hlt4 hne2 hne3 hwr HBl HMS HMB HD5 HN5
    go_upto_region 8 with (go_at_call 28; refine HC.out.mono ?_; rintro e w7 ⟨rfl, hI, hok, hb⟩; have HJ7 := Aside0.mk hI; have OK7 := Aside0.mk hok; have HB7 := Aside0.mk (HB0.out.trans hb); clear hI hok hb)
    clear HC HJ0 HB0 hJ1
    have HC := Aside0.mk (pass_job_backward.calls k _ _ g gd K T D F ft nb (0 + nb) J1 w7 HJ7.out OK7.out (by omega) HDL.out hD2 HF.out HB7.out.size)
    rw [hJ2] at HC
    go_upto_region 9 with (go_at_call 29; refine HC.out.mono ?_; rintro e w8 ⟨rfl, hI, hok, hb⟩; have HJ8 := Aside0.mk hI; have OK8 := Aside0.mk hok; have HB8 := Aside0.mk (HB7.out.trans hb); clear hI hok hb)
    clear HC HJ7 HB7 OK7 hJ2
    have HC := Aside0.mk (pass_job_each.calls k _ _ g gd K T D F ft nb (0 + nb + nb) J2 3 w8 HJ8.out OK8.out (by omega) HDL.out hD2 HF.out HB8.out.size)
    rw [hJ3] at HC
    go_upto_region 10 with (go_at_call 30; refine HC.out.mono ?_; rintro e w9 ⟨rfl, hI, hb⟩; have HJ9 := Aside0.mk hI; have HB9 := Aside0.mk (HB8.out.trans hb); clear hI hb)
    have OK9 : Aside0 (JOk nb (3 * nb + 0 * nb) J3) := ⟨by have := eachJ_ok (st := 3) (D := D) (fun a ha => (HF.out a ha).2) nb 0 (0 + nb + nb) J2 (by omega) OK8.out; rw [hJ3] at this; rw [show 3 * nb + 0 * nb = 0 + nb + nb + nb by omega]; exact this⟩
    clear HC HJ8 HB8 OK8 hJ3
    have z1 : w9.cell? ⟨g2, 1, none⟩ = some (.int .i64 T) := (blk_cell (blk_below BK2c.out HB9.out) 1).trans rfl
    obtain ⟨R, hR⟩ : ∃ R, T - 1 = R := ⟨_, rfl⟩
    have eT : (T : Int) - 1 = (R : Int) := by omega
    rw [hR] at hJE
    have hR2 : R ≤ 15 := by omega
    clear hR
    go_upto_region 11 with (fail)
    clear z1
    go_loopw [43] (fun i wr => ∃ (x : Nat) (j : JS), x ≤ R ∧ i = .int .i64 x ∧ Aside0 (eachR D ft nb (R - x) j = JE) ∧ Aside0 (IsJS W3.heap.size w4.heap.size wr g gd j K T D F) ∧ Aside0 (JOk nb (3 * nb + x * nb) j) ∧ Aside0 (Below W3.heap.size W3 wr)) (fun i _ => R - (intOf i).toNat)
    case atStart => exact ⟨0, J3, Nat.zero_le _, rfl, hJE, HJ9, OK9, HB9⟩
    case round =>
      obtain ⟨x, j, h1, rfl, HE, HJr, OK, HB⟩ := hrel
      clear HJ9 OK9 HB9 hJE
      by_cases hlt : x < R
      · have he := HE.out
        obtain ⟨d, hd⟩ : ∃ d, R - x = d + 1 := ⟨R - x - 1, by omega⟩
        rw [hd] at he
        unfold eachR at he
        have HE2 := Aside0.mk he
        have hd1 : R - (x + 1) = d := by omega
        clear he
        have hmul : x * nb ≤ 15 * 1024 := Nat.mul_le_mul (by omega) hnb
        have HC := Aside0.mk (pass_job_each.calls k _ _ g gd K T D F ft nb (3 * nb + x * nb) j 2 wr HJr.out OK.out (by omega) HDL.out hD2 HF.out HB.out.size)
        have OK2 : Aside0 (JOk nb (3 * nb + (x + 1) * nb) (eachJ D ft 2 nb 0 j)) := ⟨by have := eachJ_ok (st := 2) (D := D) (fun a ha => (HF.out a ha).2) nb 0 (3 * nb + x * nb) j (by omega) OK.out; rw [show 3 * nb + (x + 1) * nb = 3 * nb + x * nb + nb from by have e := Nat.succ_mul x nb; rw [Nat.succ_eq_add_one] at e; omega]; exact this⟩
        have hx1 : x ≤ 100 := by omega
        clear hmul
        go_wp2_with (go_at_call 30; refine HC.out.mono ?_; rintro e w2 ⟨rfl, hI, hb⟩; have HI2 := Aside0.mk hI; have HB2 := Aside0.mk (HB.out.trans hb); clear hI hb)
        go_roundw
        case rel => exact ⟨x + 1, _, by omega, by go_num, ⟨by rw [hd1]; exact HE2.out⟩, HI2, OK2, HB2⟩
        case measure => simp [intOf]; omega
      · have ex : x = R := by omega
        subst ex
        have he := HE.out
        rw [Nat.sub_self] at he
        unfold eachR at he
        subst he
        clear HE
        go_upto_region 14 with (fail)
        have hI := HJr.out
        obtain ⟨bs, cs, bb, cb, vR, j1, j2, j3, j4, j5, j8, j9, j10, j11, j12, j13⟩ := hI
        have J1 := Aside0.mk j1
        have y3 : wr.cell? ⟨g, 3, none⟩ = some (.int .i64 0) := (blk_cell j1 3).trans rfl
        have f3 := blk_frozen j1 3
        have J8 := Aside0.mk j8
        have J9 := Aside0.mk j9
        have J10 := Aside0.mk j10
        have J11 := Aside0.mk j11
        have J2 := Aside0.mk j2
        have J5 := Aside0.mk j5
        clear j1 j2 j5 j8 j9 j10 j11 HJr
        go_upto_region 15 with (go_at_call 15; refine (drive_Disk_Time.calls _ _ gd D F _ _ _ _ J11.out).mono ?_; rintro e w' ⟨rfl, rfl⟩)
        clear y3 f3
        have BK5 : (wr.setCell ⟨g, 3, none⟩ (.int .i64 j.tm)).heap[g]? = some (.cells #[.slice (some ⟨bs, 0, none⟩) j.S.length cs, .slice (some ⟨bb, 0, none⟩) j.B.length cb, vR, .int .i64 j.tm, .pointer (some ⟨gd, 0, none⟩), .int .i64 K, .int .i64 T] 69 (0, 0)) := blk_put J1.out 3 _ rfl
        have G5 := grown_set wr g 3 (.int .i64 j.tm)
        have hm34 : W3.heap.size ≤ w4.heap.size := HS4.out.size
        have hb5 : Below W3.heap.size W3 (wr.setCell ⟨g, 3, none⟩ (.int .i64 j.tm)) := HB.out.grown G5 HB.out.size (fun k e => by injection e with e; have := J2.out; omega)
        generalize wr.setCell ⟨g, 3, none⟩ (.int .i64 j.tm) = W5 at BK5 G5 hb5 ⊢
        have HB5 := Aside0.mk hb5
        have RS5 := Aside0.mk (Kd.R_step J8.out (fun k hk hl => G5.block k hl (fun e => J5.out.1 (by injection e with e; omega))))
        have RB5 := Aside0.mk (Kd.R_step J9.out (fun k hk hl => G5.block k hl (fun e => J5.out.2.1 (by injection e with e; omega))))
        have RR5 := Aside0.mk (Kd.R_step J10.out (fun k hk hl => G5.block k hl (fun e => hk.1 (by injection e))))
        obtain ⟨AR, cR, eR⟩ := Kd.R_slice RR5.out
        subst eR
        clear G5 hb5 J8 J9 J10 J1 J11
        have BK45 := Aside0.mk (blk_below BK4.out HB5.out)
        have v0 : W5.cell? ⟨g, 0, none⟩ = some (.slice (some ⟨bs, 0, none⟩) j.S.length cs) := (blk_cell BK5 0).trans rfl
        have v1 : W5.cell? ⟨g, 1, none⟩ = some (.slice (some ⟨bb, 0, none⟩) j.B.length cb) := (blk_cell BK5 1).trans rfl
        have v2 : W5.cell? ⟨g, 2, none⟩ = some (.slice AR j.R.length cR) := (blk_cell BK5 2).trans rfl
        have v3 : W5.cell? ⟨g, 3, none⟩ = some (.int .i64 j.tm) := (blk_cell BK5 3).trans rfl
        have u0 : W5.cell? ⟨g4, 0, none⟩ = some (.slice none 0 0) := (blk_cell BK45.out 0).trans rfl
        have u1 : W5.cell? ⟨g4, 1, none⟩ = some (.slice none 0 0) := (blk_cell BK45.out 1).trans rfl
        have u2 : W5.cell? ⟨g4, 2, none⟩ = some (.slice none 0 0) := (blk_cell BK45.out 2).trans rfl
        have u3 : W5.cell? ⟨g4, 3, none⟩ = some (.int .i64 0) := (blk_cell BK45.out 3).trans rfl
        have f0 := blk_frozen BK45.out 0
        have f1 := blk_frozen BK45.out 1
        have f2 := blk_frozen BK45.out 2
        have f3 := blk_frozen BK45.out 3
        go_wp2
        have BKF : ((((W5.setCell ⟨g4, 0, none⟩ (.slice (some ⟨bs, 0, none⟩) j.S.length cs)).setCell ⟨g4, 1, none⟩ (.slice (some ⟨bb, 0, none⟩) j.B.length cb)).setCell ⟨g4, 2, none⟩ (.slice AR j.R.length cR)).setCell ⟨g4, 3, none⟩ (.int .i64 j.tm)).heap[g4]? = some (.cells #[.slice (some ⟨bs, 0, none⟩) j.S.length cs, .slice (some ⟨bb, 0, none⟩) j.B.length cb, .slice AR j.R.length cR, .int .i64 j.tm] 46 (0, 0)) :=
          blk_put (blk_put (blk_put (blk_put BK45.out 0 _ rfl) 1 _ rfl) 2 _ rfl) 3 _ rfl
        have HKF : ∀ k, k ≠ g4 → ((((W5.setCell ⟨g4, 0, none⟩ (.slice (some ⟨bs, 0, none⟩) j.S.length cs)).setCell ⟨g4, 1, none⟩ (.slice (some ⟨bb, 0, none⟩) j.B.length cb)).setCell ⟨g4, 2, none⟩ (.slice AR j.R.length cR)).setCell ⟨g4, 3, none⟩ (.int .i64 j.tm)).heap[k]? = W5.heap[k]? := fun k hk =>
          (((Below.heap_setCell _ ⟨g4, 3, none⟩ _ k hk).trans (Below.heap_setCell _ ⟨g4, 2, none⟩ _ k hk)).trans (Below.heap_setCell _ ⟨g4, 1, none⟩ _ k hk)).trans (Below.heap_setCell _ ⟨g4, 0, none⟩ _ k hk)
        have HBF : Below w.heap.size w ((((W5.setCell ⟨g4, 0, none⟩ (.slice (some ⟨bs, 0, none⟩) j.S.length cs)).setCell ⟨g4, 1, none⟩ (.slice (some ⟨bb, 0, none⟩) j.B.length cb)).setCell ⟨g4, 2, none⟩ (.slice AR j.R.length cR)).setCell ⟨g4, 3, none⟩ (.int .i64 j.tm)) :=
          Below.setCell (Below.setCell (Below.setCell (Below.setCell (below_step HB3.out HB5.out) (p := ⟨g4, 0, none⟩) GE4.out _) (p := ⟨g4, 1, none⟩) GE4.out _) (p := ⟨g4, 2, none⟩) GE4.out _) (p := ⟨g4, 3, none⟩) GE4.out _
        have hg4 : g4 < W3.heap.size := blk_lt BK4.out
        clear v0 v1 v2 v3 u0 u1 u2 u3 f0 f1 f2 f3
        generalize (((W5.setCell ⟨g4, 0, none⟩ (.slice (some ⟨bs, 0, none⟩) j.S.length cs)).setCell ⟨g4, 1, none⟩ (.slice (some ⟨bb, 0, none⟩) j.B.length cb)).setCell ⟨g4, 2, none⟩ (.slice AR j.R.length cR)).setCell ⟨g4, 3, none⟩ (.int .i64 j.tm) = WF at BKF HKF HBF ⊢
        have v0 : WF.cell? ⟨g4, 0, none⟩ = some (.slice (some ⟨bs, 0, none⟩) j.S.length cs) := (blk_cell BKF 0).trans rfl
        have v1 : WF.cell? ⟨g4, 1, none⟩ = some (.slice (some ⟨bb, 0, none⟩) j.B.length cb) := (blk_cell BKF 1).trans rfl
        have v2 : WF.cell? ⟨g4, 2, none⟩ = some (.slice AR j.R.length cR) := (blk_cell BKF 2).trans rfl
        have v3 : WF.cell? ⟨g4, 3, none⟩ = some (.int .i64 j.tm) := (blk_cell BKF 3).trans rfl
        have hle : w.heap.size ≤ w4.heap.size := Nat.le_trans HB3.out.size hm34
        have rS := Kd.R_lower (Kd.R_mono (Kd.R_step (Kd.R_bound RS5.out) (fun k hk hl => HKF k (by have := hk.2.1; omega))) (fun _ _ => trivial)) hle
        have rB := Kd.R_lower (Kd.R_mono (Kd.R_step (Kd.R_bound RB5.out) (fun k hk hl => HKF k (by have := hk.2.1; omega))) (fun _ _ => trivial)) hle
        have rR := Kd.R_lower (Kd.R_mono (Kd.R_step (Kd.R_bound RR5.out) (fun k hk hl => HKF k (by have := hk.2.1; omega))) (fun _ _ => trivial)) hle
        rw [HRUN.out]
        exact bodyPost_ret (v := .tuple #[.agg #[.slice (some ⟨bs, 0, none⟩) j.S.length cs, .slice (some ⟨bb, 0, none⟩) j.B.length cb, .slice AR j.R.length cR, .int .i64 j.tm], .int .i64 0]) (by simp [results, Try.results17, go_sem, v0, v1, v2, v3]) rfl ⟨_, _, _, rfl, rS, rB, rR, HBF⟩

/-! ### slices_Equal_int_int: function 21 -/
def slices_Equal_int_int.l0 : Nat → List Int → List Int → Int → Int → Option (Bool)
  | 0, _, _, _, _ => none
  | k + 1, x0, x1, x12, x13 => if x13 < x12 then (if 0 ≤ x13 then (if x13 < (x0.length : Int) then (if x13 < (x1.length : Int) then (if (rd x0 x13) = (rd x1 x13) then (slices_Equal_int_int.l0 k x0 x1 x12 (wrap64 (x13 + 1))) else (some false)) else (none)) else (none)) else (none)) else (some true)
def slices_Equal_int_int.f (k : Nat) (l0 : List Int) (l1 : List Int) : Option (Bool) := if (l0.length : Int) = (l1.length : Int) then (slices_Equal_int_int.l0 k l0 l1 (l0.length : Int) 0) else (some false)
theorem slices_Equal_int_int.mono_l : ∀ k, (∀ y0 y1 y2 y3, LeO (slices_Equal_int_int.l0 k y0 y1 y2 y3) (slices_Equal_int_int.l0 (k + 1) y0 y1 y2 y3))
  | 0 => fun _ _ _ _ r h => by simp [slices_Equal_int_int.l0] at h
  | k + 1 => by
    have ih0 := slices_Equal_int_int.mono_l k
    · intro y0 y1 y2 y3
      unfold slices_Equal_int_int.l0
      repeat' first
      | (with_reducible exact ih0 _ _ _ _)
      | (with_reducible exact LeO.refl _)
      | (with_reducible exact LeO.none _)
      | (with_reducible refine LeO.ite ?_ ?_)
      | (with_reducible refine LeO.bind ?_ (fun _ => ?_))
      | exact ih0 _ _ _ _
      | exact LeO.none _
      | refine LeO.ite ?_ ?_
      | refine LeO.bind ?_ (fun _ => ?_)
theorem slices_Equal_int_int.mono : ∀ a0 a1 k, LeO (slices_Equal_int_int.f k a0 a1) (slices_Equal_int_int.f (k + 1) a0 a1) := by
  intro a0 a1 k
  have ih0 := slices_Equal_int_int.mono_l k
  unfold slices_Equal_int_int.f
  repeat' first
      | (with_reducible exact ih0 _ _ _ _)
      | (with_reducible exact LeO.refl _)
      | (with_reducible exact LeO.none _)
      | (with_reducible refine LeO.ite ?_ ?_)
      | (with_reducible refine LeO.bind ?_ (fun _ => ?_))
      | exact ih0 _ _ _ _
      | exact LeO.none _
      | refine LeO.ite ?_ ?_
      | refine LeO.bind ?_ (fun _ => ?_)
set_option maxHeartbeats 8000000 in
set_option maxRecDepth 100000 in
theorem slices_Equal_int_int.calls (k : Nat) (A0 : Option Addr) (c0 : Nat) (l0 : List Int) (A1 : Option Addr) (c1 : Nat) (l1 : List Int) (r : Bool) (w : World) (hr0 : Kd.C (Kd.int .i64) w A0 l0.length l0) (hc0 : l0.length ≤ c0) (hr1 : Kd.C (Kd.int .i64) w A1 l1.length l1) (hc1 : l1.length ≤ c1) (h : slices_Equal_int_int.f k l0 l1 = some r) :
    Calls Try.prog 21 #[.slice A0 l0.length c0, .slice A1 l1.length c1] w fun e w' => e = .returned (.bool r) ∧ Drawn0 w w' := by
  have HR0 := Aside0.mk hr0
  have HC0 := Aside0.mk hc0
  clear hr0 hc0
  have HR1 := Aside0.mk hr1
  have HC1 := Aside0.mk hc1
  clear hr1 hc1
  have H : (if (l0.length : Int) = (l1.length : Int) then (slices_Equal_int_int.l0 k l0 l1 (l0.length : Int) 0) else (some false)) = some r := h
  clear h
  by_cases c3 : (l0.length : Int) = (l1.length : Int)
  · rw [if_pos c3] at H
    have c3b0 : ((l0.length : Int) == (l1.length : Int)) = true := beq_iff_eq.mpr c3
    have c3b1 : ((l0.length : Int) != (l1.length : Int)) = false := bne_eq_false_iff_eq.mpr c3
    have c3b2 : (l0.length == l1.length) = true := by first | simpa using c3 | (simp at c3 ⊢; omega)
    clear c3
    have H' := Aside0.mk H
    clear H
    go_enter Try.func21, Try.ntmps21
    go_wp2
    repeat (go_quiet (fail); try go_wp2)
    go_loopg [13] k (fun kq v13 w' => ∃ (x13_1 : Int), v13 = .int .i64 x13_1 ∧ Aside0 (slices_Equal_int_int.l0 kq l0 l1 (l0.length : Int) x13_1 = some r) ∧ Aside0 (kq ≤ k) ∧ Drawn0 w w')
    case atStart => exact ⟨(0), (by first | rfl | (simp; done) | (simp [*]; done)), H', ⟨Nat.le_refl _⟩, by repeat (first | exact Drawn0.refl _ | apply Drawn0.step)⟩
    case round =>
      clear H'
      try clear c1
      try clear c2
      try clear p2
      try clear c3
      try clear c3b0
      try clear c3b1
      try clear c3b2
      obtain ⟨x13_1, rfl, HA, HK1, ⟨m1, rfl⟩⟩ := hrel
      cases gk with
      | zero => exact absurd HA.out (by simp [slices_Equal_int_int.l0])
      | succ k1 =>
        have H := HA.out
        clear HA
        simp only [slices_Equal_int_int.l0] at H
        by_cases c4 : x13_1 < (l0.length : Int)
        · rw [if_pos c4] at H
          have c4b0 : decide (x13_1 < (l0.length : Int)) = true := decide_eq_true c4
          clear c4
          by_cases c5 : 0 ≤ x13_1
          · rw [if_pos c5] at H
            have c5b0 : decide (0 ≤ x13_1) = true := decide_eq_true c5
            clear c5
            by_cases c6 : x13_1 < (l0.length : Int)
            · rw [if_pos c6] at H
              have c6b0 : decide (x13_1 < (l0.length : Int)) = true := decide_eq_true c6
              clear c6
              by_cases c7 : x13_1 < (l1.length : Int)
              · rw [if_pos c7] at H
                have c7b0 : decide (x13_1 < (l1.length : Int)) = true := decide_eq_true c7
                clear c7
                by_cases c8 : (rd l0 x13_1) = (rd l1 x13_1)
                · rw [if_pos c8] at H
                  have c8b0 : ((rd l0 x13_1) == (rd l1 x13_1)) = true := beq_iff_eq.mpr c8
                  have c8b1 : ((rd l0 x13_1) != (rd l1 x13_1)) = false := bne_eq_false_iff_eq.mpr c8
                  clear c8
                  have H' := Aside0.mk H
                  clear H
                  have p145 : 0 ≤ (x13_1 : Int) := of_decide_eq_true (by first | (with_reducible assumption) | assumption)
                  have q145 : x13_1 < (l0.length : Int) := of_decide_eq_true (by first | (with_reducible assumption) | assumption)
                  obtain ⟨ad145, e145, hx145_0⟩ := Kd.at_int HR0.out x13_1 p145 q145
                  cases e145
                  replace p145 := eq_true p145
                  replace q145 := eq_true q145
                  have p146 : 0 ≤ (x13_1 : Int) := of_decide_eq_true (by first | (with_reducible assumption) | assumption)
                  have q146 : x13_1 < (l1.length : Int) := of_decide_eq_true (by first | (with_reducible assumption) | assumption)
                  obtain ⟨ad146, e146, hx146_0⟩ := Kd.at_int HR1.out x13_1 p146 q146
                  cases e146
                  replace p146 := eq_true p146
                  replace q146 := eq_true q146
                  go_wp2
                  repeat (go_quiet (fail); try go_wp2)
                  go_roundg k1
                  case measure => have := HK1.out; omega
                  case rel => exact ⟨(wrap64 (x13_1 + 1)), (by first | rfl | (simp; done) | (simp [*]; done)), H', ⟨by have := HK1.out; omega⟩, by repeat (first | exact Drawn0.refl _ | apply Drawn0.step)⟩
                · rw [if_neg c8] at H
                  have c8b0 : ((rd l0 x13_1) == (rd l1 x13_1)) = false := beq_eq_false_iff_ne.mpr c8
                  have c8b1 : ((rd l0 x13_1) != (rd l1 x13_1)) = true := bne_iff_ne.mpr c8
                  obtain rfl := Option.some.inj H
                  have p145 : 0 ≤ (x13_1 : Int) := of_decide_eq_true (by first | (with_reducible assumption) | assumption)
                  have q145 : x13_1 < (l0.length : Int) := of_decide_eq_true (by first | (with_reducible assumption) | assumption)
                  obtain ⟨ad145, e145, hx145_0⟩ := Kd.at_int HR0.out x13_1 p145 q145
                  cases e145
                  replace p145 := eq_true p145
                  replace q145 := eq_true q145
                  have p146 : 0 ≤ (x13_1 : Int) := of_decide_eq_true (by first | (with_reducible assumption) | assumption)
                  have q146 : x13_1 < (l1.length : Int) := of_decide_eq_true (by first | (with_reducible assumption) | assumption)
                  obtain ⟨ad146, e146, hx146_0⟩ := Kd.at_int HR1.out x13_1 p146 q146
                  cases e146
                  replace p146 := eq_true p146
                  replace q146 := eq_true q146
                  go_wp2
                  repeat (go_quiet (fail); try go_wp2)
                  go_ret
                  exact ⟨by first | rfl | (simp; done) | (simp [*]; done), by repeat (first | exact Drawn0.refl _ | apply Drawn0.step)⟩
              · rw [if_neg c7] at H
                exact absurd H (by simp)
            · rw [if_neg c6] at H
              exact absurd H (by simp)
          · rw [if_neg c5] at H
            exact absurd H (by simp)
        · rw [if_neg c4] at H
          have c4b0 : decide (x13_1 < (l0.length : Int)) = false := decide_eq_false c4
          clear c4
          obtain rfl := Option.some.inj H
          go_wp2
          repeat (go_quiet (fail); try go_wp2)
          go_ret
          exact ⟨by first | rfl | (simp; done) | (simp [*]; done), by repeat (first | exact Drawn0.refl _ | apply Drawn0.step)⟩
  · rw [if_neg c3] at H
    have c3b0 : ((l0.length : Int) == (l1.length : Int)) = false := beq_eq_false_iff_ne.mpr c3
    have c3b1 : ((l0.length : Int) != (l1.length : Int)) = true := bne_iff_ne.mpr c3
    have c3b2 : (l0.length == l1.length) = false := by first | simpa using c3 | (simp at c3 ⊢; omega)
    obtain rfl := Option.some.inj H
    go_enter Try.func21, Try.ntmps21
    go_wp2
    repeat (go_quiet (fail); try go_wp2)
    go_ret
    exact ⟨by first | rfl | (simp; done) | (simp [*]; done), by repeat (first | exact Drawn0.refl _ | apply Drawn0.step)⟩

end Go.Proofs.Ytcnabemeadnecaa.PPassPlans
