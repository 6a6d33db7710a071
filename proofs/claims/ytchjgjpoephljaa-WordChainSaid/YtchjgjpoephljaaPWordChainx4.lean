-- written by prn.py, a program of this session, over the kit's printer
import Derived.Test.YtchjgjpoephljaaPWordChainx0
import Derived.Test.YtchjgjpoephljaaPWordChainx2
import Derived.Test.YtchjgjpoephljaaPWordChainx3
namespace Go.Proofs.Ytchjgjpoephljaa.PWordChain
open Go.RowKit Go.Proofs.YtchjgjpoephljaaW.PrintWords Go.Proofs.YtchjgjpoephljaaW.PrintLast Go.Proofs.YtchjgjpoephljaaW.PrintMore Go.Proofs.YtchjgjpoephljaaW.PrintMine
attribute [local go_sem] max2_int min2_int max_two min_two max_three min_three max_four min_four   -- for this text's walks alone
set_option linter.unusedVariables false
set_option linter.unusedSimpArgs false

/-! ### word_Place_24: function 24 -/
theorem keep4 {p0 p1 p2 p3 : Addr} {a0 a1 a2 a3 : Value} {W w' : World} (z0 : W.cell? p0 = some a0) (z1 : W.cell? p1 = some a1) (z2 : W.cell? p2 = some a2) (z3 : W.cell? p3 = some a3) (h : Below W.heap.size W w') : w'.cell? p0 = some a0 ∧ w'.cell? p1 = some a1 ∧ w'.cell? p2 = some a2 ∧ w'.cell? p3 = some a3 ∧ Below W.heap.size W w' :=
  ⟨(h.cell (World.block_lt_of_cell? W _ z0)).trans z0, (h.cell (World.block_lt_of_cell? W _ z1)).trans z1, (h.cell (World.block_lt_of_cell? W _ z2)).trans z2, (h.cell (World.block_lt_of_cell? W _ z3)).trans z3, h⟩
theorem goesv_ {ops : Array Oper} {Q : Exit → Act → World → Prop} {oi : Oper} {N : Option Tmp} {a : Act} {w : World} {K : Act → World → Prop} {f : FuncId} {fn : Func} {i : Tmp} {as_ : Array Operand} {ts : Array TypeId} (hf : Try.prog.funcs[f]? = some fn) (hname : (fn.name == "runtime.NumGoroutine") = false) (hb : fn.body.isSome = true) (args : Array Value)
    (hw : Region.wanted oi (yielded ops a.tmps) = true) (hN : oi.dst = N) (hop : oi.op = .call { callee := .value (.tmp i), args := as_, argTypes := ts }) (hv : a.eval (.tmp i) = .func (.func f) #[] #[]) (hargs : as_.map a.eval = args)
    (h : Calls Try.prog f args w fun e w' => ∃ v, e = .returned v ∧ K (a.put N v) w') : if Region.wanted oi (yielded ops a.tmps) = true then Oper.wp Try.prog oi a w K Q else K (a.put N undef) w := by
  refine call_ f args hw hN ?_ h
  have he := enters_ hf hname hb args w
  unfold execOp
  simp [hop, resolve, Deferred.ofValue, invoke, hv, hargs, he]
theorem held_step {w w1 w2 : World} (h : Below w.heap.size w w1) (hb : Below w1.heap.size w1 w2) : Below w.heap.size w w2 := below_step h hb
def cmpP (p q : S39) : Int := if p.f0 = q.f0 then wrap64 (p.f1 - q.f1) else wrap64 (p.f0 - q.f0)
/-- Where the halves meet: d rounds at most. -/
def bsP (F : List S39) (t : S39) : Nat → Nat → Nat → Nat
  | 0, i, _ => i
  | d + 1, i, j => if i < j then (if cmpP (rd_T39 F (((i + j) / 2 : Nat) : Int)) t < 0 then bsP F t d ((i + j) / 2 + 1) j else bsP F t d i ((i + j) / 2)) else i
theorem bsP_le (F : List S39) (t : S39) : ∀ (d i j : Nat), i ≤ j → bsP F t d i j ≤ j
  | 0, _, _, h => h
  | d + 1, i, j, h => by
    unfold bsP
    split
    · split
      · exact bsP_le F t d _ j (by omega)
      · exact Nat.le_trans (bsP_le F t d i _ (by omega)) (by omega)
    · exact h
def bsI (F : List S39) (t : S39) : Nat := bsP F t F.length 0 F.length
def bsB (F : List S39) (t : S39) : Bool := decide (bsI F t < F.length) && (cmpP (rd_T39 F ((bsI F t : Nat) : Int)) t == 0)
theorem word_Place_24.cmp (p0 p1 q0 q1 : Int) (w : World) : Calls Try.prog 25 #[.agg #[.int .i64 p0, .int .i64 p1], .agg #[.int .i64 q0, .int .i64 q1]] w fun e w' => e = .returned (.int .i64 (cmpP ⟨p0, p1⟩ ⟨q0, q1⟩)) ∧ Below w.heap.size w w' := by
  refine (word_compare.calls p0 p1 q0 q1 (cmpP ⟨p0, p1⟩ ⟨q0, q1⟩) w (by unfold word_compare.f cmpP; simp only; split <;> rfl)).mono ?_
  rintro e w' ⟨rfl, hd⟩
  exact ⟨rfl, by first | exact hd | exact drawn_below hd⟩
set_option maxHeartbeats 4000000 in
set_option maxRecDepth 100000 in
theorem word_Place_24.calls (A0 : Option Addr) (c0 : Nat) (l0 : List S39) (t : S39) (w : World) (hr0 : Kd.C k39 w A0 l0.length l0) (hc0 : l0.length ≤ c0) (hl : l0.length ≤ 1000000000) :
    Calls Try.prog 24 #[.slice A0 l0.length c0, .agg #[.int .i64 t.f0, .int .i64 t.f1], .func (.func 25) #[] #[]] w fun e w' => e = .returned (.tuple #[.int .i64 (bsI l0 t), .bool (bsB l0 t)]) ∧ Below w.heap.size w w' := by
  obtain ⟨I, hI⟩ : ∃ I, bsI l0 t = I := ⟨_, rfl⟩
  obtain ⟨r2, e2⟩ : ∃ r, bsB l0 t = r := ⟨_, rfl⟩
  have e2' := e2
  unfold bsB at e2'
  rw [hI] at e2'
  rw [hI, e2]
  have HIL := Aside0.mk (show I ≤ l0.length from hI ▸ bsP_le l0 t l0.length 0 l0.length (Nat.zero_le _))
  have HI := Aside0.mk (show bsP l0 t l0.length 0 l0.length = I from hI)
  have HR := Aside0.mk hr0
  have E2 := Aside0.mk e2'
  clear hI hr0 hc0 e2 e2'
  obtain ⟨q0, q1⟩ := t
  go_enter Try.func24, Try.ntmps24
  go_upto_region 2 with (first | ((with_reducible refine gate_dst (N := 4) rfl ?_); refine box_event ?hg (N := 4) ?hd (cs := #[.int .i64 q0, .int .i64 q1]) (t := 39) ?hr ?_; (case hd => rfl); (case hg => rfl); (case hr => first | (go_simp; done) | (go_simp; rfl)); intro gb hg w2 hbox hb; have BK := Aside0.mk hbox; have HB := Aside0.mk hb; clear hb hbox hg))
  go_wp2
  go_loopw [9, 10] (fun i j wr => ∃ (x y d : Nat), x ≤ y ∧ y ≤ l0.length ∧ y - x ≤ d ∧ Aside0 (bsP l0 ⟨q0, q1⟩ d x y = I) ∧ i = .int .i64 x ∧ j = .int .i64 y ∧ Aside0 (Below w2.heap.size w2 wr)) (fun i j _ => (intOf j).toNat - (intOf i).toNat)
  case atStart => exact ⟨0, l0.length, l0.length, Nat.zero_le _, Nat.le_refl _, by omega, HI, rfl, rfl, ⟨Below.refl _ _⟩⟩
  case round =>
    obtain ⟨x, y, d, h1, h2, h3, H4, rfl, rfl, HBr⟩ := hrel
    have HBW : Aside0 (Below w.heap.size w wr) := ⟨below_step HB.out HBr.out⟩
    have BK2 := blk_below BK.out HBr.out
    have t0 : wr.cell? ⟨gb, 0, none⟩ = some (.int .i64 q0) := (blk_cell BK2 0).trans rfl
    have t1 : wr.cell? ⟨gb, 1, none⟩ = some (.int .i64 q1) := (blk_cell BK2 1).trans rfl
    clear BK2
    by_cases hlt : x < y
    · obtain ⟨m, hm⟩ : ∃ m, (x + y) / 2 = m := ⟨_, rfl⟩
      obtain ⟨d, rfl⟩ : ∃ d', d = d' + 1 := ⟨d - 1, by omega⟩
      have h4 := H4.out
      unfold bsP at h4
      rw [if_pos hlt, hm] at h4
      obtain ⟨ad, e1, y0, y1⟩ := at_T39 HR.out (m : Int) (by omega) (by omega)
      cases e1
      rw [Int.toNat_natCast] at y0 y1
      replace y0 := (HBW.out.cell (World.block_lt_of_cell? w _ y0)).trans y0
      replace y1 := (HBW.out.cell (World.block_lt_of_cell? w _ y1)).trans y1
      obtain ⟨⟨f0, f1⟩, hf⟩ : ∃ f, rd_T39 l0 (m : Int) = f := ⟨_, rfl⟩
      rw [hf] at y0 y1 h4
      simp only at y0 y1
      clear hf
      have hm1 : m ≤ l0.length := by omega
      have hm2 : x ≤ m ∧ m < y := by omega
      go_upto_region 5 with (fail)
      have em : ((x : Int) + (y : Int)) / 2 = (m : Int) := by omega
      rw [em]
      clear em
      have HK : Aside0 (∀ w', Below wr.heap.size wr w' → w'.cell? (ad.add (m * 2)) = some (.int .i64 f0) ∧ w'.cell? ⟨(ad.add (m * 2)).block, (ad.add (m * 2)).off + 1, none⟩ = some (.int .i64 f1) ∧ w'.cell? ⟨gb, 0, none⟩ = some (.int .i64 q0) ∧ w'.cell? ⟨gb, 1, none⟩ = some (.int .i64 q1) ∧ Below wr.heap.size wr w') := ⟨fun w' h => keep4 y0 y1 t0 t1 h⟩
      by_cases hc : cmpP ⟨f0, f1⟩ ⟨q0, q1⟩ < 0
      · rw [if_pos hc] at h4
        have H4' := Aside0.mk h4
        clear H4 h4
        have u1 : decide (cmpP ⟨f0, f1⟩ ⟨q0, q1⟩ < 0) = true := decide_eq_true hc
        clear hc
        go_region_with (go_at_call 25; refine (word_Place_24.cmp f0 f1 q0 q1 _).mono ?_; rintro e w3 ⟨rfl, hb⟩; have HB2 : Aside0 (Below w2.heap.size w2 w3) := ⟨below_step HBr.out (below_step (by repeat (first | assumption | exact Below.refl _ _ | apply below_drew1)) hb)⟩; clear hb)
        all_goals
          go_wp2
          go_roundw
          case rel => exact ⟨m + 1, y, d, by omega, by omega, by omega, H4', by go_num, rfl, HB2⟩
          case measure => simp [intOf]; omega
      · rw [if_neg hc] at h4
        have H4' := Aside0.mk h4
        clear H4 h4
        have u1 : decide (cmpP ⟨f0, f1⟩ ⟨q0, q1⟩ < 0) = false := decide_eq_false hc
        clear hc
        go_region_with (go_at_call 25; refine (word_Place_24.cmp f0 f1 q0 q1 _).mono ?_; rintro e w3 ⟨rfl, hb⟩; have HB2 : Aside0 (Below w2.heap.size w2 w3) := ⟨below_step HBr.out (below_step (by repeat (first | assumption | exact Below.refl _ _ | apply below_drew1)) hb)⟩; clear hb)
        all_goals
          go_wp2
          go_roundw
          case rel => exact ⟨x, m, d, by omega, by omega, by omega, H4', rfl, rfl, HB2⟩
          case measure => simp [intOf]; omega
    · have h4 : I = x := by
        have := H4.out
        cases d with
        | zero => exact this.symm
        | succ d => unfold bsP at this; rw [if_neg hlt] at this; exact this.symm
      subst h4
      clear H4
      have u0 : decide ((I : Int) < (y : Int)) = false := decide_eq_false (by omega)
      have u0b : decide (I < y) = false := decide_eq_false hlt
      have e2 := E2.out
      by_cases hI2 : I < l0.length
      · obtain ⟨ad, e1, y0, y1⟩ := at_T39 HR.out (I : Int) (by omega) (by omega)
        cases e1
        rw [Int.toNat_natCast] at y0 y1
        replace y0 := (HBW.out.cell (World.block_lt_of_cell? w _ y0)).trans y0
        replace y1 := (HBW.out.cell (World.block_lt_of_cell? w _ y1)).trans y1
        obtain ⟨⟨f0, f1⟩, hf⟩ : ∃ f, rd_T39 l0 (I : Int) = f := ⟨_, rfl⟩
        rw [hf] at y0 y1 e2
        simp only at y0 y1
        clear hf
        rw [decide_eq_true hI2, Bool.true_and] at e2
        obtain ⟨z, hz⟩ : ∃ z, cmpP ⟨f0, f1⟩ ⟨q0, q1⟩ = z := ⟨_, rfl⟩
        have C := word_Place_24.cmp f0 f1 q0 q1
        rw [hz] at e2 C
        have CC := Aside0.mk C
        subst e2
        have u3 : decide ((I : Int) < (l0.length : Int)) = true := decide_eq_true (by omega)
        have u4 : decide (I < l0.length) = true := decide_eq_true hI2
        clear C hz hlt E2
        go_upto_region 8 with (fail)
        refine start_ (n := 16) (S := fun w' => w'.cell? (ad.add (I * 2)) = some (.int .i64 f0) ∧ w'.cell? ⟨(ad.add (I * 2)).block, (ad.add (I * 2)).off + 1, none⟩ = some (.int .i64 f1) ∧ w'.cell? ⟨gb, 0, none⟩ = some (.int .i64 q0) ∧ w'.cell? ⟨gb, 1, none⟩ = some (.int .i64 q1) ∧ Below wr.heap.size wr w') (ds := []) #[false, false, false, false, false, false, false, false, false, false, false, false, false, false, false, false] (by kernel_rfl) rfl rfl ⟨(keep4 y0 y1 t0 t1 (below_drew1 (Below.refl wr.heap.size wr))).1, (keep4 y0 y1 t0 t1 (below_drew1 (Below.refl wr.heap.size wr))).2.1, (keep4 y0 y1 t0 t1 (below_drew1 (Below.refl wr.heap.size wr))).2.2.1, (keep4 y0 y1 t0 t1 (below_drew1 (Below.refl wr.heap.size wr))).2.2.2.1, (keep4 y0 y1 t0 t1 (below_drew1 (Below.refl wr.heap.size wr))).2.2.2.2⟩ (fun hHeld => ?_)
        refine pure_ (i := 0) (N := some 35) (v := ?_) (a' := ?_) #[true, false, false, false, false, false, false, false, false, false, false, false, false, false, false, false] rfl rfl (by kernel_rfl) (fun _ _ _ h => h) (Or.inl ⟨by rfl, ?_⟩) ?_ ?_
        rotate_left
        · intro w'
          go_simp
          with_reducible rfl
        rotate_left
        · simp only [Act.put, List.setIfInBounds_toArray, List.set_cons_zero, List.set_cons_succ, i64_w, i32_w]
          rfl
        refine pure_ (i := 1) (N := some 36) (v := ?_) (a' := ?_) #[true, true, false, false, false, false, false, false, false, false, false, false, false, false, false, false] rfl rfl (by kernel_rfl) (fun _ _ _ h => h) (Or.inl ⟨by rfl, ?_⟩) ?_ ?_
        rotate_left
        · intro w'
          go_simp
          with_reducible rfl
        rotate_left
        · simp only [Act.put, List.setIfInBounds_toArray, List.set_cons_zero, List.set_cons_succ, i64_w, i32_w]
          rfl
        refine pure_ (i := 2) (N := some 37) (v := ?_) (a' := ?_) #[true, true, true, false, false, false, false, false, false, false, false, false, false, false, false, false] rfl rfl (by kernel_rfl) (fun _ _ _ h => h) (Or.inl ⟨by rfl, ?_⟩) ?_ ?_
        rotate_left
        · intro w'
          go_simp
          with_reducible rfl
        rotate_left
        · simp only [Act.put, List.setIfInBounds_toArray, List.set_cons_zero, List.set_cons_succ, i64_w, i32_w]
          rfl
        refine pure_ (i := 3) (N := some 38) (v := ?_) (a' := ?_) #[true, true, true, true, false, false, false, false, false, false, false, false, false, false, false, false] rfl rfl (by kernel_rfl) (fun _ _ _ h => h) (Or.inl ⟨by rfl, ?_⟩) ?_ ?_
        rotate_left
        · intro w'
          go_simp
          with_reducible rfl
        rotate_left
        · simp only [Act.put, List.setIfInBounds_toArray, List.set_cons_zero, List.set_cons_succ, i64_w, i32_w]
          rfl
        refine pure_ (i := 4) (N := some 39) (v := ?_) (a' := ?_) #[true, true, true, true, true, false, false, false, false, false, false, false, false, false, false, false] rfl rfl (by kernel_rfl) (fun _ _ _ h => h) (Or.inl ⟨by rfl, ?_⟩) ?_ ?_
        rotate_left
        · intro w'
          go_simp
          with_reducible rfl
        rotate_left
        · simp only [Act.put, List.setIfInBounds_toArray, List.set_cons_zero, List.set_cons_succ, i64_w, i32_w]
          rfl
        refine pure_ (i := 5) (N := some 40) (v := ?_) (a' := ?_) #[true, true, true, true, true, true, false, false, false, false, false, false, false, false, false, false] rfl rfl (by kernel_rfl) (fun _ _ _ h => h) (Or.inl ⟨by rfl, ?_⟩) ?_ ?_
        rotate_left
        · intro w'
          go_simp
          with_reducible rfl
        rotate_left
        · simp only [Act.put, List.setIfInBounds_toArray, List.set_cons_zero, List.set_cons_succ, i64_w, i32_w]
          rfl
        refine pure_ (i := 6) (N := some 41) (v := ?_) (a' := ?_) #[true, true, true, true, true, true, true, false, false, false, false, false, false, false, false, false] rfl rfl (by kernel_rfl) (fun _ _ _ h => h) (Or.inl ⟨by rfl, ?_⟩) ?_ ?_
        rotate_left
        · intro w'
          go_simp
          with_reducible rfl
        rotate_left
        · simp only [Act.put, List.setIfInBounds_toArray, List.set_cons_zero, List.set_cons_succ, i64_w, i32_w]
          rfl
        refine pure_ (i := 7) (N := some 42) (v := ?_) (a' := ?_) #[true, true, true, true, true, true, true, true, false, false, false, false, false, false, false, false] rfl rfl (by kernel_rfl) (fun _ _ _ h => h) (Or.inl ⟨by rfl, ?_⟩) ?_ ?_
        rotate_left
        · intro w'
          go_simp
          with_reducible rfl
        rotate_left
        · simp only [Act.put, List.setIfInBounds_toArray, List.set_cons_zero, List.set_cons_succ, i64_w, i32_w]
          rfl
        refine pure_ (i := 8) (N := some 43) (v := ?_) (a' := ?_) #[true, true, true, true, true, true, true, true, true, false, false, false, false, false, false, false] rfl rfl (by kernel_rfl) (fun _ _ _ h => h) (Or.inl ⟨by rfl, ?_⟩) ?_ ?_
        rotate_left
        · intro w'
          go_simp
          with_reducible rfl
        rotate_left
        · simp only [Act.put, List.setIfInBounds_toArray, List.set_cons_zero, List.set_cons_succ, i64_w, i32_w]
          rfl
        refine take_ (i := 9) (N := some 44) (v := ?_) (a' := ?_) #[true, true, true, true, true, true, true, true, true, true, false, false, false, false, false, false] rfl rfl (by kernel_rfl) (fun _ _ _ h => h) (Or.inl ⟨by rfl, ?_⟩) hHeld ?_ ?_
        rotate_left
        · rintro w' ⟨s0, s1, s2, s3, s4⟩
          go_simp
          with_reducible rfl
        rotate_left
        · simp only [Act.put, List.setIfInBounds_toArray, List.set_cons_zero, List.set_cons_succ, i64_w, i32_w]
          rfl
        refine take_ (i := 10) (N := some 45) (v := ?_) (a' := ?_) #[true, true, true, true, true, true, true, true, true, true, true, false, false, false, false, false] rfl rfl (by kernel_rfl) (fun _ _ _ h => h) (Or.inl ⟨by rfl, ?_⟩) hHeld ?_ ?_
        rotate_left
        · rintro w' ⟨s0, s1, s2, s3, s4⟩
          go_simp
          with_reducible rfl
        rotate_left
        · simp only [Act.put, List.setIfInBounds_toArray, List.set_cons_zero, List.set_cons_succ, i64_w, i32_w]
          rfl
        refine one_ (i := 11) (N := some 46) #[true, true, true, true, true, true, true, true, true, true, true, true, false, false, false, false] rfl rfl (by kernel_rfl) (by decide) (fun K hK => ?_)
        refine goesv_ Try.func25 (by kernel_rfl) rfl #[.agg #[.int .i64 f0, .int .i64 f1], .agg #[.int .i64 q0, .int .i64 q1]] (by rfl) rfl rfl (by rfl) (by simp only [List.map_toArray, List.map_cons, List.map_nil]; rfl) ?_
        with_reducible refine (CC.out _).mono ?_
        rintro e w8 ⟨rfl, hb⟩
        refine ⟨_, rfl, ?_⟩
        have hbn := held_step hHeld.2.2.2.2 hb
        have h8 := keep4 y0 y1 t0 t1 hbn
        refine hK.out _ _ ⟨h8.1, h8.2.1, h8.2.2.1, h8.2.2.2.1, h8.2.2.2.2⟩ (fun hHeld => ?_)
        clear hK K
        refine norm_ (a' := ?_) ?_ ?_
        rotate_left
        · show Act.put _ (some 46) _ = _
          simp only [Act.put, List.setIfInBounds_toArray, List.set_cons_zero, List.set_cons_succ, i64_w, i32_w]
          rfl
        refine pure_ (i := 12) (N := some 47) (v := ?_) (a' := ?_) #[true, true, true, true, true, true, true, true, true, true, true, true, true, false, false, false] rfl rfl (by kernel_rfl) (fun _ _ _ h => h) (Or.inl ⟨by rfl, ?_⟩) ?_ ?_
        rotate_left
        · intro w'
          go_simp
          with_reducible rfl
        rotate_left
        · simp only [Act.put, List.setIfInBounds_toArray, List.set_cons_zero, List.set_cons_succ, i64_w, i32_w]
          rfl
        refine pure_ (i := 13) (N := some 48) (v := ?_) (a' := ?_) #[true, true, true, true, true, true, true, true, true, true, true, true, true, true, false, false] rfl rfl (by kernel_rfl) (fun _ _ _ h => h) (Or.inl ⟨by rfl, ?_⟩) ?_ ?_
        rotate_left
        · intro w'
          go_simp
          with_reducible rfl
        rotate_left
        · simp only [Act.put, List.setIfInBounds_toArray, List.set_cons_zero, List.set_cons_succ, i64_w, i32_w]
          rfl
        refine pure_ (i := 14) (N := some 6) (v := ?_) (a' := ?_) #[true, true, true, true, true, true, true, true, true, true, true, true, true, true, true, false] rfl rfl (by kernel_rfl) (fun _ _ _ h => h) (Or.inl ⟨by rfl, ?_⟩) ?_ ?_
        rotate_left
        · intro w'
          go_simp
          with_reducible rfl
        rotate_left
        · simp only [Act.put, List.setIfInBounds_toArray, List.set_cons_zero, List.set_cons_succ, i64_w, i32_w]
          rfl
        refine pure_ (i := 15) (N := some 7) (v := ?_) (a' := ?_) #[true, true, true, true, true, true, true, true, true, true, true, true, true, true, true, true] rfl rfl (by kernel_rfl) (fun _ _ _ h => h) (Or.inl ⟨by rfl, ?_⟩) ?_ ?_
        rotate_left
        · intro w'
          go_simp
          with_reducible rfl
        rotate_left
        · simp only [Act.put, List.setIfInBounds_toArray, List.set_cons_zero, List.set_cons_succ, i64_w, i32_w]
          rfl
        refine done_ (by kernel_rfl) ?_
        go_wp2
        go_ret2
        exact ⟨by first | rfl | simp, below_step HBW.out hbn⟩
      · rw [decide_eq_false hI2, Bool.false_and] at e2
        subst e2
        clear hlt E2
        have u1 : decide ((I : Int) < (l0.length : Int)) = false := decide_eq_false (by omega)
        have u2 : decide (I < l0.length) = false := decide_eq_false hI2
        go_upto_region 8 with (fail)
        go_quiet (fail)
        go_wp2
        go_ret2
        exact ⟨by first | rfl | simp, by repeat (first | (with_reducible first | exact HBW.out | apply below_alloc | apply pw_below_drewN | apply below_drew1) | exact HBW.out)⟩

/-! ### word_Index_Phrase: function 9 -/
/-- Whether the words stand from a place on. -/
def okP (P : ByteArray → List S39) (p : S39) : Nat → List ByteArray → Bool
  | _, [] => true
  | i, s :: t => bsB (P s) ⟨p.f0, wrap64 (p.f1 + (i : Int))⟩ && okP P p (i + 1) t
theorem okP_snoc (P : ByteArray → List S39) (p : S39) (s : ByteArray) : ∀ (l : List ByteArray) (i : Nat), okP P p i (l ++ [s]) = (okP P p i l && bsB (P s) ⟨p.f0, wrap64 (p.f1 + ((i + l.length : Nat) : Int))⟩)
  | [], i => by simp [okP]
  | x :: t, i => by
    show (_ && okP P p (i + 1) (t ++ [s])) = ((_ && okP P p (i + 1) t) && _)
    rw [okP_snoc P p s t (i + 1), Bool.and_assoc, List.length_cons, show i + 1 + t.length = i + (t.length + 1) by omega]
def phr (P : ByteArray → List S39) (ws : List ByteArray) : List S39 := (P (ws.getD 0 ByteArray.empty)).filter fun p => okP P p 0 ws
set_option maxHeartbeats 4000000 in
set_option maxRecDepth 100000 in
theorem word_Index_Phrase.calls (m0 gx : Nat) (P : ByteArray → List S39) (Z : List Int) (N : Nat) (A1 : Option Addr) (c1 : Nat) (ws : List ByteArray) (w : World) (hI : IsIdx m0 w gx P Z N) (hr : Kd.C Kd.string w A1 ws.length ws) (hc : ws.length ≤ c1) (h1 : 1 ≤ ws.length) (h8 : ws.length ≤ 8) (hs : ∀ s ∈ ws, s.size ≤ maxLen) (hP : ∀ s, (P s).length ≤ 100000000) :
    Calls Try.prog 9 #[.pointer (some ⟨gx, 0, none⟩), .slice A1 ws.length c1] w fun e w' => ∃ v : Value, e = .returned (.tuple #[v, .int .i64 0]) ∧ Kd.R k39 39 w' w.heap.size (fun _ => True) v (phr P ws) ∧ Below w.heap.size w w' := by
  have HI := Aside0.mk hI
  have HR := Aside0.mk hr
  have HC := Aside0.mk hc
  have HS := Aside0.mk hs
  have HP := Aside0.mk hP
  have HK0 : Aside0 (word_check.f ws = some 0) := ⟨by unfold word_check.f; rw [if_neg (by omega), if_neg (by omega)]⟩
  obtain ⟨b, x0, hrow⟩ := hI.row
  have HROW := Aside0.mk hrow
  obtain ⟨ad1, e1, hw0⟩ := Kd.at_string hr 0 (by omega) (by omega)
  subst e1
  have hm0 : ws.getD 0 ByteArray.empty ∈ ws := by rw [List.getD_eq_getElem?_getD, List.getElem?_eq_getElem (by omega : 0 < ws.length)]; exact List.getElem_mem _
  have hrd0 : rdOf ByteArray.empty ws 0 = ws.getD 0 ByteArray.empty := rfl
  rw [hrd0] at hw0
  obtain ⟨A0, c0, hlk0, hC0, hc0⟩ := hrow _ (hs _ hm0)
  have HPH : Aside0 (phr P ws = (P (ws.getD 0 ByteArray.empty)).filter fun p => okP P p 0 ws) := ⟨rfl⟩
  have hn0 := hP (ws.getD 0 ByteArray.empty)
  generalize ws.getD 0 ByteArray.empty = s0 at *
  obtain ⟨Q, hQ⟩ : ∃ Q, P s0 = Q := ⟨_, rfl⟩
  rw [hQ] at hlk0 hC0 hc0 hn0
  have HQ := Aside0.mk hQ
  have HC0 := Aside0.mk hC0
  have HL0 := Aside0.mk hlk0
  have HN0 := Aside0.mk hn0
  clear hI hr hc hs hP hrow hrd0 hm0 hQ hC0 hlk0 hc0 hn0
  go_enter Try.func9, Try.ntmps9
  go_upto_region 5 with (go_at_call 23; refine (word_check.calls _ _ ws 0 _ HR.out HC.out HK0.out).mono ?_; rintro e w1 ⟨rfl, hd⟩; have hb1 : Below w.heap.size w w1 := (by first | exact hd | exact drawn_below hd))
  have xw : w1.cell? ⟨gx, 0, none⟩ = some (.map (some b)) := (hb1.cell (World.block_lt_of_cell? w _ x0)).trans x0
  have hwb : w1.cell? ad1 = some (.string s0) := by
    have h := (hb1.cell (World.block_lt_of_cell? w _ hw0)).trans hw0
    simpa [Addr.add] using h
  have hwa : w1.cell? (ad1.add 0) = some (.string s0) := by simpa [Addr.add] using hwb
  have l1 := HL0.out w1 hb1
  have l2 := HL0.out w1.drew (below_drew1 hb1)
  have X0 := Aside0.mk x0
  have HB1 := Aside0.mk hb1
  clear hd hb1 hw0 x0
  go_cut [27, 28, 29] (fun v27 v28 v29 wx => v27 = .slice A0 Q.length c0 ∧ v28 = .int .i64 Q.length ∧ v29 = .int .i64 0 ∧ Aside0 (Below w.heap.size w wx))
  case first =>
    go_region_with (fail)
    all_goals
      go_wp2_with fail
      go_meet
      case rel => exact ⟨rfl, rfl, rfl, ⟨below_drew1 HB1.out⟩⟩
  case rest =>
    obtain ⟨rfl, rfl, rfl, HB2⟩ := hcut
    clear xw hwa hwb l1 l2 HB1
    go_wp2
    go_loopg [7, 29] Q.length (fun gg v7 s29 wr => ∃ (kk : Nat) (A7 : Option Addr) (c7 n7 : Nat), kk ≤ Q.length ∧ Q.length - kk ≤ gg ∧ v7 = .slice A7 n7 c7 ∧ s29 = .int .i64 kk ∧ Aside0 (Kd.R k39 39 wr w.heap.size (fun _ => True) (.slice A7 n7 c7) ((Q.take kk).filter fun p => okP P p 0 ws)) ∧ Aside0 (Below w.heap.size w wr))
    case atStart => exact ⟨0, none, 0, 0, Nat.zero_le _, by omega, rfl, rfl, ⟨Kd.R_nil _ _ _ _ _⟩, HB2⟩
    case round =>
      obtain ⟨kk, A7, c7, n7, hkk, hg, rfl, rfl, HO7, HB3⟩ := hrel
      have hn0 := HN0.out
      by_cases hlt : kk < Q.length
      · have hltz : (kk : Int) < (Q.length : Int) := by omega
        have h0 : (0 : Int) ≤ (kk : Int) := by omega
        obtain ⟨adq, eq, y0, y1⟩ := at_T39 HC0.out (kk : Int) h0 hltz
        subst eq
        have hrd : rd_T39 Q (kk : Int) = Q[kk] := by unfold rd_T39; rw [Int.toNat_natCast, List.getD_eq_getElem?_getD, List.getElem?_eq_getElem hlt]; rfl
        have hst : (Q.take (kk + 1)).filter (fun p => okP P p 0 ws) = (Q.take kk).filter (fun p => okP P p 0 ws) ++ (if okP P Q[kk] 0 ws = true then [Q[kk]] else []) := by
          rw [List.take_add_one, List.getElem?_eq_getElem hlt, List.filter_append]
          by_cases c : okP P Q[kk] 0 ws = true <;> simp [c]
        rw [hrd, Int.toNat_natCast] at y0 y1
        obtain ⟨⟨p0, p1⟩, hp⟩ : ∃ p, Q[kk] = p := ⟨_, rfl⟩
        rw [hp] at y0 y1 hst
        simp only at y0 y1
        have HST := Aside0.mk hst
        replace y0 := (HB3.out.cell (World.block_lt_of_cell? w _ y0)).trans y0
        replace y1 := (HB3.out.cell (World.block_lt_of_cell? w _ y1)).trans y1
        have HLN : Aside0 (((Q.take kk).filter fun p => okP P p 0 ws).length ≤ Q.length) := ⟨Nat.le_trans (List.length_filter_le _ _) (by rw [List.length_take]; omega)⟩
        clear hrd hp hst
        generalize (Q.take kk).filter (fun p => okP P p 0 ws) = acc at *
        go_upto_region 8 with (fail)
        obtain ⟨W9, hW9⟩ : ∃ W, W = wr.alloc (.cells #[.int .i64 p0, .int .i64 p1] 39) := ⟨_, rfl⟩
        obtain ⟨gp, hgp⟩ : ∃ g, g = wr.heap.size := ⟨_, rfl⟩
        have BKP : Aside0 (W9.heap[gp]? = some (.cells #[.int .i64 p0, .int .i64 p1] 39 (0, 0))) := ⟨by rw [hW9, hgp]; exact blk_new wr _⟩
        have HB9 : Aside0 (Below wr.heap.size wr W9) := ⟨by rw [hW9]; exact below_alloc (Below.refl _ _) _⟩
        rw [← hW9, ← hgp]
        clear hW9 hgp y0 y1
        go_wp2
        go_loopg [10, 35] ws.length (fun gg v10 s35 wx => ∃ jj : Nat, jj ≤ ws.length ∧ ws.length - jj ≤ gg ∧ v10 = .bool (okP P ⟨p0, p1⟩ 0 (ws.take jj)) ∧ s35 = .int .i64 jj ∧ Aside0 (Below W9.heap.size W9 wx))
        case atStart => exact ⟨0, Nat.zero_le _, by omega, rfl, rfl, ⟨Below.refl _ _⟩⟩
        case round =>
          obtain ⟨jj, hjj, hgj, rfl, rfl, HBX⟩ := hrel
          have HBW : Aside0 (Below w.heap.size w wr) := ⟨below_step (below_step HB3.out HB9.out) HBX.out⟩
          by_cases hlj : jj < ws.length
          · have hljz : (jj : Int) < (ws.length : Int) := by omega
            have h0j : (0 : Int) ≤ (jj : Int) := by omega
            obtain ⟨adw, ew, z0⟩ := Kd.at_string HR.out (jj : Int) h0j hljz
            obtain rfl := Option.some.inj ew
            have hrdw : rdOf ByteArray.empty ws (jj : Int) = ws[jj] := by unfold rdOf; rw [Int.toNat_natCast, List.getD_eq_getElem?_getD, List.getElem?_eq_getElem hlj]; rfl
            rw [hrdw, Int.toNat_natCast] at z0
            have hstw : okP P ⟨p0, p1⟩ 0 (ws.take (jj + 1)) = (okP P ⟨p0, p1⟩ 0 (ws.take jj) && bsB (P ws[jj]) ⟨p0, wrap64 (p1 + (jj : Int))⟩) := by
              rw [List.take_add_one, List.getElem?_eq_getElem hlj]
              show okP P _ 0 (ws.take jj ++ [ws[jj]]) = _
              rw [okP_snoc, List.length_take, Nat.min_eq_left (by omega), Nat.zero_add]
            have hsw := HS.out _ (List.getElem_mem hlj)
            obtain ⟨A2, c2, hlk2, hC2, hc2⟩ := HROW.out _ hsw
            have hP2 := HP.out ws[jj]
            have HK1 : Aside0 (wrap64 ((jj : Int) + 1) = ((jj + 1 : Nat) : Int)) := ⟨by unfold wrap64; omega⟩
            clear hrdw hsw ew
            generalize ws[jj] = s at *
            obtain ⟨F, hF⟩ : ∃ F, P s = F := ⟨_, rfl⟩
            rw [hF] at hlk2 hC2 hc2 hstw hP2
            clear hF
            replace z0 := (HBW.out.cell (World.block_lt_of_cell? w _ z0)).trans z0
            have x0 : wr.cell? ⟨gx, 0, none⟩ = some (.map (some b)) := (HBW.out.cell (World.block_lt_of_cell? w _ X0.out)).trans X0.out
            have bp := blk_below BKP.out HBX.out
            have k0 : wr.cell? ⟨gp, 0, none⟩ = some (.int .i64 p0) := (blk_cell bp 0).trans rfl
            have k1 : wr.cell? ⟨gp, 1, none⟩ = some (.int .i64 p1) := (blk_cell bp 1).trans rfl
            clear bp
            have HST2 := Aside0.mk hstw
            have HC2 := Aside0.mk hC2
            have HCC2 := Aside0.mk hc2
            have HP2 := Aside0.mk (show F.length ≤ 1000000000 by omega)
            generalize okP P ⟨p0, p1⟩ 0 (ws.take jj) = b0 at *
            obtain ⟨b2, hb2⟩ : ∃ b2, bsB F ⟨p0, wrap64 (p1 + (jj : Int))⟩ = b2 := ⟨_, rfl⟩
            have HB2x := Aside0.mk hb2
            obtain ⟨i2, hi2⟩ : ∃ i2 : Nat, bsI F ⟨p0, wrap64 (p1 + (jj : Int))⟩ = i2 := ⟨_, rfl⟩
            have HCALL : Aside0 (∀ W, Below wr.heap.size wr W → Calls Try.prog 24 #[.slice A2 F.length c2, .agg #[.int .i64 p0, .int .i64 (IntKind.i64.wrap (p1 + (jj : Int)))], .func (.func 25) #[] #[]] W fun e w' => e = .returned (.tuple #[.int .i64 (i2 : Int), .bool b2]) ∧ Below W.heap.size W w') := ⟨fun W hb => by
              have h := word_Place_24.calls A2 c2 F ⟨p0, wrap64 (p1 + (jj : Int))⟩ W (Kd.C_below HC2.out (below_step HBW.out hb)) HCC2.out HP2.out
              rw [hb2, hi2] at h
              rw [i64_w]
              exact h⟩
            have HKS : Aside0 (∀ w', Below wr.heap.size wr w' → w'.cell? ⟨gx, 0, none⟩ = some (.map (some b)) ∧ w'.cell? ⟨gp, 0, none⟩ = some (.int .i64 p0) ∧ w'.cell? ⟨gp, 1, none⟩ = some (.int .i64 p1) ∧ (Instr.lookup 55 (.map (some b)) (.string s) false).run Try.prog w' = .ok (.slice A2 F.length c2) w' ∧ Below wr.heap.size wr w') := ⟨fun w' h => ⟨(h.cell (World.block_lt_of_cell? wr _ x0)).trans x0, (h.cell (World.block_lt_of_cell? wr _ k0)).trans k0, (h.cell (World.block_lt_of_cell? wr _ k1)).trans k1, hlk2 w' (below_step HBW.out h), h⟩⟩
            clear hb2 hi2 hC2 hc2 hP2 hstw hlk2
            go_upto_region 12 with (fail)
            go_cut [14] (fun v14 wy => v14 = .bool b2 ∧ Aside0 (Below wr.heap.size wr wy))
            case first =>
              go_region_held3 (fun w' => w'.cell? ⟨gx, 0, none⟩ = some (.map (some b)) ∧ w'.cell? ⟨gp, 0, none⟩ = some (.int .i64 p0) ∧ w'.cell? ⟨gp, 1, none⟩ = some (.int .i64 p1) ∧ (Instr.lookup 55 (.map (some b)) (.string s) false).run Try.prog w' = .ok (.slice A2 F.length c2) w' ∧ Below wr.heap.size wr w') (first | exact HKS.out _ (by (repeat (first | assumption | exact Below.refl _ _ | apply below_drew1)))) (first | (go_at_call 24; (with_reducible refine (HCALL.out _ ?hbb).mono ?_); (case hbb => (repeat (first | assumption | exact Below.refl _ _ | apply below_drew1))); rintro e w7 ⟨rfl, hb⟩; have hb7 : Below wr.heap.size wr w7 := below_step (by (repeat (first | assumption | exact Below.refl _ _ | apply below_drew1))) hb))
              all_goals
                go_wp2_with fail
                go_meet
                case rel => exact ⟨rfl, ⟨hb7⟩⟩
            case rest =>
              obtain ⟨rfl, HB7⟩ := hcut
              have HBY : Aside0 (Below W9.heap.size W9 wc) := ⟨below_step HBX.out HB7.out⟩
              have HST3 : Aside0 ((b0 && b2) = okP P ⟨p0, p1⟩ 0 (ws.take (jj + 1))) := ⟨by rw [HST2.out, HB2x.out]⟩
              clear x0 k0 k1 z0
              cases b0
              · go_wp2
                go_roundg (ws.length - (jj + 1))
                case measure => omega
                case rel => exact ⟨jj + 1, by omega, by omega, by rw [← HST3.out]; rfl, by go_num, HBY⟩
              · go_wp2
                go_roundg (ws.length - (jj + 1))
                case measure => omega
                case rel => exact ⟨jj + 1, by omega, by omega, by rw [← HST3.out]; rfl, by go_num, HBY⟩
          · have hljz : ¬ (jj : Int) < (ws.length : Int) := by omega
            have hj : jj = ws.length := by omega
            generalize hb1 : okP P ⟨p0, p1⟩ 0 (ws.take jj) = b1
            have hst := HST.out
            rw [hj, List.take_length] at hb1
            rw [hb1] at hst
            have bp := blk_below BKP.out HBX.out
            have k0 : wr.cell? ⟨gp, 0, none⟩ = some (.int .i64 p0) := (blk_cell bp 0).trans rfl
            have k1 : wr.cell? ⟨gp, 1, none⟩ = some (.int .i64 p1) := (blk_cell bp 1).trans rfl
            have HOX := Aside0.mk (Kd.R_below (Kd.R_below HO7.out HB9.out) HBX.out)
            have HK2 : Aside0 ((acc.length + 1) * 16 ≤ 140737488355328) := ⟨by have := HLN.out; omega⟩
            have HSZ : Aside0 (w.heap.size ≤ wr.heap.size) := ⟨HBW.out.size⟩
            clear bp hb1 hj
            cases b1
            · have HOY : Aside0 (Kd.R k39 39 wr w.heap.size (fun _ => True) (.slice A7 n7 c7) ((Q.take (kk + 1)).filter fun p => okP P p 0 ws)) := ⟨by rw [hst]; simpa using HOX.out⟩
              clear hst
              go_wp2
              go_roundg (Q.length - (kk + 1))
              case measure => omega
              case rel => exact ⟨kk + 1, A7, c7, n7, by omega, by omega, rfl, by go_num, HOY, HBW⟩
            · have HEQ : Aside0 (acc ++ [(⟨p0, p1⟩ : S39)] = (Q.take (kk + 1)).filter fun p => okP P p 0 ws) := ⟨by rw [hst]; simp⟩
              clear hst
              go_wp2_with (first | ((with_reducible refine gate_builtin (b := .append) (xs := #[.tmp 63, .tmp 65]) rfl ?_); at_builtin; refine Kd.R_append k39 (w0 := w) (W := wr) w.heap.size rfl (.tmp 63) (.tmp 65) 33 39 (.agg #[(.int .i64 0), (.int .i64 0)]) 16 rfl Try.underlying33 info39 rfl (by decide) (by omega) (.slice A7 n7 c7) acc (⟨p0, p1⟩ : S39) [.int .i64 p0, .int .i64 p1] (fun _ => True) (fun _ => False) rfl rfl (k39_mkM _ _ _ _) (fun _ hk => hk.elim) (fun _ _ => trivial) HOX.out HBW.out HSZ.out HK2.out ?_; intro v1 wa ho hb hg hat; rw [HEQ.out] at ho; obtain ⟨A3, c3, e3⟩ := Kd.R_slice ho; subst e3; generalize ((Q.take (kk + 1)).filter fun p => okP P p 0 ws).length = n3 at ho ⊢; have HO3 := Aside0.mk ho; have HB5 := Aside0.mk hb; clear ho hb hg hat))
              go_roundg (Q.length - (kk + 1))
              case measure => omega
              case rel => exact ⟨kk + 1, A3, c3, n3, by omega, by omega, rfl, by go_num, HO3, HB5⟩
      · have hltz : ¬ (kk : Int) < (Q.length : Int) := by omega
        have hk : kk = Q.length := by omega
        subst hk
        have HO8 : Aside0 (Kd.R k39 39 wr w.heap.size (fun _ => True) (.slice A7 n7 c7) (phr P ws)) := ⟨by have h := HO7.out; rw [List.take_length] at h; rw [HPH.out, HQ.out]; exact h⟩
        clear HO7
        go_wp2
        go_ret2
        exact ⟨_, rfl, HO8.out, HB3.out⟩

/-! ### wrackkeep3_indexed: function 7 -/
def T0 : List Int := [65, 32, 98, 44, 32, 97, 32, 99]
def sA : ByteArray := ⟨#[97]⟩
def sB : ByteArray := ⟨#[98]⟩
def sC : ByteArray := ⟨#[99]⟩
theorem phr_fact : phr (idxP (fun _ => []) 0 [[sA, sB, sA, sC]]) [sA, sC] = [(⟨0, 2⟩ : S39)] := by kernel_rfl
theorem litT0 (W : World) : Kd.C (Kd.int .u8) (W.alloc (.cells #[.int .u8 65, .int .u8 32, .int .u8 98, .int .u8 44, .int .u8 32, .int .u8 97, .int .u8 32, .int .u8 99] 5)) (some ⟨W.heap.size, 0, none⟩) 8 T0 :=
  (Kd.R_reads' (Kd.R_of_own (enc := Value.int .u8) (h1 := fun _ => rfl) (ok := fun _ => True) (base := 0) (xs := T0) (own_lit_of W 0 5 T0 (Nat.zero_le _) (by simp [T0])) (fun _ _ => trivial))).2.2
theorem litT1 (W : World) (A : Option Addr) (c : Nat) (hc : 8 ≤ c) (h : Kd.C (Kd.int .u8) W A 8 T0) : Kd.C (Kd.slice 5 (Kd.int .u8)) (W.alloc (.cells #[.slice A 8 c] 46)) (some ⟨W.heap.size, 0, none⟩) 1 [T0] := by
  refine ⟨rfl, by decide, fun _ => ⟨_, rfl, fun j p hp => ?_⟩⟩
  cases j with
  | zero =>
    obtain rfl : T0 = p := by simpa using hp
    refine ⟨[.slice A 8 c], rfl, ⟨A, c, rfl, hc, Kd.C_below h (below_alloc (Below.refl _ _) _)⟩, fun i u hu => ?_⟩
    cases i with
    | zero =>
      obtain rfl : Value.slice A 8 c = u := by simpa using hu
      exact (blk_cell (blk_new W (.cells #[.slice A 8 c] 46)) 0).trans rfl
    | succ i => simp at hu
  | succ j => simp at hp
theorem litAC (W : World) : Kd.C Kd.string (W.alloc (.cells #[.string sA, .string sC] 9)) (some ⟨W.heap.size, 0, none⟩) 2 [sA, sC] :=
  (Kd.R_reads' (Kd.R_of_own (enc := Value.string) (h1 := fun _ => rfl) (ok := fun _ => True) (base := 0) (xs := [sA, sC]) (own_lit_of W 0 9 [sA, sC] (Nat.zero_le _) (by simp)) (fun _ _ => trivial))).2.2
set_option maxHeartbeats 4000000 in
set_option maxRecDepth 100000 in
theorem wrackkeep3_indexed.calls (k : Nat) (w : World) (hW : word_Words.f k T0 = some [sA, sB, sA, sC]) :
    Calls Try.prog 7 #[] w fun e w' => e = .returned (.bool true) ∧ Below w.heap.size w w' := by
  have hsm : ∀ s ∈ [sA, sB, sA, sC], s.size ≤ maxLen := by
    have h : [sA, sB, sA, sC].all (fun s => decide (s.size ≤ 1)) = true := by kernel_rfl
    intro s hs
    have := of_decide_eq_true (List.all_eq_true.1 h s hs)
    unfold maxLen
    omega
  have HW : Aside0 (WordsOf k [T0] [[sA, sB, sA, sC]]) := ⟨by
    refine ⟨by decide, rfl, fun i hi => ?_, fun ws hw => ?_⟩
    · obtain rfl : i = 0 := by simpa using hi
      exact ⟨hW, by decide⟩
    · rw [List.mem_singleton.1 hw]
      exact ⟨by decide, hsm⟩⟩
  have HAC : Aside0 (∀ s ∈ [sA, sC], s.size ≤ maxLen) := ⟨fun s hs => hsm s (by simp at hs ⊢; rcases hs with h | h <;> simp [h])⟩
  clear hsm hW
  have HP : Aside0 (∀ s, (idxP (fun _ => []) 0 [[sA, sB, sA, sC]] s).length ≤ 100000000) := ⟨fun s => by
    have h := idxP_len s [[sA, sB, sA, sC]] (fun _ => []) 0
    have e : idxN [[sA, sB, sA, sC]] = 4 := rfl
    rw [e] at h
    simp only [List.length_nil] at h
    omega⟩
  have HF := Aside0.mk phr_fact
  generalize [[sA, sB, sA, sC]] = wss at *
  go_enter Try.func7, Try.ntmps7
  have hT8 : T0.length = 8 := rfl
  go_upto_region 2 with (first | ((with_reducible refine gate_dst (N := 7) rfl ?_); refine bytelit rfl (N := 7) rfl 46 5 (.tmp 6) rfl T0 _ rfl (by decide) rfl Try.underlying46 Try.underlying5 ?_; intro v1 w1 hv hb hg _; obtain ⟨A7, c7, e7, hc7, hV⟩ := hv; subst e7; have hC7 : Kd.C (Kd.int .u8) w1 A7 8 T0 := hV w1 (fun _ _ _ => rfl); rw [hT8] at hc7 ⊢; have HC7 := Aside0.mk hC7; have HCC7 := Aside0.mk hc7; have HB7 := Aside0.mk hb; clear hV hC7 hc7 hb hg) | (go_at_call 5; refine (word_New.calls k _ _ [T0] wss _ (litT1 _ _ _ HCC7.out HC7.out) (Nat.le_refl _) HW.out).mono ?_; rintro e w2 ⟨gx, rfl, hi, hb⟩; have HI := Aside0.mk hi; have HB := Aside0.mk (below_step (below_step HB7.out (below_alloc (Below.refl _ _) _)) hb); clear hi hb))
  have HAC2 : Aside0 (Kd.C Kd.string (w2.alloc (.cells #[.string sA, .string sC] 9)) (some ⟨w2.heap.size, 0, none⟩) 2 [sA, sC]) := ⟨litAC w2⟩
  have heq : ∀ w' : World, (binOp .eql 39 (.agg #[.int .i64 0, .int .i64 2]) (.agg #[.int .i64 0, .int .i64 2])).run Try.prog w' = .ok (.bool true) w' := fun w' => by kernel_rfl
  go_upto_region 5 with (go_loud (go_at_call 9; refine (word_Index_Phrase.calls _ gx _ _ _ (some ⟨w2.heap.size, 0, none⟩) 2 [sA, sC] (w2.alloc (.cells #[.string sA, .string sC] 9)) (HI.out.below (below_alloc (Below.refl _ _) _)) HAC2.out (Nat.le_refl _) (by decide) (by decide) HAC.out HP.out).mono ?_; rintro e w3 ⟨v3, rfl, hr, hb⟩; rw [HF.out] at hr; obtain ⟨A3, c3, e3⟩ := Kd.R_slice hr; subst e3; obtain ⟨ad3, ea, z0, z1⟩ := at_T39 (Kd.R_reads' hr).2.2 0 (by decide) (by decide); subst ea; have HB3 := Aside0.mk (below_step HB.out (below_step (below_alloc (Below.refl _ _) _) hb)); clear hr hb))
  have ea0 : ad3.add ((0 : Int).toNat * 2) = ad3 := by unfold Addr.add; rw [if_pos (by decide)]
  rw [ea0] at z0 z1
  have za : w3.cell? ad3 = some (.int .i64 0) := z0
  have zb : w3.cell? ⟨ad3.block, ad3.off + 1, none⟩ = some (.int .i64 2) := z1
  have zc : w3.cell? (ad3.add 0) = some (.int .i64 0) := za
  have zd : w3.cell? ⟨(ad3.add 0).block, (ad3.add 0).off + 1, none⟩ = some (.int .i64 2) := zb
  clear z0 z1 ea0
  go_wp2
  go_ret
  exact ⟨rfl, HB3.out⟩

/-! ### word_Index_Order: function 10 -/
/-- One word of an order, in text d: behind place a, if o. -/
def stepO (P : ByteArray → List S39) (d : Int) (s : ByteArray) (a : Int) (o : Bool) : Int × Bool :=
  if (o && decide (bsI (P s) ⟨d, wrap64 (a + 1)⟩ < (P s).length) && decide ((rd_T39 (P s) ((bsI (P s) ⟨d, wrap64 (a + 1)⟩ : Nat) : Int)).f0 = d)) = true then ((rd_T39 (P s) ((bsI (P s) ⟨d, wrap64 (a + 1)⟩ : Nat) : Int)).f1, true) else (a, false)
def ordS (P : ByteArray → List S39) (d : Int) : Int → Bool → List ByteArray → Int × Bool
  | a, o, [] => (a, o)
  | a, o, s :: t => ordS P d (stepO P d s a o).1 (stepO P d s a o).2 t
theorem ordS_snoc (P : ByteArray → List S39) (d : Int) (s : ByteArray) : ∀ (l : List ByteArray) (a : Int) (o : Bool), ordS P d a o (l ++ [s]) = stepO P d s (ordS P d a o l).1 (ordS P d a o l).2
  | [], a, o => rfl
  | x :: t, a, o => ordS_snoc P d s t _ _
def ordE (P : ByteArray → List S39) (ws : List ByteArray) (d : Nat) : List S39 := if (ordS P (d : Int) (-1) true ws).2 = true then [⟨(d : Int), (ordS P (d : Int) (-1) true ws).1⟩] else []
def ordL (P : ByteArray → List S39) (ws : List ByteArray) (n : Nat) : List S39 := (List.range n).flatMap (ordE P ws)
theorem ordL_succ (P : ByteArray → List S39) (ws : List ByteArray) (n : Nat) : ordL P ws (n + 1) = ordL P ws n ++ ordE P ws n := by
  unfold ordL
  rw [List.range_succ, List.flatMap_append]
  simp
theorem ordL_len (P : ByteArray → List S39) (ws : List ByteArray) : ∀ n : Nat, (ordL P ws n).length ≤ n
  | 0 => Nat.le_refl _
  | n + 1 => by
    have := ordL_len P ws n
    have h2 : (ordE P ws n).length ≤ 1 := by unfold ordE; split <;> simp
    rw [ordL_succ, List.length_append]
    omega
theorem IsIdx.sizes {m0 gx : Nat} {P : ByteArray → List S39} {Z : List Int} {N : Nat} {w : World} (hI : IsIdx m0 w gx P Z N) : ∃ A c, w.cell? ⟨gx, 1, none⟩ = some (.slice A Z.length c) := by
  obtain ⟨b, hdr, AZ, cZ, h1, -⟩ := hI
  exact ⟨AZ, cZ, (blk_cell h1 1).trans rfl⟩
set_option maxHeartbeats 4000000 in
set_option maxRecDepth 100000 in
theorem word_Index_Order.calls (m0 gx : Nat) (P : ByteArray → List S39) (Z : List Int) (N : Nat) (A1 : Option Addr) (c1 : Nat) (ws : List ByteArray) (w : World) (hI : IsIdx m0 w gx P Z N) (hr : Kd.C Kd.string w A1 ws.length ws) (hc : ws.length ≤ c1) (h1 : 1 ≤ ws.length) (h8 : ws.length ≤ 8) (hs : ∀ s ∈ ws, s.size ≤ maxLen) (hP : ∀ s, (P s).length ≤ 100000000) (hZ : Z.length ≤ 1000) :
    Calls Try.prog 10 #[.pointer (some ⟨gx, 0, none⟩), .slice A1 ws.length c1] w fun e w' => ∃ v : Value, e = .returned (.tuple #[v, .int .i64 0]) ∧ Kd.R k39 39 w' w.heap.size (fun _ => True) v (ordL P ws Z.length) ∧ Below w.heap.size w w' := by
  have HR := Aside0.mk hr
  have HC := Aside0.mk hc
  have HS := Aside0.mk hs
  have HP := Aside0.mk hP
  have HK0 : Aside0 (word_check.f ws = some 0) := ⟨by unfold word_check.f; rw [if_neg (by omega), if_neg (by omega)]⟩
  obtain ⟨b, x0, hrow⟩ := hI.row
  obtain ⟨AZ, cZ, x1⟩ := hI.sizes
  have HROW := Aside0.mk hrow
  clear hI hr hc hs hP hrow
  generalize Z.length = nz at *
  go_enter Try.func10, Try.ntmps10
  go_upto_region 5 with (go_at_call 23; refine (word_check.calls _ _ ws 0 _ HR.out HC.out HK0.out).mono ?_; rintro e w1 ⟨rfl, hd⟩; have hb1 : Below w.heap.size w w1 := (by first | exact hd | exact drawn_below hd))
  have X0 := Aside0.mk x0
  have xz : w1.cell? ⟨gx, 1, none⟩ = some (.slice AZ nz cZ) := (hb1.cell (World.block_lt_of_cell? w _ x1)).trans x1
  have HB1 := Aside0.mk hb1
  clear hd hb1 x0 x1
  go_wp2
  go_loopg [7, 26] nz (fun gg v7 s26 wr => ∃ (kk : Nat) (A7 : Option Addr) (c7 n7 : Nat), kk ≤ nz ∧ nz - kk ≤ gg ∧ v7 = .slice A7 n7 c7 ∧ s26 = .int .i64 kk ∧ Aside0 (Kd.R k39 39 wr w.heap.size (fun _ => True) (.slice A7 n7 c7) (ordL P ws kk)) ∧ Aside0 (Below w.heap.size w wr))
  case atStart => exact ⟨0, none, 0, 0, Nat.zero_le _, by omega, rfl, rfl, ⟨Kd.R_nil _ _ _ _ _⟩, HB1⟩
  case round =>
    obtain ⟨kk, A7, c7, n7, hkk, hg, rfl, rfl, HO7, HB3⟩ := hrel
    clear xz
    by_cases hlt : kk < nz
    · have hltz : (kk : Int) < (nz : Int) := by omega
      have h0 : (0 : Int) ≤ (kk : Int) := by omega
      have hst := ordL_succ P ws kk
      obtain ⟨acc1, hac⟩ : ∃ z, ordL P ws (kk + 1) = z := ⟨_, rfl⟩
      rw [hac] at hst
      have HST := Aside0.mk hst
      have HAC := Aside0.mk hac
      clear hst hac
      have HLN := Aside0.mk (ordL_len P ws kk)
      have HE : Aside0 (ordE P ws kk = if (ordS P (kk : Int) (-1) true ws).2 = true then [⟨(kk : Int), (ordS P (kk : Int) (-1) true ws).1⟩] else []) := ⟨rfl⟩
      generalize ordL P ws kk = acc at *
      generalize ordE P ws kk = ee at *
      obtain ⟨W9, hW9⟩ : ∃ W, W = wr := ⟨_, rfl⟩
      subst hW9
      go_wp2
      go_loopg [9, 10, 31] ws.length (fun gg v9 v10 s31 wr => ∃ (jj : Nat) (a : Int) (o : Bool), jj ≤ ws.length ∧ ws.length - jj ≤ gg ∧ v9 = .int .i64 a ∧ v10 = .bool o ∧ s31 = .int .i64 jj ∧ Aside0 (ordS P (kk : Int) (-1) true (ws.take jj) = (a, o)) ∧ Aside0 (Below W9.heap.size W9 wr))
      case atStart => exact ⟨0, -1, true, Nat.zero_le _, by omega, rfl, rfl, rfl, ⟨rfl⟩, ⟨Below.refl _ _⟩⟩
      case round =>
        obtain ⟨jj, a, o, hjj, hgj, rfl, rfl, rfl, HA, HBX⟩ := hrel
        have HBW : Aside0 (Below w.heap.size w wr) := ⟨below_step HB3.out HBX.out⟩
        by_cases hlj : jj < ws.length
        · have hljz : (jj : Int) < (ws.length : Int) := by omega
          have h0j : (0 : Int) ≤ (jj : Int) := by omega
          obtain ⟨adw, ew, z0⟩ := Kd.at_string HR.out (jj : Int) h0j hljz
          subst ew
          have hrdw : rdOf ByteArray.empty ws (jj : Int) = ws[jj] := by unfold rdOf; rw [Int.toNat_natCast, List.getD_eq_getElem?_getD, List.getElem?_eq_getElem hlj]; rfl
          rw [hrdw, Int.toNat_natCast] at z0
          have hstw : ordS P (kk : Int) (-1) true (ws.take (jj + 1)) = stepO P (kk : Int) ws[jj] a o := by
            rw [List.take_add_one, List.getElem?_eq_getElem hlj]
            show ordS P _ _ _ (ws.take jj ++ [ws[jj]]) = _
            rw [ordS_snoc, HA.out]
          have hsw := HS.out _ (List.getElem_mem hlj)
          obtain ⟨A2, c2, hlk2, hC2, hc2⟩ := HROW.out _ hsw
          have hP2 := HP.out ws[jj]
          unfold stepO at hstw
          clear hrdw hsw
          generalize ws[jj] = s at *
          obtain ⟨F, hF⟩ : ∃ F, P s = F := ⟨_, rfl⟩
          rw [hF] at hlk2 hC2 hc2 hstw hP2
          clear hF
          replace z0 := (HBW.out.cell (World.block_lt_of_cell? w _ z0)).trans z0
          have x0 : wr.cell? ⟨gx, 0, none⟩ = some (.map (some b)) := (HBW.out.cell (World.block_lt_of_cell? w _ X0.out)).trans X0.out
          have lk : (Instr.lookup 55 (.map (some b)) (.string s) false).run Try.prog wr = .ok (.slice A2 F.length c2) wr := hlk2 wr HBW.out
          obtain ⟨i2, hi2⟩ : ∃ i2 : Nat, bsI F ⟨(kk : Int), wrap64 (a + 1)⟩ = i2 := ⟨_, rfl⟩
          rw [hi2] at hstw
          have HCALL : Aside0 (∀ W, Below w.heap.size w W → Calls Try.prog 24 #[.slice A2 F.length c2, .agg #[.int .i64 (kk : Int), .int .i64 (wrap64 (a + 1))], .func (.func 25) #[] #[]] W fun e w' => ∃ b2, e = .returned (.tuple #[.int .i64 (i2 : Int), .bool b2]) ∧ Below W.heap.size W w') := ⟨fun W hb => by
            have h := word_Place_24.calls A2 c2 F ⟨(kk : Int), wrap64 (a + 1)⟩ W (Kd.C_below hC2 hb) hc2 (by omega)
            rw [hi2] at h
            exact h.mono fun e w' ⟨h1, h2⟩ => ⟨_, h1, h2⟩⟩
          have HC2 := Aside0.mk hC2
          have HFL : Aside0 (F.length ≤ 100000000) := ⟨hP2⟩
          clear hi2 hC2 hc2 hP2 hlk2
          cases o with
          | false =>
            have HN : Aside0 (ordS P (kk : Int) (-1) true (ws.take (jj + 1)) = (a, false)) := ⟨by rw [hstw]; rfl⟩
            clear hstw
            go_wp2_with (go_at_call 24; (with_reducible refine (HCALL.out _ HBW.out).mono ?_); rintro e w7 ⟨b2, rfl, hb⟩; have HB7 := Aside0.mk hb; clear hb)
            go_roundg (ws.length - (jj + 1))
            case measure => omega
            case rel => exact ⟨jj + 1, a, false, by omega, by omega, rfl, rfl, by go_num, HN, ⟨below_step HBX.out HB7.out⟩⟩
          | true =>
            rw [Bool.true_and] at hstw
            by_cases hi : i2 < F.length
            · have hiz : (i2 : Int) < (F.length : Int) := by omega
              have hi0 : (0 : Int) ≤ (i2 : Int) := by omega
              obtain ⟨adf, ef, y0, y1⟩ := at_T39 HC2.out (i2 : Int) hi0 hiz
              subst ef
              rw [Int.toNat_natCast] at y0 y1
              rw [decide_eq_true hi, Bool.true_and] at hstw
              obtain ⟨⟨f0, f1⟩, hf⟩ : ∃ f, rd_T39 F (i2 : Int) = f := ⟨_, rfl⟩
              rw [hf] at y0 y1 hstw
              simp only at y0 y1 hstw
              clear hf
              have HST2 := Aside0.mk hstw
              have HY : Aside0 (∀ w', Below wr.heap.size wr w' → w'.cell? (adf.add (i2 * 2)) = some (.int .i64 f0) ∧ w'.cell? ⟨(adf.add (i2 * 2)).block, (adf.add (i2 * 2)).off + 1, none⟩ = some (.int .i64 f1)) := ⟨fun w' h => ⟨((below_step HBW.out h).cell (World.block_lt_of_cell? w _ y0)).trans y0, ((below_step HBW.out h).cell (World.block_lt_of_cell? w _ y1)).trans y1⟩⟩
              clear y0 y1 hstw
              by_cases hd : f0 = (kk : Int)
              · have HN : Aside0 (ordS P (kk : Int) (-1) true (ws.take (jj + 1)) = (f1, true)) := ⟨by rw [HST2.out, decide_eq_true hd]; rfl⟩
                subst hd
                go_upto_region 14 with (go_at_call 24; (with_reducible refine (HCALL.out _ HBW.out).mono ?_); rintro e w7 ⟨b2, rfl, hb⟩; obtain ⟨y0, y1⟩ := HY.out _ hb; have HB7 := Aside0.mk hb; clear hb)
                go_wp2
                go_roundg (ws.length - (jj + 1))
                case measure => omega
                case rel => exact ⟨jj + 1, f1, true, by omega, by omega, rfl, rfl, by go_num, HN, ⟨below_step HBX.out HB7.out⟩⟩
              · have HN : Aside0 (ordS P (kk : Int) (-1) true (ws.take (jj + 1)) = (a, false)) := ⟨by rw [HST2.out, decide_eq_false hd]; rfl⟩
                have hdd : (f0 == (kk : Int)) = false := by simp [hd]
                go_upto_region 14 with (go_at_call 24; (with_reducible refine (HCALL.out _ HBW.out).mono ?_); rintro e w7 ⟨b2, rfl, hb⟩; obtain ⟨y0, y1⟩ := HY.out _ hb; have HB7 := Aside0.mk hb; clear hb)
                go_wp2
                go_roundg (ws.length - (jj + 1))
                case measure => omega
                case rel => exact ⟨jj + 1, a, false, by omega, by omega, rfl, rfl, by go_num, HN, ⟨below_step HBX.out HB7.out⟩⟩
            · have hiz : ¬ (i2 : Int) < (F.length : Int) := by omega
              rw [decide_eq_false hi, Bool.false_and] at hstw
              have HN : Aside0 (ordS P (kk : Int) (-1) true (ws.take (jj + 1)) = (a, false)) := ⟨by rw [hstw]; rfl⟩
              clear hstw
              go_wp2_with (go_at_call 24; (with_reducible refine (HCALL.out _ HBW.out).mono ?_); rintro e w7 ⟨b2, rfl, hb⟩; have HB7 := Aside0.mk hb; clear hb)
              go_roundg (ws.length - (jj + 1))
              case measure => omega
              case rel => exact ⟨jj + 1, a, false, by omega, by omega, rfl, rfl, by go_num, HN, ⟨below_step HBX.out HB7.out⟩⟩
        · have hljz : ¬ (jj : Int) < (ws.length : Int) := by omega
          have hj : jj = ws.length := by omega
          have ha := HA.out
          rw [hj, List.take_length] at ha
          have hE := HE.out
          rw [ha] at hE
          have HOX := Aside0.mk (Kd.R_below HO7.out HBX.out)
          have HK2 : Aside0 ((acc.length + 1) * 16 ≤ 140737488355328) := ⟨by have := HLN.out; omega⟩
          have HSZ : Aside0 (w.heap.size ≤ wr.heap.size) := ⟨HBW.out.size⟩
          have HK1 : Aside0 (wrap64 ((kk : Int) + 1) = ((kk + 1 : Nat) : Int)) := ⟨by unfold wrap64; omega⟩
          have HEE := Aside0.mk hE
          clear hj ha hE
          cases o with
          | false =>
            have HOY : Aside0 (Kd.R k39 39 wr w.heap.size (fun _ => True) (.slice A7 n7 c7) acc1) := ⟨by rw [HST.out, HEE.out]; simpa using HOX.out⟩
            go_wp2
            go_roundg (nz - (kk + 1))
            case measure => omega
            case rel => exact ⟨kk + 1, A7, c7, n7, by omega, by omega, rfl, by go_num, ⟨by rw [HAC.out]; exact HOY.out⟩, HBW⟩
          | true =>
            have HEQ : Aside0 (acc ++ [(⟨(kk : Int), a⟩ : S39)] = acc1) := ⟨by rw [HST.out, HEE.out]; simp⟩
            go_wp2_with (first | ((with_reducible refine gate_builtin (b := .append) (xs := #[.tmp 74, .tmp 78]) rfl ?_); at_builtin; refine Kd.R_append k39 (w0 := w) (W := wr) w.heap.size rfl (.tmp 74) (.tmp 78) 33 39 (.agg #[(.int .i64 0), (.int .i64 0)]) 16 rfl Try.underlying33 info39 rfl (by decide) (by omega) (.slice A7 n7 c7) acc (⟨(kk : Int), a⟩ : S39) [.int .i64 (kk : Int), .int .i64 a] (fun _ => True) (fun _ => False) rfl rfl (k39_mkM _ _ _ _) (fun _ hk => hk.elim) (fun _ _ => trivial) HOX.out HBW.out HSZ.out HK2.out ?_; intro v1 wa ho hb hg hat; rw [HEQ.out] at ho; obtain ⟨A3, c3, e3⟩ := Kd.R_slice ho; subst e3; generalize acc1.length = n3 at ho ⊢; have HO3 := Aside0.mk ho; have HB5 := Aside0.mk hb; clear ho hb hg hat))
            go_roundg (nz - (kk + 1))
            case measure => omega
            case rel => exact ⟨kk + 1, A3, c3, n3, by omega, by omega, rfl, by go_num, ⟨by rw [HAC.out]; exact HO3.out⟩, HB5⟩
    · have hltz : ¬ (kk : Int) < (nz : Int) := by omega
      have hk : kk = nz := by omega
      subst hk
      go_wp2
      go_ret2
      exact ⟨_, rfl, HO7.out, HB3.out⟩

end Go.Proofs.Ytchjgjpoephljaa.PWordChain
