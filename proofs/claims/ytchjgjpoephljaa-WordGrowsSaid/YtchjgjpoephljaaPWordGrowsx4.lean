-- written by prn.py, a program of this session, over the kit's printer
import Derived.Test.YtchjgjpoephljaaPWordGrowsx0
import Derived.Test.YtchjgjpoephljaaPWordGrowsx2
import Derived.Test.YtchjgjpoephljaaPWordGrowsx3
namespace Go.Proofs.Ytchjgjpoephljaa.PWordGrows
open Go.RowKit Go.Proofs.YtchjgjpoephljaaW.PrintWords Go.Proofs.YtchjgjpoephljaaW.PrintLast Go.Proofs.YtchjgjpoephljaaW.PrintMore Go.Proofs.YtchjgjpoephljaaW.PrintMine
attribute [local go_sem] max2_int min2_int max_two min_two max_three min_three max_four min_four   -- for this text's walks alone
set_option linter.unusedVariables false
set_option linter.unusedSimpArgs false

/-! ### word_Place_24: function 24 -/
theorem keep4 {p0 p1 p2 p3 : Addr} {a0 a1 a2 a3 : Value} {W w' : World} (z0 : W.cell? p0 = some a0) (z1 : W.cell? p1 = some a1) (z2 : W.cell? p2 = some a2) (z3 : W.cell? p3 = some a3) (h : Below W.heap.size W w') : w'.cell? p0 = some a0 ∧ w'.cell? p1 = some a1 ∧ w'.cell? p2 = some a2 ∧ w'.cell? p3 = some a3 ∧ Below W.heap.size W w' :=
  ⟨(h.cell (World.block_lt_of_cell? W _ z0)).trans z0, (h.cell (World.block_lt_of_cell? W _ z1)).trans z1, (h.cell (World.block_lt_of_cell? W _ z2)).trans z2, (h.cell (World.block_lt_of_cell? W _ z3)).trans z3, h⟩
theorem goesv_ {ops : Array Oper} {Q : Exit → Act → World → Prop} {oi : Oper} {N : Option Tmp} {a : Act} {w : World} {K : Act → World → Prop} {f : FuncId} {fn : Func} {i : Tmp} {as_ : Array Operand} {ts : Array TypeId} (hf : Try.prog.funcs[f]? = some fn) (hname : (fn.name == "runtime.NumGoroutine") = false) (hb : fn.body.isSome = true) (args : Array Value)
    (hw : Region.wanted oi (yielded ops a.tmps) = true) (hN : oi.dst = N) (hop : oi.op = .call { callee := .value (.tmp i), args := as_, argTypes := ts }) (hv : a.eval (.tmp i) = .func (.func f) #[] #[]) (hargs : as_.map a.eval = args)
    (h : Calls Try.prog f args w fun e w' => ∃ v, e = .returned v ∧ K (a.put N v) w') : if Region.wanted oi (yielded ops a.tmps) = true then Oper.wp Try.prog oi a w K Q else K (a.put N undef) w := by
  refine call_ f args hw hN ?_ h
  have he := enters_ hf hname hb args w
  unfold execOp
  simp [hop, resolve, Deferred.ofValue, invoke, hv, hargs, he]
theorem held_step {w w1 w2 : World} (h : Below w.heap.size w w1) (hb : Below w1.heap.size w1 w2) : Below w.heap.size w w2 := below_step h hb
def cmpP (p q : S39) : Int := if p.f0 = q.f0 then wrap64 (p.f1 - q.f1) else wrap64 (p.f0 - q.f0)
/-- Where the halves meet: d rounds at most. -/
def bsP (F : List S39) (t : S39) : Nat → Nat → Nat → Nat
  | 0, i, _ => i
  | d + 1, i, j => if i < j then (if cmpP (rd_T39 F (((i + j) / 2 : Nat) : Int)) t < 0 then bsP F t d ((i + j) / 2 + 1) j else bsP F t d i ((i + j) / 2)) else i
theorem bsP_le (F : List S39) (t : S39) : ∀ (d i j : Nat), i ≤ j → bsP F t d i j ≤ j
  | 0, _, _, h => h
  | d + 1, i, j, h => by
    unfold bsP
    split
    · split
      · exact bsP_le F t d _ j (by omega)
      · exact Nat.le_trans (bsP_le F t d i _ (by omega)) (by omega)
    · exact h
def bsI (F : List S39) (t : S39) : Nat := bsP F t F.length 0 F.length
def bsB (F : List S39) (t : S39) : Bool := decide (bsI F t < F.length) && (cmpP (rd_T39 F ((bsI F t : Nat) : Int)) t == 0)
theorem word_Place_24.cmp (p0 p1 q0 q1 : Int) (w : World) : Calls Try.prog 25 #[.agg #[.int .i64 p0, .int .i64 p1], .agg #[.int .i64 q0, .int .i64 q1]] w fun e w' => e = .returned (.int .i64 (cmpP ⟨p0, p1⟩ ⟨q0, q1⟩)) ∧ Below w.heap.size w w' := by
  refine (word_compare.calls p0 p1 q0 q1 (cmpP ⟨p0, p1⟩ ⟨q0, q1⟩) w (by unfold word_compare.f cmpP; simp only; split <;> rfl)).mono ?_
  rintro e w' ⟨rfl, hd⟩
  exact ⟨rfl, by first | exact hd | exact drawn_below hd⟩
set_option maxHeartbeats 4000000 in
set_option maxRecDepth 100000 in
theorem word_Place_24.calls (A0 : Option Addr) (c0 : Nat) (l0 : List S39) (t : S39) (w : World) (hr0 : Kd.C k39 w A0 l0.length l0) (hc0 : l0.length ≤ c0) (hl : l0.length ≤ 1000000000) :
    Calls Try.prog 24 #[.slice A0 l0.length c0, .agg #[.int .i64 t.f0, .int .i64 t.f1], .func (.func 25) #[] #[]] w fun e w' => e = .returned (.tuple #[.int .i64 (bsI l0 t), .bool (bsB l0 t)]) ∧ Below w.heap.size w w' := by
  obtain ⟨I, hI⟩ : ∃ I, bsI l0 t = I := ⟨_, rfl⟩
  obtain ⟨r2, e2⟩ : ∃ r, bsB l0 t = r := ⟨_, rfl⟩
  have e2' := e2
  unfold bsB at e2'
  rw [hI] at e2'
  rw [hI, e2]
  have HIL := Aside0.mk (show I ≤ l0.length from hI ▸ bsP_le l0 t l0.length 0 l0.length (Nat.zero_le _))
  have HI := Aside0.mk (show bsP l0 t l0.length 0 l0.length = I from hI)
  have HR := Aside0.mk hr0
  have E2 := Aside0.mk e2'
  clear hI hr0 hc0 e2 e2'
  obtain ⟨q0, q1⟩ := t
  go_enter Try.func24, Try.ntmps24
  go_upto_region 2 with (first | ((with_reducible refine gate_dst (N := 4) rfl ?_); refine box_event ?hg (N := 4) ?hd (cs := #[.int .i64 q0, .int .i64 q1]) (t := 39) ?hr ?_; (case hd => rfl); (case hg => rfl); (case hr => first | (go_simp; done) | (go_simp; rfl)); intro gb hg w2 hbox hb; have BK := Aside0.mk hbox; have HB := Aside0.mk hb; clear hb hbox hg))
  go_wp2
  go_loopw [9, 10] (fun i j wr => ∃ (x y d : Nat), x ≤ y ∧ y ≤ l0.length ∧ y - x ≤ d ∧ Aside0 (bsP l0 ⟨q0, q1⟩ d x y = I) ∧ i = .int .i64 x ∧ j = .int .i64 y ∧ Aside0 (Below w2.heap.size w2 wr)) (fun i j _ => (intOf j).toNat - (intOf i).toNat)
  case atStart => exact ⟨0, l0.length, l0.length, Nat.zero_le _, Nat.le_refl _, by omega, HI, rfl, rfl, ⟨Below.refl _ _⟩⟩
  case round =>
    obtain ⟨x, y, d, h1, h2, h3, H4, rfl, rfl, HBr⟩ := hrel
    have HBW : Aside0 (Below w.heap.size w wr) := ⟨below_step HB.out HBr.out⟩
    have BK2 := blk_below BK.out HBr.out
    have t0 : wr.cell? ⟨gb, 0, none⟩ = some (.int .i64 q0) := (blk_cell BK2 0).trans rfl
    have t1 : wr.cell? ⟨gb, 1, none⟩ = some (.int .i64 q1) := (blk_cell BK2 1).trans rfl
    clear BK2
    by_cases hlt : x < y
    · obtain ⟨m, hm⟩ : ∃ m, (x + y) / 2 = m := ⟨_, rfl⟩
      obtain ⟨d, rfl⟩ : ∃ d', d = d' + 1 := ⟨d - 1, by omega⟩
      have h4 := H4.out
      unfold bsP at h4
      rw [if_pos hlt, hm] at h4
      obtain ⟨ad, e1, y0, y1⟩ := at_T39 HR.out (m : Int) (by omega) (by omega)
      cases e1
      rw [Int.toNat_natCast] at y0 y1
      replace y0 := (HBW.out.cell (World.block_lt_of_cell? w _ y0)).trans y0
      replace y1 := (HBW.out.cell (World.block_lt_of_cell? w _ y1)).trans y1
      obtain ⟨⟨f0, f1⟩, hf⟩ : ∃ f, rd_T39 l0 (m : Int) = f := ⟨_, rfl⟩
      rw [hf] at y0 y1 h4
      simp only at y0 y1
      clear hf
      have hm1 : m ≤ l0.length := by omega
      have hm2 : x ≤ m ∧ m < y := by omega
      go_upto_region 5 with (fail)
      have em : ((x : Int) + (y : Int)) / 2 = (m : Int) := by omega
      rw [em]
      clear em
      have HK : Aside0 (∀ w', Below wr.heap.size wr w' → w'.cell? (ad.add (m * 2)) = some (.int .i64 f0) ∧ w'.cell? ⟨(ad.add (m * 2)).block, (ad.add (m * 2)).off + 1, none⟩ = some (.int .i64 f1) ∧ w'.cell? ⟨gb, 0, none⟩ = some (.int .i64 q0) ∧ w'.cell? ⟨gb, 1, none⟩ = some (.int .i64 q1) ∧ Below wr.heap.size wr w') := ⟨fun w' h => keep4 y0 y1 t0 t1 h⟩
      by_cases hc : cmpP ⟨f0, f1⟩ ⟨q0, q1⟩ < 0
      · rw [if_pos hc] at h4
        have H4' := Aside0.mk h4
        clear H4 h4
        have u1 : decide (cmpP ⟨f0, f1⟩ ⟨q0, q1⟩ < 0) = true := decide_eq_true hc
        clear hc
        go_region_with (go_at_call 25; refine (word_Place_24.cmp f0 f1 q0 q1 _).mono ?_; rintro e w3 ⟨rfl, hb⟩; have HB2 : Aside0 (Below w2.heap.size w2 w3) := ⟨below_step HBr.out (below_step (by repeat (first | assumption | exact Below.refl _ _ | apply below_drew1)) hb)⟩; clear hb)
        all_goals
          go_wp2
          go_roundw
          case rel => exact ⟨m + 1, y, d, by omega, by omega, by omega, H4', by go_num, rfl, HB2⟩
          case measure => simp [intOf]; omega
      · rw [if_neg hc] at h4
        have H4' := Aside0.mk h4
        clear H4 h4
        have u1 : decide (cmpP ⟨f0, f1⟩ ⟨q0, q1⟩ < 0) = false := decide_eq_false hc
        clear hc
        go_region_with (go_at_call 25; refine (word_Place_24.cmp f0 f1 q0 q1 _).mono ?_; rintro e w3 ⟨rfl, hb⟩; have HB2 : Aside0 (Below w2.heap.size w2 w3) := ⟨below_step HBr.out (below_step (by repeat (first | assumption | exact Below.refl _ _ | apply below_drew1)) hb)⟩; clear hb)
        all_goals
          go_wp2
          go_roundw
          case rel => exact ⟨x, m, d, by omega, by omega, by omega, H4', rfl, rfl, HB2⟩
          case measure => simp [intOf]; omega
    · have h4 : I = x := by
        have := H4.out
        cases d with
        | zero => exact this.symm
        | succ d => unfold bsP at this; rw [if_neg hlt] at this; exact this.symm
      subst h4
      clear H4
      have u0 : decide ((I : Int) < (y : Int)) = false := decide_eq_false (by omega)
      have u0b : decide (I < y) = false := decide_eq_false hlt
      have e2 := E2.out
      by_cases hI2 : I < l0.length
      · obtain ⟨ad, e1, y0, y1⟩ := at_T39 HR.out (I : Int) (by omega) (by omega)
        cases e1
        rw [Int.toNat_natCast] at y0 y1
        replace y0 := (HBW.out.cell (World.block_lt_of_cell? w _ y0)).trans y0
        replace y1 := (HBW.out.cell (World.block_lt_of_cell? w _ y1)).trans y1
        obtain ⟨⟨f0, f1⟩, hf⟩ : ∃ f, rd_T39 l0 (I : Int) = f := ⟨_, rfl⟩
        rw [hf] at y0 y1 e2
        simp only at y0 y1
        clear hf
        rw [decide_eq_true hI2, Bool.true_and] at e2
        obtain ⟨z, hz⟩ : ∃ z, cmpP ⟨f0, f1⟩ ⟨q0, q1⟩ = z := ⟨_, rfl⟩
        have C := word_Place_24.cmp f0 f1 q0 q1
        rw [hz] at e2 C
        have CC := Aside0.mk C
        subst e2
        have u3 : decide ((I : Int) < (l0.length : Int)) = true := decide_eq_true (by omega)
        have u4 : decide (I < l0.length) = true := decide_eq_true hI2
        clear C hz hlt E2
        go_upto_region 8 with (fail)
        refine start_ (n := 16) (S := fun w' => w'.cell? (ad.add (I * 2)) = some (.int .i64 f0) ∧ w'.cell? ⟨(ad.add (I * 2)).block, (ad.add (I * 2)).off + 1, none⟩ = some (.int .i64 f1) ∧ w'.cell? ⟨gb, 0, none⟩ = some (.int .i64 q0) ∧ w'.cell? ⟨gb, 1, none⟩ = some (.int .i64 q1) ∧ Below wr.heap.size wr w') (ds := []) #[false, false, false, false, false, false, false, false, false, false, false, false, false, false, false, false] (by kernel_rfl) rfl rfl ⟨(keep4 y0 y1 t0 t1 (below_drew1 (Below.refl wr.heap.size wr))).1, (keep4 y0 y1 t0 t1 (below_drew1 (Below.refl wr.heap.size wr))).2.1, (keep4 y0 y1 t0 t1 (below_drew1 (Below.refl wr.heap.size wr))).2.2.1, (keep4 y0 y1 t0 t1 (below_drew1 (Below.refl wr.heap.size wr))).2.2.2.1, (keep4 y0 y1 t0 t1 (below_drew1 (Below.refl wr.heap.size wr))).2.2.2.2⟩ (fun hHeld => ?_)
        refine pure_ (i := 0) (N := some 35) (v := ?_) (a' := ?_) #[true, false, false, false, false, false, false, false, false, false, false, false, false, false, false, false] rfl rfl (by kernel_rfl) (fun _ _ _ h => h) (Or.inl ⟨by rfl, ?_⟩) ?_ ?_
        rotate_left
        · intro w'
          go_simp
          with_reducible rfl
        rotate_left
        · simp only [Act.put, List.setIfInBounds_toArray, List.set_cons_zero, List.set_cons_succ, i64_w, i32_w]
          rfl
        refine pure_ (i := 1) (N := some 36) (v := ?_) (a' := ?_) #[true, true, false, false, false, false, false, false, false, false, false, false, false, false, false, false] rfl rfl (by kernel_rfl) (fun _ _ _ h => h) (Or.inl ⟨by rfl, ?_⟩) ?_ ?_
        rotate_left
        · intro w'
          go_simp
          with_reducible rfl
        rotate_left
        · simp only [Act.put, List.setIfInBounds_toArray, List.set_cons_zero, List.set_cons_succ, i64_w, i32_w]
          rfl
        refine pure_ (i := 2) (N := some 37) (v := ?_) (a' := ?_) #[true, true, true, false, false, false, false, false, false, false, false, false, false, false, false, false] rfl rfl (by kernel_rfl) (fun _ _ _ h => h) (Or.inl ⟨by rfl, ?_⟩) ?_ ?_
        rotate_left
        · intro w'
          go_simp
          with_reducible rfl
        rotate_left
        · simp only [Act.put, List.setIfInBounds_toArray, List.set_cons_zero, List.set_cons_succ, i64_w, i32_w]
          rfl
        refine pure_ (i := 3) (N := some 38) (v := ?_) (a' := ?_) #[true, true, true, true, false, false, false, false, false, false, false, false, false, false, false, false] rfl rfl (by kernel_rfl) (fun _ _ _ h => h) (Or.inl ⟨by rfl, ?_⟩) ?_ ?_
        rotate_left
        · intro w'
          go_simp
          with_reducible rfl
        rotate_left
        · simp only [Act.put, List.setIfInBounds_toArray, List.set_cons_zero, List.set_cons_succ, i64_w, i32_w]
          rfl
        refine pure_ (i := 4) (N := some 39) (v := ?_) (a' := ?_) #[true, true, true, true, true, false, false, false, false, false, false, false, false, false, false, false] rfl rfl (by kernel_rfl) (fun _ _ _ h => h) (Or.inl ⟨by rfl, ?_⟩) ?_ ?_
        rotate_left
        · intro w'
          go_simp
          with_reducible rfl
        rotate_left
        · simp only [Act.put, List.setIfInBounds_toArray, List.set_cons_zero, List.set_cons_succ, i64_w, i32_w]
          rfl
        refine pure_ (i := 5) (N := some 40) (v := ?_) (a' := ?_) #[true, true, true, true, true, true, false, false, false, false, false, false, false, false, false, false] rfl rfl (by kernel_rfl) (fun _ _ _ h => h) (Or.inl ⟨by rfl, ?_⟩) ?_ ?_
        rotate_left
        · intro w'
          go_simp
          with_reducible rfl
        rotate_left
        · simp only [Act.put, List.setIfInBounds_toArray, List.set_cons_zero, List.set_cons_succ, i64_w, i32_w]
          rfl
        refine pure_ (i := 6) (N := some 41) (v := ?_) (a' := ?_) #[true, true, true, true, true, true, true, false, false, false, false, false, false, false, false, false] rfl rfl (by kernel_rfl) (fun _ _ _ h => h) (Or.inl ⟨by rfl, ?_⟩) ?_ ?_
        rotate_left
        · intro w'
          go_simp
          with_reducible rfl
        rotate_left
        · simp only [Act.put, List.setIfInBounds_toArray, List.set_cons_zero, List.set_cons_succ, i64_w, i32_w]
          rfl
        refine pure_ (i := 7) (N := some 42) (v := ?_) (a' := ?_) #[true, true, true, true, true, true, true, true, false, false, false, false, false, false, false, false] rfl rfl (by kernel_rfl) (fun _ _ _ h => h) (Or.inl ⟨by rfl, ?_⟩) ?_ ?_
        rotate_left
        · intro w'
          go_simp
          with_reducible rfl
        rotate_left
        · simp only [Act.put, List.setIfInBounds_toArray, List.set_cons_zero, List.set_cons_succ, i64_w, i32_w]
          rfl
        refine pure_ (i := 8) (N := some 43) (v := ?_) (a' := ?_) #[true, true, true, true, true, true, true, true, true, false, false, false, false, false, false, false] rfl rfl (by kernel_rfl) (fun _ _ _ h => h) (Or.inl ⟨by rfl, ?_⟩) ?_ ?_
        rotate_left
        · intro w'
          go_simp
          with_reducible rfl
        rotate_left
        · simp only [Act.put, List.setIfInBounds_toArray, List.set_cons_zero, List.set_cons_succ, i64_w, i32_w]
          rfl
        refine take_ (i := 9) (N := some 44) (v := ?_) (a' := ?_) #[true, true, true, true, true, true, true, true, true, true, false, false, false, false, false, false] rfl rfl (by kernel_rfl) (fun _ _ _ h => h) (Or.inl ⟨by rfl, ?_⟩) hHeld ?_ ?_
        rotate_left
        · rintro w' ⟨s0, s1, s2, s3, s4⟩
          go_simp
          with_reducible rfl
        rotate_left
        · simp only [Act.put, List.setIfInBounds_toArray, List.set_cons_zero, List.set_cons_succ, i64_w, i32_w]
          rfl
        refine take_ (i := 10) (N := some 45) (v := ?_) (a' := ?_) #[true, true, true, true, true, true, true, true, true, true, true, false, false, false, false, false] rfl rfl (by kernel_rfl) (fun _ _ _ h => h) (Or.inl ⟨by rfl, ?_⟩) hHeld ?_ ?_
        rotate_left
        · rintro w' ⟨s0, s1, s2, s3, s4⟩
          go_simp
          with_reducible rfl
        rotate_left
        · simp only [Act.put, List.setIfInBounds_toArray, List.set_cons_zero, List.set_cons_succ, i64_w, i32_w]
          rfl
        refine one_ (i := 11) (N := some 46) #[true, true, true, true, true, true, true, true, true, true, true, true, false, false, false, false] rfl rfl (by kernel_rfl) (by decide) (fun K hK => ?_)
        refine goesv_ Try.func25 (by kernel_rfl) rfl #[.agg #[.int .i64 f0, .int .i64 f1], .agg #[.int .i64 q0, .int .i64 q1]] (by rfl) rfl rfl (by rfl) (by simp only [List.map_toArray, List.map_cons, List.map_nil]; rfl) ?_
        with_reducible refine (CC.out _).mono ?_
        rintro e w8 ⟨rfl, hb⟩
        refine ⟨_, rfl, ?_⟩
        have hbn := held_step hHeld.2.2.2.2 hb
        have h8 := keep4 y0 y1 t0 t1 hbn
        refine hK.out _ _ ⟨h8.1, h8.2.1, h8.2.2.1, h8.2.2.2.1, h8.2.2.2.2⟩ (fun hHeld => ?_)
        clear hK K
        refine norm_ (a' := ?_) ?_ ?_
        rotate_left
        · show Act.put _ (some 46) _ = _
          simp only [Act.put, List.setIfInBounds_toArray, List.set_cons_zero, List.set_cons_succ, i64_w, i32_w]
          rfl
        refine pure_ (i := 12) (N := some 47) (v := ?_) (a' := ?_) #[true, true, true, true, true, true, true, true, true, true, true, true, true, false, false, false] rfl rfl (by kernel_rfl) (fun _ _ _ h => h) (Or.inl ⟨by rfl, ?_⟩) ?_ ?_
        rotate_left
        · intro w'
          go_simp
          with_reducible rfl
        rotate_left
        · simp only [Act.put, List.setIfInBounds_toArray, List.set_cons_zero, List.set_cons_succ, i64_w, i32_w]
          rfl
        refine pure_ (i := 13) (N := some 48) (v := ?_) (a' := ?_) #[true, true, true, true, true, true, true, true, true, true, true, true, true, true, false, false] rfl rfl (by kernel_rfl) (fun _ _ _ h => h) (Or.inl ⟨by rfl, ?_⟩) ?_ ?_
        rotate_left
        · intro w'
          go_simp
          with_reducible rfl
        rotate_left
        · simp only [Act.put, List.setIfInBounds_toArray, List.set_cons_zero, List.set_cons_succ, i64_w, i32_w]
          rfl
        refine pure_ (i := 14) (N := some 6) (v := ?_) (a' := ?_) #[true, true, true, true, true, true, true, true, true, true, true, true, true, true, true, false] rfl rfl (by kernel_rfl) (fun _ _ _ h => h) (Or.inl ⟨by rfl, ?_⟩) ?_ ?_
        rotate_left
        · intro w'
          go_simp
          with_reducible rfl
        rotate_left
        · simp only [Act.put, List.setIfInBounds_toArray, List.set_cons_zero, List.set_cons_succ, i64_w, i32_w]
          rfl
        refine pure_ (i := 15) (N := some 7) (v := ?_) (a' := ?_) #[true, true, true, true, true, true, true, true, true, true, true, true, true, true, true, true] rfl rfl (by kernel_rfl) (fun _ _ _ h => h) (Or.inl ⟨by rfl, ?_⟩) ?_ ?_
        rotate_left
        · intro w'
          go_simp
          with_reducible rfl
        rotate_left
        · simp only [Act.put, List.setIfInBounds_toArray, List.set_cons_zero, List.set_cons_succ, i64_w, i32_w]
          rfl
        refine done_ (by kernel_rfl) ?_
        go_wp2
        go_ret2
        exact ⟨by first | rfl | simp, below_step HBW.out hbn⟩
      · rw [decide_eq_false hI2, Bool.false_and] at e2
        subst e2
        clear hlt E2
        have u1 : decide ((I : Int) < (l0.length : Int)) = false := decide_eq_false (by omega)
        have u2 : decide (I < l0.length) = false := decide_eq_false hI2
        go_upto_region 8 with (fail)
        go_quiet (fail)
        go_wp2
        go_ret2
        exact ⟨by first | rfl | simp, by repeat (first | (with_reducible first | exact HBW.out | apply below_alloc | apply pw_below_drewN | apply below_drew1) | exact HBW.out)⟩

/-! ### word_Index_Phrase: function 9 -/
/-- Whether the words stand from a place on. -/
def okP (P : ByteArray → List S39) (p : S39) : Nat → List ByteArray → Bool
  | _, [] => true
  | i, s :: t => bsB (P s) ⟨p.f0, wrap64 (p.f1 + (i : Int))⟩ && okP P p (i + 1) t
theorem okP_snoc (P : ByteArray → List S39) (p : S39) (s : ByteArray) : ∀ (l : List ByteArray) (i : Nat), okP P p i (l ++ [s]) = (okP P p i l && bsB (P s) ⟨p.f0, wrap64 (p.f1 + ((i + l.length : Nat) : Int))⟩)
  | [], i => by simp [okP]
  | x :: t, i => by
    show (_ && okP P p (i + 1) (t ++ [s])) = ((_ && okP P p (i + 1) t) && _)
    rw [okP_snoc P p s t (i + 1), Bool.and_assoc, List.length_cons, show i + 1 + t.length = i + (t.length + 1) by omega]
def phr (P : ByteArray → List S39) (ws : List ByteArray) : List S39 := (P (ws.getD 0 ByteArray.empty)).filter fun p => okP P p 0 ws
set_option maxHeartbeats 4000000 in
set_option maxRecDepth 100000 in
theorem word_Index_Phrase.calls (m0 gx : Nat) (P : ByteArray → List S39) (Z : List Int) (N : Nat) (A1 : Option Addr) (c1 : Nat) (ws : List ByteArray) (w : World) (hI : IsIdx m0 w gx P Z N) (hr : Kd.C Kd.string w A1 ws.length ws) (hc : ws.length ≤ c1) (h1 : 1 ≤ ws.length) (h8 : ws.length ≤ 8) (hs : ∀ s ∈ ws, s.size ≤ maxLen) (hP : ∀ s, (P s).length ≤ 100000000) :
    Calls Try.prog 9 #[.pointer (some ⟨gx, 0, none⟩), .slice A1 ws.length c1] w fun e w' => ∃ v : Value, e = .returned (.tuple #[v, .int .i64 0]) ∧ Kd.R k39 39 w' w.heap.size (fun _ => True) v (phr P ws) ∧ Below w.heap.size w w' := by
  have HI := Aside0.mk hI
  have HR := Aside0.mk hr
  have HC := Aside0.mk hc
  have HS := Aside0.mk hs
  have HP := Aside0.mk hP
  have HK0 : Aside0 (word_check.f ws = some 0) := ⟨by unfold word_check.f; rw [if_neg (by omega), if_neg (by omega)]⟩
  obtain ⟨b, x0, hrow⟩ := hI.row
  have HROW := Aside0.mk hrow
  obtain ⟨ad1, e1, hw0⟩ := Kd.at_string hr 0 (by omega) (by omega)
  subst e1
  have hm0 : ws.getD 0 ByteArray.empty ∈ ws := by rw [List.getD_eq_getElem?_getD, List.getElem?_eq_getElem (by omega : 0 < ws.length)]; exact List.getElem_mem _
  have hrd0 : rdOf ByteArray.empty ws 0 = ws.getD 0 ByteArray.empty := rfl
  rw [hrd0] at hw0
  obtain ⟨A0, c0, hlk0, hC0, hc0⟩ := hrow _ (hs _ hm0)
  have HPH : Aside0 (phr P ws = (P (ws.getD 0 ByteArray.empty)).filter fun p => okP P p 0 ws) := ⟨rfl⟩
  have hn0 := hP (ws.getD 0 ByteArray.empty)
  generalize ws.getD 0 ByteArray.empty = s0 at *
  obtain ⟨Q, hQ⟩ : ∃ Q, P s0 = Q := ⟨_, rfl⟩
  rw [hQ] at hlk0 hC0 hc0 hn0
  have HQ := Aside0.mk hQ
  have HC0 := Aside0.mk hC0
  have HL0 := Aside0.mk hlk0
  have HN0 := Aside0.mk hn0
  clear hI hr hc hs hP hrow hrd0 hm0 hQ hC0 hlk0 hc0 hn0
  go_enter Try.func9, Try.ntmps9
  go_upto_region 5 with (go_at_call 23; refine (word_check.calls _ _ ws 0 _ HR.out HC.out HK0.out).mono ?_; rintro e w1 ⟨rfl, hd⟩; have hb1 : Below w.heap.size w w1 := (by first | exact hd | exact drawn_below hd))
  have xw : w1.cell? ⟨gx, 0, none⟩ = some (.map (some b)) := (hb1.cell (World.block_lt_of_cell? w _ x0)).trans x0
  have hwb : w1.cell? ad1 = some (.string s0) := by
    have h := (hb1.cell (World.block_lt_of_cell? w _ hw0)).trans hw0
    simpa [Addr.add] using h
  have hwa : w1.cell? (ad1.add 0) = some (.string s0) := by simpa [Addr.add] using hwb
  have l1 := HL0.out w1 hb1
  have l2 := HL0.out w1.drew (below_drew1 hb1)
  have X0 := Aside0.mk x0
  have HB1 := Aside0.mk hb1
  clear hd hb1 hw0 x0
  go_cut [27, 28, 29] (fun v27 v28 v29 wx => v27 = .slice A0 Q.length c0 ∧ v28 = .int .i64 Q.length ∧ v29 = .int .i64 0 ∧ Aside0 (Below w.heap.size w wx))
  case first =>
    go_region_with (fail)
    all_goals
      go_wp2_with fail
      go_meet
      case rel => exact ⟨rfl, rfl, rfl, ⟨below_drew1 HB1.out⟩⟩
  case rest =>
    obtain ⟨rfl, rfl, rfl, HB2⟩ := hcut
    clear xw hwa hwb l1 l2 HB1
    go_wp2
    go_loopg [7, 29] Q.length (fun gg v7 s29 wr => ∃ (kk : Nat) (A7 : Option Addr) (c7 n7 : Nat), kk ≤ Q.length ∧ Q.length - kk ≤ gg ∧ v7 = .slice A7 n7 c7 ∧ s29 = .int .i64 kk ∧ Aside0 (Kd.R k39 39 wr w.heap.size (fun _ => True) (.slice A7 n7 c7) ((Q.take kk).filter fun p => okP P p 0 ws)) ∧ Aside0 (Below w.heap.size w wr))
    case atStart => exact ⟨0, none, 0, 0, Nat.zero_le _, by omega, rfl, rfl, ⟨Kd.R_nil _ _ _ _ _⟩, HB2⟩
    case round =>
      obtain ⟨kk, A7, c7, n7, hkk, hg, rfl, rfl, HO7, HB3⟩ := hrel
      have hn0 := HN0.out
      by_cases hlt : kk < Q.length
      · have hltz : (kk : Int) < (Q.length : Int) := by omega
        have h0 : (0 : Int) ≤ (kk : Int) := by omega
        obtain ⟨adq, eq, y0, y1⟩ := at_T39 HC0.out (kk : Int) h0 hltz
        subst eq
        have hrd : rd_T39 Q (kk : Int) = Q[kk] := by unfold rd_T39; rw [Int.toNat_natCast, List.getD_eq_getElem?_getD, List.getElem?_eq_getElem hlt]; rfl
        have hst : (Q.take (kk + 1)).filter (fun p => okP P p 0 ws) = (Q.take kk).filter (fun p => okP P p 0 ws) ++ (if okP P Q[kk] 0 ws = true then [Q[kk]] else []) := by
          rw [List.take_add_one, List.getElem?_eq_getElem hlt, List.filter_append]
          by_cases c : okP P Q[kk] 0 ws = true <;> simp [c]
        rw [hrd, Int.toNat_natCast] at y0 y1
        obtain ⟨⟨p0, p1⟩, hp⟩ : ∃ p, Q[kk] = p := ⟨_, rfl⟩
        rw [hp] at y0 y1 hst
        simp only at y0 y1
        have HST := Aside0.mk hst
        replace y0 := (HB3.out.cell (World.block_lt_of_cell? w _ y0)).trans y0
        replace y1 := (HB3.out.cell (World.block_lt_of_cell? w _ y1)).trans y1
        have HLN : Aside0 (((Q.take kk).filter fun p => okP P p 0 ws).length ≤ Q.length) := ⟨Nat.le_trans (List.length_filter_le _ _) (by rw [List.length_take]; omega)⟩
        clear hrd hp hst
        generalize (Q.take kk).filter (fun p => okP P p 0 ws) = acc at *
        go_upto_region 8 with (fail)
        obtain ⟨W9, hW9⟩ : ∃ W, W = wr.alloc (.cells #[.int .i64 p0, .int .i64 p1] 39) := ⟨_, rfl⟩
        obtain ⟨gp, hgp⟩ : ∃ g, g = wr.heap.size := ⟨_, rfl⟩
        have BKP : Aside0 (W9.heap[gp]? = some (.cells #[.int .i64 p0, .int .i64 p1] 39 (0, 0))) := ⟨by rw [hW9, hgp]; exact blk_new wr _⟩
        have HB9 : Aside0 (Below wr.heap.size wr W9) := ⟨by rw [hW9]; exact below_alloc (Below.refl _ _) _⟩
        rw [← hW9, ← hgp]
        clear hW9 hgp y0 y1
        go_wp2
        go_loopg [10, 35] ws.length (fun gg v10 s35 wx => ∃ jj : Nat, jj ≤ ws.length ∧ ws.length - jj ≤ gg ∧ v10 = .bool (okP P ⟨p0, p1⟩ 0 (ws.take jj)) ∧ s35 = .int .i64 jj ∧ Aside0 (Below W9.heap.size W9 wx))
        case atStart => exact ⟨0, Nat.zero_le _, by omega, rfl, rfl, ⟨Below.refl _ _⟩⟩
        case round =>
          obtain ⟨jj, hjj, hgj, rfl, rfl, HBX⟩ := hrel
          have HBW : Aside0 (Below w.heap.size w wr) := ⟨below_step (below_step HB3.out HB9.out) HBX.out⟩
          by_cases hlj : jj < ws.length
          · have hljz : (jj : Int) < (ws.length : Int) := by omega
            have h0j : (0 : Int) ≤ (jj : Int) := by omega
            obtain ⟨adw, ew, z0⟩ := Kd.at_string HR.out (jj : Int) h0j hljz
            obtain rfl := Option.some.inj ew
            have hrdw : rdOf ByteArray.empty ws (jj : Int) = ws[jj] := by unfold rdOf; rw [Int.toNat_natCast, List.getD_eq_getElem?_getD, List.getElem?_eq_getElem hlj]; rfl
            rw [hrdw, Int.toNat_natCast] at z0
            have hstw : okP P ⟨p0, p1⟩ 0 (ws.take (jj + 1)) = (okP P ⟨p0, p1⟩ 0 (ws.take jj) && bsB (P ws[jj]) ⟨p0, wrap64 (p1 + (jj : Int))⟩) := by
              rw [List.take_add_one, List.getElem?_eq_getElem hlj]
              show okP P _ 0 (ws.take jj ++ [ws[jj]]) = _
              rw [okP_snoc, List.length_take, Nat.min_eq_left (by omega), Nat.zero_add]
            have hsw := HS.out _ (List.getElem_mem hlj)
            obtain ⟨A2, c2, hlk2, hC2, hc2⟩ := HROW.out _ hsw
            have hP2 := HP.out ws[jj]
            have HK1 : Aside0 (wrap64 ((jj : Int) + 1) = ((jj + 1 : Nat) : Int)) := ⟨by unfold wrap64; omega⟩
            clear hrdw hsw ew
            generalize ws[jj] = s at *
            obtain ⟨F, hF⟩ : ∃ F, P s = F := ⟨_, rfl⟩
            rw [hF] at hlk2 hC2 hc2 hstw hP2
            clear hF
            replace z0 := (HBW.out.cell (World.block_lt_of_cell? w _ z0)).trans z0
            have x0 : wr.cell? ⟨gx, 0, none⟩ = some (.map (some b)) := (HBW.out.cell (World.block_lt_of_cell? w _ X0.out)).trans X0.out
            have bp := blk_below BKP.out HBX.out
            have k0 : wr.cell? ⟨gp, 0, none⟩ = some (.int .i64 p0) := (blk_cell bp 0).trans rfl
            have k1 : wr.cell? ⟨gp, 1, none⟩ = some (.int .i64 p1) := (blk_cell bp 1).trans rfl
            clear bp
            have HST2 := Aside0.mk hstw
            have HC2 := Aside0.mk hC2
            have HCC2 := Aside0.mk hc2
            have HP2 := Aside0.mk (show F.length ≤ 1000000000 by omega)
            generalize okP P ⟨p0, p1⟩ 0 (ws.take jj) = b0 at *
            obtain ⟨b2, hb2⟩ : ∃ b2, bsB F ⟨p0, wrap64 (p1 + (jj : Int))⟩ = b2 := ⟨_, rfl⟩
            have HB2x := Aside0.mk hb2
            obtain ⟨i2, hi2⟩ : ∃ i2 : Nat, bsI F ⟨p0, wrap64 (p1 + (jj : Int))⟩ = i2 := ⟨_, rfl⟩
            have HCALL : Aside0 (∀ W, Below wr.heap.size wr W → Calls Try.prog 24 #[.slice A2 F.length c2, .agg #[.int .i64 p0, .int .i64 (IntKind.i64.wrap (p1 + (jj : Int)))], .func (.func 25) #[] #[]] W fun e w' => e = .returned (.tuple #[.int .i64 (i2 : Int), .bool b2]) ∧ Below W.heap.size W w') := ⟨fun W hb => by
              have h := word_Place_24.calls A2 c2 F ⟨p0, wrap64 (p1 + (jj : Int))⟩ W (Kd.C_below HC2.out (below_step HBW.out hb)) HCC2.out HP2.out
              rw [hb2, hi2] at h
              rw [i64_w]
              exact h⟩
            have HKS : Aside0 (∀ w', Below wr.heap.size wr w' → w'.cell? ⟨gx, 0, none⟩ = some (.map (some b)) ∧ w'.cell? ⟨gp, 0, none⟩ = some (.int .i64 p0) ∧ w'.cell? ⟨gp, 1, none⟩ = some (.int .i64 p1) ∧ (Instr.lookup 55 (.map (some b)) (.string s) false).run Try.prog w' = .ok (.slice A2 F.length c2) w' ∧ Below wr.heap.size wr w') := ⟨fun w' h => ⟨(h.cell (World.block_lt_of_cell? wr _ x0)).trans x0, (h.cell (World.block_lt_of_cell? wr _ k0)).trans k0, (h.cell (World.block_lt_of_cell? wr _ k1)).trans k1, hlk2 w' (below_step HBW.out h), h⟩⟩
            clear hb2 hi2 hC2 hc2 hP2 hstw hlk2
            go_upto_region 12 with (fail)
            go_cut [14] (fun v14 wy => v14 = .bool b2 ∧ Aside0 (Below wr.heap.size wr wy))
            case first =>
              go_region_held3 (fun w' => w'.cell? ⟨gx, 0, none⟩ = some (.map (some b)) ∧ w'.cell? ⟨gp, 0, none⟩ = some (.int .i64 p0) ∧ w'.cell? ⟨gp, 1, none⟩ = some (.int .i64 p1) ∧ (Instr.lookup 55 (.map (some b)) (.string s) false).run Try.prog w' = .ok (.slice A2 F.length c2) w' ∧ Below wr.heap.size wr w') (first | exact HKS.out _ (by (repeat (first | assumption | exact Below.refl _ _ | apply below_drew1)))) (first | (go_at_call 24; (with_reducible refine (HCALL.out _ ?hbb).mono ?_); (case hbb => (repeat (first | assumption | exact Below.refl _ _ | apply below_drew1))); rintro e w7 ⟨rfl, hb⟩; have hb7 : Below wr.heap.size wr w7 := below_step (by (repeat (first | assumption | exact Below.refl _ _ | apply below_drew1))) hb))
              all_goals
                go_wp2_with fail
                go_meet
                case rel => exact ⟨rfl, ⟨hb7⟩⟩
            case rest =>
              obtain ⟨rfl, HB7⟩ := hcut
              have HBY : Aside0 (Below W9.heap.size W9 wc) := ⟨below_step HBX.out HB7.out⟩
              have HST3 : Aside0 ((b0 && b2) = okP P ⟨p0, p1⟩ 0 (ws.take (jj + 1))) := ⟨by rw [HST2.out, HB2x.out]⟩
              clear x0 k0 k1 z0
              cases b0
              · go_wp2
                go_roundg (ws.length - (jj + 1))
                case measure => omega
                case rel => exact ⟨jj + 1, by omega, by omega, by rw [← HST3.out]; rfl, by go_num, HBY⟩
              · go_wp2
                go_roundg (ws.length - (jj + 1))
                case measure => omega
                case rel => exact ⟨jj + 1, by omega, by omega, by rw [← HST3.out]; rfl, by go_num, HBY⟩
          · have hljz : ¬ (jj : Int) < (ws.length : Int) := by omega
            have hj : jj = ws.length := by omega
            generalize hb1 : okP P ⟨p0, p1⟩ 0 (ws.take jj) = b1
            have hst := HST.out
            rw [hj, List.take_length] at hb1
            rw [hb1] at hst
            have bp := blk_below BKP.out HBX.out
            have k0 : wr.cell? ⟨gp, 0, none⟩ = some (.int .i64 p0) := (blk_cell bp 0).trans rfl
            have k1 : wr.cell? ⟨gp, 1, none⟩ = some (.int .i64 p1) := (blk_cell bp 1).trans rfl
            have HOX := Aside0.mk (Kd.R_below (Kd.R_below HO7.out HB9.out) HBX.out)
            have HK2 : Aside0 ((acc.length + 1) * 16 ≤ 140737488355328) := ⟨by have := HLN.out; omega⟩
            have HSZ : Aside0 (w.heap.size ≤ wr.heap.size) := ⟨HBW.out.size⟩
            clear bp hb1 hj
            cases b1
            · have HOY : Aside0 (Kd.R k39 39 wr w.heap.size (fun _ => True) (.slice A7 n7 c7) ((Q.take (kk + 1)).filter fun p => okP P p 0 ws)) := ⟨by rw [hst]; simpa using HOX.out⟩
              clear hst
              go_wp2
              go_roundg (Q.length - (kk + 1))
              case measure => omega
              case rel => exact ⟨kk + 1, A7, c7, n7, by omega, by omega, rfl, by go_num, HOY, HBW⟩
            · have HEQ : Aside0 (acc ++ [(⟨p0, p1⟩ : S39)] = (Q.take (kk + 1)).filter fun p => okP P p 0 ws) := ⟨by rw [hst]; simp⟩
              clear hst
              go_wp2_with (first | ((with_reducible refine gate_builtin (b := .append) (xs := #[.tmp 63, .tmp 65]) rfl ?_); at_builtin; refine Kd.R_append k39 (w0 := w) (W := wr) w.heap.size rfl (.tmp 63) (.tmp 65) 33 39 (.agg #[(.int .i64 0), (.int .i64 0)]) 16 rfl Try.underlying33 info39 rfl (by decide) (by omega) (.slice A7 n7 c7) acc (⟨p0, p1⟩ : S39) [.int .i64 p0, .int .i64 p1] (fun _ => True) (fun _ => False) rfl rfl (k39_mkM _ _ _ _) (fun _ hk => hk.elim) (fun _ _ => trivial) HOX.out HBW.out HSZ.out HK2.out ?_; intro v1 wa ho hb hg hat; rw [HEQ.out] at ho; obtain ⟨A3, c3, e3⟩ := Kd.R_slice ho; subst e3; generalize ((Q.take (kk + 1)).filter fun p => okP P p 0 ws).length = n3 at ho ⊢; have HO3 := Aside0.mk ho; have HB5 := Aside0.mk hb; clear ho hb hg hat))
              go_roundg (Q.length - (kk + 1))
              case measure => omega
              case rel => exact ⟨kk + 1, A3, c3, n3, by omega, by omega, rfl, by go_num, HO3, HB5⟩
      · have hltz : ¬ (kk : Int) < (Q.length : Int) := by omega
        have hk : kk = Q.length := by omega
        subst hk
        have HO8 : Aside0 (Kd.R k39 39 wr w.heap.size (fun _ => True) (.slice A7 n7 c7) (phr P ws)) := ⟨by have h := HO7.out; rw [List.take_length] at h; rw [HPH.out, HQ.out]; exact h⟩
        clear HO7
        go_wp2
        go_ret2
        exact ⟨_, rfl, HO8.out, HB3.out⟩

/-! ### wrackkeep3_indexed: function 7 -/
def T0 : List Int := [65, 32, 98, 44, 32, 97, 32, 99]
def sA : ByteArray := ⟨#[97]⟩
def sB : ByteArray := ⟨#[98]⟩
def sC : ByteArray := ⟨#[99]⟩
theorem phr_fact : phr (idxP (fun _ => []) 0 [[sA, sB, sA, sC]]) [sA, sC] = [(⟨0, 2⟩ : S39)] := by kernel_rfl
theorem litT0 (W : World) : Kd.C (Kd.int .u8) (W.alloc (.cells #[.int .u8 65, .int .u8 32, .int .u8 98, .int .u8 44, .int .u8 32, .int .u8 97, .int .u8 32, .int .u8 99] 5)) (some ⟨W.heap.size, 0, none⟩) 8 T0 :=
  (Kd.R_reads' (Kd.R_of_own (enc := Value.int .u8) (h1 := fun _ => rfl) (ok := fun _ => True) (base := 0) (xs := T0) (own_lit_of W 0 5 T0 (Nat.zero_le _) (by simp [T0])) (fun _ _ => trivial))).2.2
theorem litT1 (W : World) (A : Option Addr) (c : Nat) (hc : 8 ≤ c) (h : Kd.C (Kd.int .u8) W A 8 T0) : Kd.C (Kd.slice 5 (Kd.int .u8)) (W.alloc (.cells #[.slice A 8 c] 46)) (some ⟨W.heap.size, 0, none⟩) 1 [T0] := by
  refine ⟨rfl, by decide, fun _ => ⟨_, rfl, fun j p hp => ?_⟩⟩
  cases j with
  | zero =>
    obtain rfl : T0 = p := by simpa using hp
    refine ⟨[.slice A 8 c], rfl, ⟨A, c, rfl, hc, Kd.C_below h (below_alloc (Below.refl _ _) _)⟩, fun i u hu => ?_⟩
    cases i with
    | zero =>
      obtain rfl : Value.slice A 8 c = u := by simpa using hu
      exact (blk_cell (blk_new W (.cells #[.slice A 8 c] 46)) 0).trans rfl
    | succ i => simp at hu
  | succ j => simp at hp
theorem litAC (W : World) : Kd.C Kd.string (W.alloc (.cells #[.string sA, .string sC] 9)) (some ⟨W.heap.size, 0, none⟩) 2 [sA, sC] :=
  (Kd.R_reads' (Kd.R_of_own (enc := Value.string) (h1 := fun _ => rfl) (ok := fun _ => True) (base := 0) (xs := [sA, sC]) (own_lit_of W 0 9 [sA, sC] (Nat.zero_le _) (by simp)) (fun _ _ => trivial))).2.2
set_option maxHeartbeats 4000000 in
set_option maxRecDepth 100000 in
theorem wrackkeep3_indexed.calls (k : Nat) (w : World) (hW : word_Words.f k T0 = some [sA, sB, sA, sC]) :
    Calls Try.prog 7 #[] w fun e w' => e = .returned (.bool true) ∧ Below w.heap.size w w' := by
  have hsm : ∀ s ∈ [sA, sB, sA, sC], s.size ≤ maxLen := by
    have h : [sA, sB, sA, sC].all (fun s => decide (s.size ≤ 1)) = true := by kernel_rfl
    intro s hs
    have := of_decide_eq_true (List.all_eq_true.1 h s hs)
    unfold maxLen
    omega
  have HW : Aside0 (WordsOf k [T0] [[sA, sB, sA, sC]]) := ⟨by
    refine ⟨by decide, rfl, fun i hi => ?_, fun ws hw => ?_⟩
    · obtain rfl : i = 0 := by simpa using hi
      exact ⟨hW, by decide⟩
    · rw [List.mem_singleton.1 hw]
      exact ⟨by decide, hsm⟩⟩
  have HAC : Aside0 (∀ s ∈ [sA, sC], s.size ≤ maxLen) := ⟨fun s hs => hsm s (by simp at hs ⊢; rcases hs with h | h <;> simp [h])⟩
  clear hsm hW
  have HP : Aside0 (∀ s, (idxP (fun _ => []) 0 [[sA, sB, sA, sC]] s).length ≤ 100000000) := ⟨fun s => by
    have h := idxP_len s [[sA, sB, sA, sC]] (fun _ => []) 0
    have e : idxN [[sA, sB, sA, sC]] = 4 := rfl
    rw [e] at h
    simp only [List.length_nil] at h
    omega⟩
  have HF := Aside0.mk phr_fact
  generalize [[sA, sB, sA, sC]] = wss at *
  go_enter Try.func7, Try.ntmps7
  have hT8 : T0.length = 8 := rfl
  go_upto_region 2 with (first | ((with_reducible refine gate_dst (N := 7) rfl ?_); refine bytelit rfl (N := 7) rfl 46 5 (.tmp 6) rfl T0 _ rfl (by decide) rfl Try.underlying46 Try.underlying5 ?_; intro v1 w1 hv hb hg _; obtain ⟨A7, c7, e7, hc7, hV⟩ := hv; subst e7; have hC7 : Kd.C (Kd.int .u8) w1 A7 8 T0 := hV w1 (fun _ _ _ => rfl); rw [hT8] at hc7 ⊢; have HC7 := Aside0.mk hC7; have HCC7 := Aside0.mk hc7; have HB7 := Aside0.mk hb; clear hV hC7 hc7 hb hg) | (go_at_call 5; refine (word_New.calls k _ _ [T0] wss _ (litT1 _ _ _ HCC7.out HC7.out) (Nat.le_refl _) HW.out).mono ?_; rintro e w2 ⟨gx, rfl, hi, hb⟩; have HI := Aside0.mk hi; have HB := Aside0.mk (below_step (below_step HB7.out (below_alloc (Below.refl _ _) _)) hb); clear hi hb))
  have HAC2 : Aside0 (Kd.C Kd.string (w2.alloc (.cells #[.string sA, .string sC] 9)) (some ⟨w2.heap.size, 0, none⟩) 2 [sA, sC]) := ⟨litAC w2⟩
  have heq : ∀ w' : World, (binOp .eql 39 (.agg #[.int .i64 0, .int .i64 2]) (.agg #[.int .i64 0, .int .i64 2])).run Try.prog w' = .ok (.bool true) w' := fun w' => by kernel_rfl
  go_upto_region 5 with (go_loud (go_at_call 9; refine (word_Index_Phrase.calls _ gx _ _ _ (some ⟨w2.heap.size, 0, none⟩) 2 [sA, sC] (w2.alloc (.cells #[.string sA, .string sC] 9)) (HI.out.below (below_alloc (Below.refl _ _) _)) HAC2.out (Nat.le_refl _) (by decide) (by decide) HAC.out HP.out).mono ?_; rintro e w3 ⟨v3, rfl, hr, hb⟩; rw [HF.out] at hr; obtain ⟨A3, c3, e3⟩ := Kd.R_slice hr; subst e3; obtain ⟨ad3, ea, z0, z1⟩ := at_T39 (Kd.R_reads' hr).2.2 0 (by decide) (by decide); subst ea; have HB3 := Aside0.mk (below_step HB.out (below_step (below_alloc (Below.refl _ _) _) hb)); clear hr hb))
  have ea0 : ad3.add ((0 : Int).toNat * 2) = ad3 := by unfold Addr.add; rw [if_pos (by decide)]
  rw [ea0] at z0 z1
  have za : w3.cell? ad3 = some (.int .i64 0) := z0
  have zb : w3.cell? ⟨ad3.block, ad3.off + 1, none⟩ = some (.int .i64 2) := z1
  have zc : w3.cell? (ad3.add 0) = some (.int .i64 0) := za
  have zd : w3.cell? ⟨(ad3.add 0).block, (ad3.add 0).off + 1, none⟩ = some (.int .i64 2) := zb
  clear z0 z1 ea0
  go_wp2
  go_ret
  exact ⟨rfl, HB3.out⟩

/-! ### word_Place_32: function 32 -/
def word_Place_32.f (l0 : List S39) : Option (List S39) := if l0.length ≤ 1000000000 then some l0 else none
set_option maxHeartbeats 2000000 in
set_option maxRecDepth 100000 in
theorem word_Place_32.calls (A0 : Option Addr) (c0 : Nat) (l0 : List S39) (r : List S39) (w : World) (hr0 : Kd.C k39 w A0 l0.length l0) (hc0 : l0.length ≤ c0) (h : word_Place_32.f l0 = some r) :
    Calls Try.prog 32 #[.slice A0 l0.length c0] w fun e w' => ∃ v0_ : Value, e = .returned (v0_) ∧ Kd.R k39 39 w' w.heap.size (fun _ => True) v0_ r ∧ Below w.heap.size w w' := by
  unfold word_Place_32.f at h
  split at h
  case isFalse => exact absurd h (by simp)
  case isTrue c1 =>
  obtain rfl := Option.some.inj h
  clear h
  have q1 : ∀ (w : World) (a : Option Addr) (n c n' c' : Nat), (binOp .eql 33 (.slice a n c) (.slice none n' c')).run Try.prog w = .ok (.bool a.isNone) w := fun w a n c n' c' => Go.Lib.run_eql_slice_nil w _ _ a n c n' c' Try.underlying33
  cases A0 with
  | none =>
    have h0 : l0.length = 0 := by
      rcases Nat.eq_zero_or_pos l0.length with h0 | h0
      · exact h0
      · obtain ⟨ad, h, _⟩ := hr0.2.2 h0
        cases h
    obtain rfl := List.eq_nil_of_length_eq_zero h0
    clear hr0 hc0 c1 h0
    go_enter Try.func32, Try.ntmps32
    go_wp2
    go_ret
    exact ⟨_, rfl, Kd.R_nil _ _ _ _ _, Below.refl _ _⟩
  | some ad =>
    have HR := Aside0.mk hr0
    have C1 := Aside0.mk (show (([] : List S39).length + l0.length) * 16 ≤ 140737488355328 from by simp only [List.length_nil]; omega)
    clear hr0 hc0 c1
    go_enter Try.func32, Try.ntmps32
    go_wp2_with (first | (at_builtin; refine Kd.R_append_rows k39 (w0 := w) w.heap.size rfl (.tmp 5) (.tmp 6) 33 39 (.agg #[(.int .i64 0), (.int .i64 0)]) 16 rfl Try.underlying33 info39 rfl (by decide) (by omega) (.slice (some ⟨w.heap.size, 0, none⟩) 0 0) [] l0 (some ad) _ _ (fun _ => True) (fun _ => False) rfl rfl ⟨fun _ _ => trivial, [], World.ownsRow_made w #[] 0 (Nat.le_refl _) (Nat.zero_le _) (by simp), Reps.none _ _⟩ (Kd.C_below HR.out (below_alloc (Below.refl _ _) _)) (fun _ _ h => h) (fun _ h => h.elim) (fun _ _ => trivial) (below_alloc (Below.refl _ _) _) (by simp) C1.out ?_; intro v1 w1 ho hb hg hat; clear hg hat; rw [List.nil_append] at ho; have HO := Aside0.mk ho; have HB := Aside0.mk hb; clear ho hb))
    go_ret
    exact ⟨_, rfl, HO.out, HB.out⟩

/-! ### word_Index_Find: function 15 -/
set_option maxHeartbeats 4000000 in
set_option maxRecDepth 100000 in
theorem word_Index_Find.calls (m0 gx : Nat) (P : ByteArray → List S39) (Z : List Int) (N : Nat) (s : ByteArray) (w : World) (hI : IsIdx m0 w gx P Z N) (hs : s.size ≤ maxLen) (hl : (P s).length ≤ 1000000000) :
    Calls Try.prog 15 #[.pointer (some ⟨gx, 0, none⟩), .string s] w fun e w' => ∃ v0_ : Value, e = .returned (v0_) ∧ Kd.R k39 39 w' w.heap.size (fun _ => True) v0_ (P s) ∧ Below w.heap.size w w' := by
  obtain ⟨b, x0, hrow⟩ := hI.row
  obtain ⟨A, c, hlook, hC, hc⟩ := hrow s hs
  have l1 := hlook w (Below.refl _ _)
  have HC := Aside0.mk hC
  have HCC := Aside0.mk hc
  have HF := Aside0.mk (show word_Place_32.f (P s) = some (P s) from by unfold word_Place_32.f; rw [if_pos hl])
  clear hI hrow hlook hs hC hc hl
  generalize P s = p at *
  go_enter Try.func15, Try.ntmps15
  go_wp2_with (go_at_call 32; refine (word_Place_32.calls A c p p w HC.out HCC.out HF.out).mono ?_; rintro e w' ⟨v, rfl, hR, hb⟩; have HR := Aside0.mk hR; have HB := Aside0.mk hb; clear hR hb)
  go_ret
  exact ⟨_, rfl, HR.out, HB.out⟩

/-! ### word_Index_Size: function 19 -/
theorem sum_snoc (l : List Int) (x : Int) : (l ++ [x]).sum = l.sum + x := by simp
theorem sum_bd : ∀ (l : List Int), (∀ z ∈ l, 0 ≤ z ∧ z ≤ 1000000) → 0 ≤ l.sum ∧ l.sum ≤ l.length * 1000000
  | [], _ => by simp
  | x :: t, h => by
    have h1 := h x List.mem_cons_self
    have h2 := sum_bd t (fun z hz => h z (List.mem_cons_of_mem _ hz))
    rw [List.sum_cons, List.length_cons]
    omega
set_option maxHeartbeats 4000000 in
set_option maxRecDepth 100000 in
theorem word_Index_Size.calls (m0 gx : Nat) (P : ByteArray → List S39) (Z : List Int) (N : Nat) (w : World) (hI : IsIdx m0 w gx P Z N) (hz : ∀ z ∈ Z, 0 ≤ z ∧ z ≤ 1000000) (hl : Z.length ≤ 200) :
    Calls Try.prog 19 #[.pointer (some ⟨gx, 0, none⟩)] w fun e w' => e = .returned (.tuple #[.int .i64 Z.length, .int .i64 Z.sum]) ∧ w' = w := by
  obtain ⟨b, hdr, AZ, cZ, h1, h2, h3, h4, h5, h6⟩ := hI
  have x1 : w.cell? ⟨gx, 1, none⟩ = some (.slice AZ Z.length cZ) := (blk_cell h1 1).trans rfl
  have HR := Aside0.mk (Kd.R_reads' h5).2.2
  have HZ := Aside0.mk hz
  have HL := Aside0.mk hl
  clear h1 h2 h3 h4 h5 h6 hz hl
  go_enter Try.func19, Try.ntmps19
  go_wp2
  go_loopg [4, 12] Z.length (fun gg s4 s12 wr => ∃ kk : Nat, kk ≤ Z.length ∧ Z.length - kk ≤ gg ∧ s4 = .int .i64 (Z.take kk).sum ∧ s12 = .int .i64 kk ∧ wr = w)
  case atStart => exact ⟨0, Nat.zero_le _, by omega, rfl, rfl, rfl⟩
  case round =>
    obtain ⟨kk, hkk, hg, rfl, rfl, rfl⟩ := hrel
    by_cases hlt : kk < Z.length
    · have hltz : (kk : Int) < (Z.length : Int) := by omega
      have h0 : (0 : Int) ≤ (kk : Int) := by omega
      obtain ⟨ad, e0, hx0⟩ := Kd.at_int HR.out (kk : Int) h0 hltz
      cases e0
      have hrd : rd Z (kk : Int) = Z[kk] := by unfold rd; rw [Int.toNat_natCast, List.getD_eq_getElem?_getD, List.getElem?_eq_getElem hlt]; rfl
      rw [show ((kk : Int)).toNat = kk from Int.toNat_natCast kk, hrd] at hx0
      have hst : (Z.take (kk + 1)).sum = (Z.take kk).sum + Z[kk] := by rw [List.take_add_one, List.getElem?_eq_getElem hlt]; exact sum_snoc _ _
      have hb := sum_bd (Z.take (kk + 1)) (fun z hz => HZ.out z (List.mem_of_mem_take hz))
      have hlen : (Z.take (kk + 1)).length ≤ 200 := by rw [List.length_take]; have := HL.out; omega
      have HW1 : Aside0 (wrap64 ((Z.take kk).sum + Z[kk]) = (Z.take (kk + 1)).sum) := ⟨by rw [← hst]; have h2 : ((Z.take (kk + 1)).length : Int) * 1000000 ≤ 200 * 1000000 := by omega
                                                                                          generalize (Z.take (kk + 1)).sum = q at hb; unfold wrap64; omega⟩
      have HK1 : Aside0 (wrap64 ((kk : Int) + 1) = ((kk + 1 : Nat) : Int)) := ⟨by have := HL.out; unfold wrap64; omega⟩
      clear hst hb hlen hrd
      generalize (Z.take kk).sum = q1 at HW1 ⊢
      generalize Z[kk] = z at HW1 hx0
      go_wp2
      go_roundg (Z.length - (kk + 1))
      case measure => omega
      case rel => exact ⟨kk + 1, by omega, by omega, by rw [HW1.out], by rw [HK1.out], rfl⟩
    · have hltz : ¬ (kk : Int) < (Z.length : Int) := by omega
      have hk : kk = Z.length := by omega
      subst hk
      rw [List.take_length]
      go_wp2
      go_ret2
      exact ⟨rfl, rfl⟩

/-! ### slices_Equal_string_string: function 20 -/
def slices_Equal_string_string.l0 : Nat → List ByteArray → List ByteArray → Int → Int → Option (Bool)
  | 0, _, _, _, _ => none
  | k + 1, x0, x1, x12, x13 => if x13 < x12 then (if 0 ≤ x13 then (if x13 < (x0.length : Int) then (if x13 < (x1.length : Int) then (if (rdOf ByteArray.empty x0 x13).toList = (rdOf ByteArray.empty x1 x13).toList then (slices_Equal_string_string.l0 k x0 x1 x12 (wrap64 (x13 + 1))) else (some false)) else (none)) else (none)) else (none)) else (some true)
def slices_Equal_string_string.f (k : Nat) (l0 : List ByteArray) (l1 : List ByteArray) : Option (Bool) := if (l0.length : Int) = (l1.length : Int) then (slices_Equal_string_string.l0 k l0 l1 (l0.length : Int) 0) else (some false)
theorem slices_Equal_string_string.mono_l : ∀ k, (∀ y0 y1 y2 y3, LeO (slices_Equal_string_string.l0 k y0 y1 y2 y3) (slices_Equal_string_string.l0 (k + 1) y0 y1 y2 y3))
  | 0 => fun _ _ _ _ r h => by simp [slices_Equal_string_string.l0] at h
  | k + 1 => by
    have ih0 := slices_Equal_string_string.mono_l k
    · intro y0 y1 y2 y3
      unfold slices_Equal_string_string.l0
      repeat' first
      | (with_reducible exact ih0 _ _ _ _)
      | (with_reducible exact LeO.refl _)
      | (with_reducible exact LeO.none _)
      | (with_reducible refine LeO.ite ?_ ?_)
      | (with_reducible refine LeO.bind ?_ (fun _ => ?_))
      | exact ih0 _ _ _ _
      | exact LeO.none _
      | refine LeO.ite ?_ ?_
      | refine LeO.bind ?_ (fun _ => ?_)
theorem slices_Equal_string_string.mono : ∀ a0 a1 k, LeO (slices_Equal_string_string.f k a0 a1) (slices_Equal_string_string.f (k + 1) a0 a1) := by
  intro a0 a1 k
  have ih0 := slices_Equal_string_string.mono_l k
  unfold slices_Equal_string_string.f
  repeat' first
      | (with_reducible exact ih0 _ _ _ _)
      | (with_reducible exact LeO.refl _)
      | (with_reducible exact LeO.none _)
      | (with_reducible refine LeO.ite ?_ ?_)
      | (with_reducible refine LeO.bind ?_ (fun _ => ?_))
      | exact ih0 _ _ _ _
      | exact LeO.none _
      | refine LeO.ite ?_ ?_
      | refine LeO.bind ?_ (fun _ => ?_)
set_option maxHeartbeats 8000000 in
set_option maxRecDepth 100000 in
theorem slices_Equal_string_string.calls (k : Nat) (A0 : Option Addr) (c0 : Nat) (l0 : List ByteArray) (A1 : Option Addr) (c1 : Nat) (l1 : List ByteArray) (r : Bool) (w : World) (hr0 : Kd.C Kd.string w A0 l0.length l0) (hc0 : l0.length ≤ c0) (hr1 : Kd.C Kd.string w A1 l1.length l1) (hc1 : l1.length ≤ c1) (h : slices_Equal_string_string.f k l0 l1 = some r) :
    Calls Try.prog 20 #[.slice A0 l0.length c0, .slice A1 l1.length c1] w fun e w' => e = .returned (.bool r) ∧ Drawn0 w w' := by
  have HR0 := Aside0.mk hr0
  have HC0 := Aside0.mk hc0
  clear hr0 hc0
  have HR1 := Aside0.mk hr1
  have HC1 := Aside0.mk hc1
  clear hr1 hc1
  have H : (if (l0.length : Int) = (l1.length : Int) then (slices_Equal_string_string.l0 k l0 l1 (l0.length : Int) 0) else (some false)) = some r := h
  clear h
  by_cases c3 : (l0.length : Int) = (l1.length : Int)
  · rw [if_pos c3] at H
    have c3b0 : ((l0.length : Int) == (l1.length : Int)) = true := beq_iff_eq.mpr c3
    have c3b1 : ((l0.length : Int) != (l1.length : Int)) = false := bne_eq_false_iff_eq.mpr c3
    have c3b2 : (l0.length == l1.length) = true := by first | simpa using c3 | (simp at c3 ⊢; omega)
    clear c3
    have H' := Aside0.mk H
    clear H
    go_enter Try.func20, Try.ntmps20
    go_wp2
    repeat (go_quiet (fail); try go_wp2)
    go_loopg [13] k (fun kq v13 w' => ∃ (x13_1 : Int), v13 = .int .i64 x13_1 ∧ Aside0 (slices_Equal_string_string.l0 kq l0 l1 (l0.length : Int) x13_1 = some r) ∧ Aside0 (kq ≤ k) ∧ Drawn0 w w')
    case atStart => exact ⟨(0), (by first | rfl | (simp; done) | (simp [*]; done)), H', ⟨Nat.le_refl _⟩, by repeat (first | exact Drawn0.refl _ | apply Drawn0.step)⟩
    case round =>
      clear H'
      try clear c1
      try clear c2
      try clear p2
      try clear c3
      try clear c3b0
      try clear c3b1
      try clear c3b2
      obtain ⟨x13_1, rfl, HA, HK1, ⟨m1, rfl⟩⟩ := hrel
      cases gk with
      | zero => exact absurd HA.out (by simp [slices_Equal_string_string.l0])
      | succ k1 =>
        have H := HA.out
        clear HA
        simp only [slices_Equal_string_string.l0] at H
        by_cases c4 : x13_1 < (l0.length : Int)
        · rw [if_pos c4] at H
          have c4b0 : decide (x13_1 < (l0.length : Int)) = true := decide_eq_true c4
          clear c4
          by_cases c5 : 0 ≤ x13_1
          · rw [if_pos c5] at H
            have c5b0 : decide (0 ≤ x13_1) = true := decide_eq_true c5
            clear c5
            by_cases c6 : x13_1 < (l0.length : Int)
            · rw [if_pos c6] at H
              have c6b0 : decide (x13_1 < (l0.length : Int)) = true := decide_eq_true c6
              clear c6
              by_cases c7 : x13_1 < (l1.length : Int)
              · rw [if_pos c7] at H
                have c7b0 : decide (x13_1 < (l1.length : Int)) = true := decide_eq_true c7
                clear c7
                by_cases c8 : (rdOf ByteArray.empty l0 x13_1).toList = (rdOf ByteArray.empty l1 x13_1).toList
                · rw [if_pos c8] at H
                  have c8b0 : ((rdOf ByteArray.empty l0 x13_1).toList == (rdOf ByteArray.empty l1 x13_1).toList) = true := beq_iff_eq.mpr c8
                  have c8b1 : ((rdOf ByteArray.empty l0 x13_1).toList != (rdOf ByteArray.empty l1 x13_1).toList) = false := bne_eq_false_iff_eq.mpr c8
                  clear c8
                  have H' := Aside0.mk H
                  clear H
                  have p110 : 0 ≤ (x13_1 : Int) := of_decide_eq_true (by first | (with_reducible assumption) | assumption)
                  have q110 : x13_1 < (l0.length : Int) := of_decide_eq_true (by first | (with_reducible assumption) | assumption)
                  obtain ⟨ad110, e110, hx110_0⟩ := Kd.at_string HR0.out x13_1 p110 q110
                  cases e110
                  replace p110 := eq_true p110
                  replace q110 := eq_true q110
                  have p111 : 0 ≤ (x13_1 : Int) := of_decide_eq_true (by first | (with_reducible assumption) | assumption)
                  have q111 : x13_1 < (l1.length : Int) := of_decide_eq_true (by first | (with_reducible assumption) | assumption)
                  obtain ⟨ad111, e111, hx111_0⟩ := Kd.at_string HR1.out x13_1 p111 q111
                  cases e111
                  replace p111 := eq_true p111
                  replace q111 := eq_true q111
                  go_wp2
                  repeat (go_quiet (fail); try go_wp2)
                  go_roundg k1
                  case measure => have := HK1.out; omega
                  case rel => exact ⟨(wrap64 (x13_1 + 1)), (by first | rfl | (simp; done) | (simp [*]; done)), H', ⟨by have := HK1.out; omega⟩, by repeat (first | exact Drawn0.refl _ | apply Drawn0.step)⟩
                · rw [if_neg c8] at H
                  have c8b0 : ((rdOf ByteArray.empty l0 x13_1).toList == (rdOf ByteArray.empty l1 x13_1).toList) = false := beq_eq_false_iff_ne.mpr c8
                  have c8b1 : ((rdOf ByteArray.empty l0 x13_1).toList != (rdOf ByteArray.empty l1 x13_1).toList) = true := bne_iff_ne.mpr c8
                  obtain rfl := Option.some.inj H
                  have p110 : 0 ≤ (x13_1 : Int) := of_decide_eq_true (by first | (with_reducible assumption) | assumption)
                  have q110 : x13_1 < (l0.length : Int) := of_decide_eq_true (by first | (with_reducible assumption) | assumption)
                  obtain ⟨ad110, e110, hx110_0⟩ := Kd.at_string HR0.out x13_1 p110 q110
                  cases e110
                  replace p110 := eq_true p110
                  replace q110 := eq_true q110
                  have p111 : 0 ≤ (x13_1 : Int) := of_decide_eq_true (by first | (with_reducible assumption) | assumption)
                  have q111 : x13_1 < (l1.length : Int) := of_decide_eq_true (by first | (with_reducible assumption) | assumption)
                  obtain ⟨ad111, e111, hx111_0⟩ := Kd.at_string HR1.out x13_1 p111 q111
                  cases e111
                  replace p111 := eq_true p111
                  replace q111 := eq_true q111
                  go_wp2
                  repeat (go_quiet (fail); try go_wp2)
                  go_ret
                  exact ⟨by first | rfl | (simp; done) | (simp [*]; done), by repeat (first | exact Drawn0.refl _ | apply Drawn0.step)⟩
              · rw [if_neg c7] at H
                exact absurd H (by simp)
            · rw [if_neg c6] at H
              exact absurd H (by simp)
          · rw [if_neg c5] at H
            exact absurd H (by simp)
        · rw [if_neg c4] at H
          have c4b0 : decide (x13_1 < (l0.length : Int)) = false := decide_eq_false c4
          clear c4
          obtain rfl := Option.some.inj H
          go_wp2
          repeat (go_quiet (fail); try go_wp2)
          go_ret
          exact ⟨by first | rfl | (simp; done) | (simp [*]; done), by repeat (first | exact Drawn0.refl _ | apply Drawn0.step)⟩
  · rw [if_neg c3] at H
    have c3b0 : ((l0.length : Int) == (l1.length : Int)) = false := beq_eq_false_iff_ne.mpr c3
    have c3b1 : ((l0.length : Int) != (l1.length : Int)) = true := bne_iff_ne.mpr c3
    have c3b2 : (l0.length == l1.length) = false := by first | simpa using c3 | (simp at c3 ⊢; omega)
    obtain rfl := Option.some.inj H
    go_enter Try.func20, Try.ntmps20
    go_wp2
    repeat (go_quiet (fail); try go_wp2)
    go_ret
    exact ⟨by first | rfl | (simp; done) | (simp [*]; done), by repeat (first | exact Drawn0.refl _ | apply Drawn0.step)⟩

/-! ### slices_Sort_string_string: function 35 -/
def slices_Sort_string_string.ren : Go.Shelf.Ren := ⟨fun | 6 => 35 | 8 => 40 | 9 => 39 | 19 => 51 | 20 => 52 | 21 => 42 | 22 => 43 | 23 => 44 | 24 => 45 | 25 => 46 | 26 => 47 | 27 => 48 | 28 => 49 | 29 => 50 | 36 => 53 | 31 => 54 | 32 => 55 | 37 => 56 | 38 => 57 | 39 => 58 | 41 => 59 | n => n, fun | 27 => 31 | 29 => 9 | 3 => 3 | 32 => 72 | 26 => 31 | 0 => 0 | 44 => 86 | 46 => 88 | 4 => 4 | 36 => 79 | 35 => 78 | 41 => 59 | 5 => 5 | 9 => 9 | 53 => 89 | 57 => 93 | 63 => 96 | 64 => 49 | n => n, fun n => n⟩
theorem slices_Sort_string_string.lay : Go.Proofs.SlLaysM.n6 Try.prog slices_Sort_string_string.ren := { mixed := by kernel_rfl, f6 := ⟨Try.f35.name, by decide, Try.func35.trans (congrArg some (by kernel_rfl))⟩, f8 := Try.func40.trans (congrArg some (by kernel_rfl)), f9 := ⟨Try.f39.name, by decide, Try.func39.trans (congrArg some (by kernel_rfl))⟩, f19 := Try.func51.trans (congrArg some (by kernel_rfl)), f20 := Try.func52.trans (congrArg some (by kernel_rfl)), f21 := ⟨Try.f42.name, by decide, Try.func42.trans (congrArg some (by kernel_rfl))⟩, f22 := ⟨Try.f43.name, by decide, Try.func43.trans (congrArg some (by kernel_rfl))⟩, f23 := ⟨Try.f44.name, by decide, Try.func44.trans (congrArg some (by kernel_rfl))⟩, f24 := ⟨Try.f45.name, by decide, Try.func45.trans (congrArg some (by kernel_rfl))⟩, f25 := ⟨Try.f46.name, by decide, Try.func46.trans (congrArg some (by kernel_rfl))⟩, f26 := ⟨Try.f47.name, by decide, Try.func47.trans (congrArg some (by kernel_rfl))⟩, f27 := ⟨Try.f48.name, by decide, Try.func48.trans (congrArg some (by kernel_rfl))⟩, f28 := ⟨Try.f49.name, by decide, Try.func49.trans (congrArg some (by kernel_rfl))⟩, f29 := ⟨Try.f50.name, by decide, Try.func50.trans (congrArg some (by kernel_rfl))⟩, f31 := Try.func54.trans (congrArg some (by kernel_rfl)), f32 := Try.func55.trans (congrArg some (by kernel_rfl)), f36 := ⟨Try.f53.name, by decide, Try.func53.trans (congrArg some (by kernel_rfl))⟩, f37 := ⟨Try.f56.name, by decide, Try.func56.trans (congrArg some (by kernel_rfl))⟩, f38 := ⟨Try.f57.name, by decide, Try.func57.trans (congrArg some (by kernel_rfl))⟩, f39 := ⟨Try.f58.name, by decide, Try.func58.trans (congrArg some (by kernel_rfl))⟩, f41 := ⟨Try.f59.name, by decide, Try.func59.trans (congrArg some (by kernel_rfl))⟩, t0 := Try.underlying0, a0 := Try.isAgg0, z0 := Try.sizeOf0, v0 := Try.zeroValue0, t3 := Try.underlying3, a3 := Try.isAgg3, z3 := Try.sizeOf3, v3 := Try.zeroValue3, t4 := Try.underlying4, a4 := Try.isAgg4, z4 := Try.sizeOf4, v4 := Try.zeroValue4, t5 := Try.underlying5, a5 := Try.isAgg5, z5 := Try.sizeOf5, v5 := Try.zeroValue5, t9 := Try.underlying9, a9 := Try.isAgg9, z9 := Try.sizeOf9, v9 := Try.zeroValue9, t26 := Try.underlying31, a26 := Try.isAgg31, z26 := Try.sizeOf31, v26 := Try.zeroValue31, t27 := Try.underlying31, a27 := Try.isAgg31, z27 := Try.sizeOf31, v27 := Try.zeroValue31, t29 := Try.underlying9, a29 := Try.isAgg9, z29 := Try.sizeOf9, v29 := Try.zeroValue9, t32 := Try.underlying72, a32 := Try.isAgg72, z32 := Try.sizeOf72, v32 := Try.zeroValue72, t35 := Try.underlying78, a35 := Try.isAgg78, z35 := Try.sizeOf78, v35 := Try.zeroValue78, t36 := Try.underlying79, a36 := Try.isAgg79, z36 := Try.sizeOf79, v36 := Try.zeroValue79, t41 := Try.underlying59, a41 := Try.isAgg59, z41 := Try.sizeOf59, v41 := Try.zeroValue59, t44 := Try.underlying86, a44 := Try.isAgg86, z44 := Try.sizeOf86, v44 := Try.zeroValue86, t46 := Try.underlying88, a46 := Try.isAgg88, z46 := Try.sizeOf88, v46 := Try.zeroValue88, t53 := Try.underlying89, a53 := Try.isAgg89, z53 := Try.sizeOf89, v53 := Try.zeroValue89, t57 := Try.underlying93, a57 := Try.isAgg93, z57 := Try.sizeOf93, v57 := Try.zeroValue93, t63 := Try.underlying96, a63 := Try.isAgg96, z63 := Try.sizeOf96, v63 := Try.zeroValue96, t64 := Try.underlying49, a64 := Try.isAgg49, z64 := Try.sizeOf49, v64 := Try.zeroValue49 }
def slices_Sort_string_string.f (l0 : List ByteArray) : Option (List ByteArray) := if l0.length < 4611686018427387904 then (some (sortStr l0)) else (none)
set_option maxHeartbeats 8000000 in
set_option maxRecDepth 100000 in
theorem slices_Sort_string_string.calls (P0_ : Nat → Prop) (u9000_ : Value) (l0 : List ByteArray) (r : List ByteArray) (w0 w : World) (hB : Below w0.heap.size w0 w) (ho0 : Kd.R Kd.string 9 w w0.heap.size P0_ u9000_ l0) (h : slices_Sort_string_string.f l0 = some r) :
    Calls Try.prog 35 #[u9000_] w fun e w' => e = .returned (.tuple #[]) ∧ Kd.R Kd.string 9 w' w0.heap.size (fun k_ => (P0_ k_ ∨ w.heap.size ≤ k_)) u9000_ r ∧ Below w0.heap.size w0 w' ∧ Kept w w' (fun k_ => P0_ k_) := by
  have H : (if l0.length < 4611686018427387904 then (some (sortStr l0)) else (none)) = some r := h
  clear h
  by_cases c1 : l0.length < 4611686018427387904
  · rw [if_pos c1] at H
    obtain rfl := Option.some.inj H
    clear H
    have ho1 : (Kd.scalar Value.string (fun _ => rfl)).R 9 w w0.heap.size P0_ u9000_ l0 := ho0
    obtain ⟨A0, c0, rfl⟩ := Kd.R_slice ho0
    cases A0 with
    | none =>
      obtain rfl := List.eq_nil_of_length_eq_zero (R_none_ ho1)
      have hcon := Go.Proofs.AnyM.slices_Sort_string_none slices_Sort_string_string.lay none c0 w
      change Calls Try.prog 35 _ _ _ at hcon
      refine hcon.mono ?_
      rintro e w' ⟨rfl, rfl⟩
      have e0 : sortStr [] = [] := by simp [sortStr]
      rw [e0]
      exact ⟨rfl, Kd.R_mono ho0 (fun k hk => .inl hk), hB, Kept.refl _ _⟩
    | some ad =>
      obtain ⟨g, rfl⟩ := Kd.R_head ho0
      have hcon := Go.Proofs.AnyM.slices_Sort_string slices_Sort_string_string.lay g 0 c0 (l0.map fun s => s.data.toList) w (holds_str ho0) (R_in ho1) (by rw [List.length_map]; exact c1)
      change Calls Try.prog 35 _ _ _ at hcon
      rw [List.length_map] at hcon
      refine hcon.mono ?_
      rintro e w' ⟨rfl, q, os, hq⟩
      obtain ⟨h1, h2⟩ := R_sortStr ho0 hq
      have hP : P0_ g := ho0.1 g (by simp [Value.ownBlock])
      refine ⟨rfl, Kd.R_mono h1 (fun k hk => .inl hk), hB.grown h2 (below_size hB) (fun k hk => by injection hk with hk; subst hk; exact Kd.R_base ho0 _ (by simp [Value.ownBlock])), h2.size, fun k hk hs => h2.block k hk (fun he => hs (by injection he with he; subst he; exact hP))⟩
  · rw [if_neg c1] at H
    exact absurd H (by simp)

end Go.Proofs.Ytchjgjpoephljaa.PWordGrows
