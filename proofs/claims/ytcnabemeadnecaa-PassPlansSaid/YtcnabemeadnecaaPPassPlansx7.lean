-- written by prn.py, a program of this session, over the kit's printer
import Derived.Test.YtcnabemeadnecaaPPassPlansx0
import Derived.Test.YtcnabemeadnecaaPPassPlansx4
import Derived.Test.YtcnabemeadnecaaPPassPlansx5
import Derived.Test.YtcnabemeadnecaaPPassPlansx6
namespace Go.Proofs.Ytcnabemeadnecaa.PPassPlans
open Go.RowKit Go.Proofs.YtcnabemeadnecaaW.PrintWords Go.Proofs.YtcnabemeadnecaaW.PrintLast Go.Proofs.YtcnabemeadnecaaW.PrintMore Go.Proofs.YtcnabemeadnecaaW.PrintMine
attribute [local go_sem] max2_int min2_int max_two min_two max_three min_three max_four min_four   -- for this text's walks alone
set_option linter.unusedVariables false
set_option linter.unusedSimpArgs false

/-! ### pass_Cheapest: function 19 -/
theorem count_take_succ (a : Int) (xs : List Int) (y : Nat) (h : y < xs.length) : (xs.take (y + 1)).count a = (xs.take y).count a + (if rdOf 0 xs (y : Int) = a then 1 else 0) := by
  have e : rdOf (0 : Int) xs (y : Int) = xs[y] := by simp [rdOf, h]
  rw [List.take_succ_eq_append_getElem h, List.count_append, e, List.count_singleton]
  by_cases c : xs[y] = a
  · simp [c]
  · simp [c, beq_eq_false_iff_ne.mpr c]
theorem put2 {W : World} {g : Nat} {t : TypeId} {a b : Value} (h : W.heap[g]? = some (.cells #[a, b] t (0, 0))) (a' b' : Value) :
    ((W.setCell ⟨g, 0, none⟩ a').setCell ⟨g, 1, none⟩ b').heap[g]? = some (.cells #[a', b'] t (0, 0)) ∧
    (∀ k, k ≠ g → ((W.setCell ⟨g, 0, none⟩ a').setCell ⟨g, 1, none⟩ b').heap[k]? = W.heap[k]?) ∧
    (∀ (m : Nat) (w : World), Below m w W → m ≤ g → Below m w ((W.setCell ⟨g, 0, none⟩ a').setCell ⟨g, 1, none⟩ b')) :=
  ⟨blk_put (blk_put h 0 _ rfl) 1 _ rfl, fun k hk => (Below.heap_setCell _ ⟨g, 1, none⟩ _ k hk).trans (Below.heap_setCell _ ⟨g, 0, none⟩ _ k hk), fun m w hb hg => Below.setCell (Below.setCell hb (p := ⟨g, 0, none⟩) hg _) (p := ⟨g, 1, none⟩) hg _⟩
/-- slices.Clone at ints. -/
theorem cloneI (A0 : Option Addr) (c0 : Nat) (l0 : List Int) (w : World) (hr0 : Kd.C (Kd.int .i64) w A0 l0.length l0) (hc0 : l0.length ≤ c0) (c1 : l0.length ≤ 65536) :
    Calls Try.prog 33 #[.slice A0 l0.length c0] w fun e w' => ∃ v0_ : Value, e = .returned (v0_) ∧ Kd.R (Kd.int .i64) 3 w' w.heap.size (fun _ => True) v0_ l0 ∧ Below w.heap.size w w' := by
  have q1 : ∀ (w : World) (a : Option Addr) (n c n' c' : Nat), (binOp .eql 22 (.slice a n c) (.slice none n' c')).run Try.prog w = .ok (.bool a.isNone) w := fun w a n c n' c' => Go.Lib.run_eql_slice_nil w _ _ a n c n' c' Try.underlying22
  cases A0 with
  | none =>
    have h0 : l0.length = 0 := by
      rcases Nat.eq_zero_or_pos l0.length with h0 | h0
      · exact h0
      · obtain ⟨ad, h, _⟩ := hr0.2.2 h0
        cases h
    obtain rfl := List.eq_nil_of_length_eq_zero h0
    clear hr0 hc0 c1 h0
    go_enter Try.func33, Try.ntmps33
    go_wp2
    go_ret
    exact ⟨_, rfl, Kd.R_nil _ _ _ _ _, Below.refl _ _⟩
  | some ad =>
    have HR := Aside0.mk hr0
    have C1 := Aside0.mk (show (([] : List Int).length + l0.length) * 8 ≤ 140737488355328 from by simp only [List.length_nil]; omega)
    clear hr0 hc0 c1
    go_enter Try.func33, Try.ntmps33
    go_wp2_with (first | (at_builtin; refine Kd.R_append_rows (Kd.int .i64) (w0 := w) w.heap.size rfl (.tmp 5) (.tmp 6) 22 3 (.int .i64 0) 8 rfl Try.underlying22 info3 rfl (by decide) (by omega) (.slice (some ⟨w.heap.size, 0, none⟩) 0 0) [] l0 (some ad) _ _ (fun _ => True) (fun _ => False) rfl rfl ⟨fun _ _ => trivial, [], World.ownsRow_made w #[] 0 (Nat.le_refl _) (Nat.zero_le _) (by simp), Reps.none _ _⟩ (Kd.C_below HR.out (below_alloc (Below.refl _ _) _)) (fun _ _ h => h) (fun _ h => h.elim) (fun _ _ => trivial) (below_alloc (Below.refl _ _) _) (by simp) C1.out ?_; intro v1 w1 ho hb hg hat; clear hg hat; rw [List.nil_append] at ho; have HO := Aside0.mk ho; have HB := Aside0.mk hb; clear ho hb))
    go_ret
    exact ⟨_, rfl, HO.out, HB.out⟩
theorem isbad_gives (x : Int) (W : World) : FnGives Try.prog 34 #[] #[.int .i64 x] (.bool (x != 1)) W := by
  show Calls Try.prog 34 #[.int .i64 x] W _
  go_enter Try.func34, Try.ntmps34
  go_wp2
  go_ret
  exact ⟨rfl, 0, rfl⟩
def delren : Go.Shelf.Ren := ⟨fun | 6 => 37 | 10 => 32 | n => n, fun | 0 => 0 | 3 => 3 | 4 => 4 | 22 => 22 | 23 => 3 | 25 => 73 | n => n, fun n => n⟩
theorem dellay : Go.Proofs.SlLaysH.n10 Try.prog delren := { mixed := by kernel_rfl, f6 := ⟨Try.f37.name, by decide, Try.func37.trans (congrArg some (by kernel_rfl))⟩, f10 := ⟨Try.f32.name, by decide, Try.func32.trans (congrArg some (by kernel_rfl))⟩, t0 := Try.underlying0, a0 := Try.isAgg0, z0 := Try.sizeOf0, v0 := Try.zeroValue0, t3 := Try.underlying3, a3 := Try.isAgg3, z3 := Try.sizeOf3, v3 := Try.zeroValue3, t4 := Try.underlying4, a4 := Try.isAgg4, z4 := Try.sizeOf4, v4 := Try.zeroValue4, t22 := Try.underlying22, a22 := Try.isAgg22, z22 := Try.sizeOf22, v22 := Try.zeroValue22, a23 := Try.isAgg3, z23 := Try.sizeOf3, t25 := Try.underlying73, a25 := Try.isAgg73, z25 := Try.sizeOf73, v25 := Try.zeroValue73 }
theorem delF {g n c base : Nat} {ok : Nat → Prop} {xs : List Int} {w : World} (HO : (Kd.int .i64).R 3 w base ok (.slice (some ⟨g, 0, none⟩) n c) xs) (hxs : xs.length ≤ 65536) :
    Calls Try.prog 32 #[.slice (some ⟨g, 0, none⟩) n c, .func (.func 34) #[] #[]] w fun e w' => e = .returned (.slice (some ⟨g, 0, none⟩) (xs.count 1) c) ∧ w.grownBy w' (some g) := by
  obtain ⟨hn, hnc, _⟩ := Kd.R_reads' HO
  have eg : ∀ args w, (callFunc 34 args).run Try.prog w = .ok (.enter 34 args) w := enters_of Try.func34 (by kernel_rfl) rfl
  have hcon := AnyE.slices_DeleteFunc dellay (Value.int .i64) (fun _ => rfl) (fun x => x != 1) 34 #[] eg 0 Try.zeroValue3 g 0 c xs.toArray w (fun W x _ => isbad_gives x W) (fun m os dk x _ => isbad_gives x _) (R_holdsI HO) (by simp; omega) (by simp; omega)
  have hf : (xs.filter fun x => !(x != 1)) = xs.filter (· == 1) := List.filter_congr (fun x _ => by cases h : x == 1 <;> simp [bne, h])
  rw [show xs.toArray.toList = xs from rfl, hf, ← List.count_eq_length_filter] at hcon
  subst hn
  have hcon' : Calls Try.prog 32 #[.slice (some ⟨g, 0, none⟩) xs.length c, .func (.func 34) #[] #[]] w _ := hcon
  refine hcon'.mono ?_
  rintro e w' ⟨rfl, q, hW⟩
  refine ⟨rfl, put_grownI HO _ ?_ hW⟩
  rw [List.length_append, List.length_replicate, ← List.count_eq_length_filter]
  have : xs.count 1 ≤ xs.length := List.count_le_length
  simp
  omega
set_option maxHeartbeats 4000000 in
set_option maxRecDepth 100000 in
/-- pass.Cheapest's closure: how many blocks are good. -/
theorem goodC {bs cs nB cB nR cR base n : Nat} {AB AR : Option Addr} {tm : Int} {S : List Int} {w : World} {ok : Nat → Prop} (HS : (Kd.int .i64).R 3 w base ok (.slice (some ⟨bs, 0, none⟩) n cs) S) (h0 : 1 ≤ S.length) (h1 : S.length ≤ 65536) :
    Calls Try.prog 31 #[.agg #[.slice (some ⟨bs, 0, none⟩) n cs, .slice AB nB cB, .slice AR nR cR, .int .i64 tm]] w fun e w' => e = .returned (.int .i64 (S.count 1)) ∧ Below w.heap.size w w' := by
  obtain ⟨hn, hnc, hC⟩ := Kd.R_reads' HS
  subst hn
  have HC := Aside0.mk hC
  have HNC := Aside0.mk hnc
  have hcl : S.count 1 ≤ S.length := List.count_le_length
  clear HS hC hnc
  go_enter Try.func31, Try.ntmps31
  go_upto_region 1 with (first | ((with_reducible refine gate_dst (N := 1) rfl ?_); refine box_event ?hg (N := 1) ?hd (cs := #[.slice (some ⟨bs, 0, none⟩) S.length cs, .slice AB nB cB, .slice AR nR cR, .int .i64 tm]) (t := 46) ?hr ?_; (case hd => rfl); (case hg => rfl); (case hr => first | (go_simp; done) | (go_simp; rfl)); intro g1 hg W1 hbox hb; have BK1 := Aside0.mk hbox; have HB1 := Aside0.mk hb; clear hb hbox hg))
  have x0 : W1.cell? ⟨g1, 0, none⟩ = some (.slice (some ⟨bs, 0, none⟩) S.length cs) := (blk_cell BK1.out 0).trans rfl
  go_wp2_with (first | (go_at_call 33; refine (cloneI (some ⟨bs, 0, none⟩) cs S _ (Kd.C_below HC.out HB1.out) HNC.out h1).mono ?_; rintro e w2 ⟨v2, rfl, hR, hb⟩; obtain ⟨g2, c2, e2, hg2, -⟩ := Kd.R_form hR h0; subst e2; have HR2 := Aside0.mk hR; have HB2 := Aside0.mk (below_step HB1.out hb); have HG2 := Aside0.mk (Nat.le_trans HB1.out.size hg2); clear hR hb hg2) | (go_at_call 32; refine (delF HR2.out h1).mono ?_; rintro e w3 ⟨rfl, hg⟩; have HB3 := Aside0.mk (HB2.out.grown hg HB2.out.size (fun k e => by injection e with e; have := HG2.out; omega)); clear hg))
  go_ret
  exact ⟨rfl, HB3.out⟩
set_option maxHeartbeats 4000000 in
set_option maxRecDepth 100000 in
/-- PassPlans' closure: the same by a loop. -/
theorem cntC {bs cs nB cB nR cR base n : Nat} {AB AR : Option Addr} {tm : Int} {S : List Int} {w : World} {ok : Nat → Prop} (HS : (Kd.int .i64).R 3 w base ok (.slice (some ⟨bs, 0, none⟩) n cs) S) (h1 : S.length ≤ 65536) :
    Calls Try.prog 20 #[.agg #[.slice (some ⟨bs, 0, none⟩) n cs, .slice AB nB cB, .slice AR nR cR, .int .i64 tm]] w fun e w' => e = .returned (.int .i64 (S.count 1)) ∧ Below w.heap.size w w' := by
  obtain ⟨hn, hnc, hC⟩ := Kd.R_reads' HS
  subst hn
  have HSA := Aside0.mk HS
  clear HS hC hnc
  go_enter Try.func20, Try.ntmps20
  go_upto_region 1 with (first | ((with_reducible refine gate_dst (N := 1) rfl ?_); refine box_event ?hg (N := 1) ?hd (cs := #[.slice (some ⟨bs, 0, none⟩) S.length cs, .slice AB nB cB, .slice AR nR cR, .int .i64 tm]) (t := 46) ?hr ?_; (case hd => rfl); (case hg => rfl); (case hr => first | (go_simp; done) | (go_simp; rfl)); intro g1 hg W1 hbox hb; have BK1 := Aside0.mk hbox; have HB1 := Aside0.mk hb; clear hb hbox hg))
  have x0 : W1.cell? ⟨g1, 0, none⟩ = some (.slice (some ⟨bs, 0, none⟩) S.length cs) := (blk_cell BK1.out 0).trans rfl
  have HS1 := Aside0.mk (Kd.R_below HSA.out HB1.out)
  go_upto_region 3 with (fail)
  clear x0
  go_loopw [9, 3] (fun i mv wr => ∃ (y c : Nat), y ≤ S.length ∧ i = .int .i64 y ∧ mv = .int .i64 c ∧ c ≤ 100000 ∧ Aside0 (c = (S.take y).count 1) ∧ Aside0 (wr = W1)) (fun i _ _ => S.length - (intOf i).toNat)
  case atStart => exact ⟨0, 0, Nat.zero_le _, rfl, rfl, by omega, ⟨by simp⟩, ⟨rfl⟩⟩
  case round =>
    obtain ⟨y, c, g1, rfl, rfl, g2, HCc, HW⟩ := hrel
    obtain rfl := HW.out
    by_cases hy : y < S.length
    · obtain ⟨z0, -⟩ := Kd.R_celln 0 HS1.out (y : Int) (by omega) (by omega)
      rw [Int.toNat_natCast] at z0
      have hst := count_take_succ 1 S y hy
      rw [← HCc.out] at hst
      have hcl : (S.take (y + 1)).count 1 ≤ S.length := Nat.le_trans (List.count_le_length) (by rw [List.length_take]; omega)
      obtain ⟨q, hq⟩ : ∃ q, rdOf (0 : Int) S (y : Int) = q := ⟨_, rfl⟩
      rw [hq] at z0 hst
      clear hq
      by_cases hqx : q = 1
      · subst hqx
        rw [if_pos rfl] at hst
        have HST := Aside0.mk hst
        have hc1 : c + 1 ≤ 100000 := by omega
        clear hst hcl
        go_wp2
        go_roundw
        case rel => exact ⟨y + 1, c + 1, by omega, by go_num, by go_num, hc1, ⟨HST.out.symm⟩, ⟨by first | trivial | rfl⟩⟩
        case measure => simp [intOf]; omega
      · rw [if_neg hqx] at hst
        have HST := Aside0.mk hst
        have tq : (q == 1) = false := beq_eq_false_iff_ne.mpr hqx
        clear hst hcl
        go_wp2
        go_roundw
        case rel => exact ⟨y + 1, c, by omega, by go_num, rfl, g2, ⟨HST.out.symm⟩, ⟨by first | trivial | rfl⟩⟩
        case measure => simp [intOf]; omega
    · have ey : y = S.length := by omega
      subst ey
      have hcc := HCc.out
      rw [List.take_length] at hcc
      subst hcc
      go_wp2
      go_ret
      exact ⟨rfl, HB1.out⟩
/-- More blocks are good, or as many in less time. -/
def better (r f : JS) : Prop := f.S.count 1 < r.S.count 1 ∨ (r.S.count 1 = f.S.count 1 ∧ r.tm < f.tm)
instance (r f : JS) : Decidable (better r f) := inferInstanceAs (Decidable (_ ∨ _))
/-- The first best one of the runs up to n. -/
def bestJ (Js : Nat → JS) : Nat → Nat
  | 0 => 0
  | n + 1 => if better (Js (n + 1)) (Js (bestJ Js n)) then n + 1 else bestJ Js n
theorem bestJ_le (Js : Nat → JS) : ∀ n, bestJ Js n ≤ n
  | 0 => Nat.le_refl _
  | n + 1 => by
    unfold bestJ
    split
    · exact Nat.le_refl _
    · exact Nat.le_succ_of_le (bestJ_le Js n)
/-- Block g has a result: states S in a row of its own, and so on. -/
def IsRes (w : World) (base g nb : Nat) (j : JS) : Prop := ∃ (bs cs nB cB nR cR : Nat) (AB AR : Option Addr), w.heap[g]? = some (.cells #[.slice (some ⟨bs, 0, none⟩) nb cs, .slice AB nB cB, .slice AR nR cR, .int .i64 j.tm] 46 (0, 0)) ∧ Kd.R (Kd.int .i64) 3 w base (fun _ => True) (.slice (some ⟨bs, 0, none⟩) nb cs) j.S
theorem IsRes.below {w W : World} {base g nb : Nat} {j : JS} (h : IsRes w base g nb j) (hb : Below w.heap.size w W) : IsRes W base g nb j := by
  obtain ⟨bs, cs, nB, cB, nR, cR, AB, AR, h1, h2⟩ := h
  exact ⟨bs, cs, nB, cB, nR, cR, AB, AR, blk_below h1 hb, Kd.R_below h2 hb⟩
theorem held8 {w w' : World} {p0 p1 p2 p3 q0 q1 q2 q3 : Addr} {a0 a1 a2 a3 b0 b1 b2 b3 : Value} (h0 : w.cell? p0 = some a0) (h1 : w.cell? p1 = some a1) (h2 : w.cell? p2 = some a2) (h3 : w.cell? p3 = some a3) (k0 : w.cell? q0 = some b0) (k1 : w.cell? q1 = some b1) (k2 : w.cell? q2 = some b2) (k3 : w.cell? q3 = some b3) (h : Below w.heap.size w w') :
    w'.cell? p0 = some a0 ∧ w'.cell? p1 = some a1 ∧ w'.cell? p2 = some a2 ∧ w'.cell? p3 = some a3 ∧ w'.cell? q0 = some b0 ∧ w'.cell? q1 = some b1 ∧ w'.cell? q2 = some b2 ∧ w'.cell? q3 = some b3 ∧ Below w.heap.size w w' :=
  ⟨(h.cell (World.block_lt_of_cell? w _ h0)).trans h0, (h.cell (World.block_lt_of_cell? w _ h1)).trans h1, (h.cell (World.block_lt_of_cell? w _ h2)).trans h2, (h.cell (World.block_lt_of_cell? w _ h3)).trans h3, (h.cell (World.block_lt_of_cell? w _ k0)).trans k0, (h.cell (World.block_lt_of_cell? w _ k1)).trans k1, (h.cell (World.block_lt_of_cell? w _ k2)).trans k2, (h.cell (World.block_lt_of_cell? w _ k3)).trans k3, h⟩
theorem goesv_ {ops : Array Oper} {Q : Exit → Act → World → Prop} {oi : Oper} {N : Option Tmp} {a : Act} {w : World} {K : Act → World → Prop} {f : FuncId} {fn : Func} {i : Tmp} {as_ : Array Operand} {ts : Array TypeId} (hf : Try.prog.funcs[f]? = some fn) (hname : (fn.name == "runtime.NumGoroutine") = false) (hb : fn.body.isSome = true) (args : Array Value)
    (hw : Region.wanted oi (yielded ops a.tmps) = true) (hN : oi.dst = N) (hop : oi.op = .call { callee := .value (.tmp i), args := as_, argTypes := ts }) (hv : a.eval (.tmp i) = .func (.func f) #[] #[]) (hargs : as_.map a.eval = args)
    (h : Calls Try.prog f args w fun e w' => ∃ v, e = .returned v ∧ K (a.put N v) w') : if Region.wanted oi (yielded ops a.tmps) = true then Oper.wp Try.prog oi a w K Q else K (a.put N undef) w := by
  refine call_ f args hw hN ?_ h
  have he := enters_ hf hname hb args w
  unfold execOp
  simp [hop, resolve, Deferred.ofValue, invoke, hv, hargs, he]
theorem held_step {w w1 w2 : World} (h : Below w.heap.size w w1) (hb : Below w1.heap.size w1 w2) : Below w.heap.size w w2 := below_step h hb
set_option maxHeartbeats 4000000 in
set_option maxRecDepth 100000 in
theorem pass_Cheapest.calls (k : Nat) (A0 : Option Addr) (c0 : Nat) (D : List Int) (A1 : Option Addr) (c1 : Nat) (F : List S59) (Ks Ts : Nat → Nat) (nb : Nat) (ft : Nat → Int × Int × Int) (Js : Nat → JS) (gl cl : Nat) (w : World) (hr0 : Kd.C (Kd.int .u8) w A0 D.length D) (hc0 : D.length ≤ c0) (hr1 : Kd.C k59 w A1 F.length F) (hc1 : F.length ≤ c1) (h : drive_New.f k D F = some ())
    (hK : ∀ x < 3, Ks x ≤ 64 ∧ 1 ≤ Ts x ∧ Ts x ≤ 16) (hnb0 : 1 ≤ nb) (hD : D.length = 64 * nb) (hD2 : D.length ≤ 65536) (hf : ∀ a < nb, drive_fault.f k D F (a : Int) = some (ft a) ∧ 0 ≤ ansT (ft a) ∧ ansT (ft a) ≤ 100)
    (hgl : gl < w.heap.size) (hL : ∀ x < 3, w.cell? ⟨gl, x * 2, none⟩ = some (.int .i64 (Ks x)) ∧ w.cell? ⟨gl, x * 2 + 1, none⟩ = some (.int .i64 (Ts x))) (hJ : ∀ x < 3, runJ D ft (Ks x) (Ts x) nb = Js x) (hS : ∀ x < 3, (Js x).S.length = nb) :
    Calls Try.prog 19 #[.agg #[.slice A0 D.length c0, .slice A1 F.length c1], .slice (some ⟨gl, 0, none⟩) 3 cl] w fun e w' => e = .returned (.tuple #[.int .i64 ((bestJ Js 2 : Nat) : Int), .int .i64 0]) ∧ Below w.heap.size w w' := by
  have HN := Aside0.mk h
  have HR0 := Aside0.mk hr0
  have HR1 := Aside0.mk hr1
  have HC0 := Aside0.mk hc0
  have HC1 := Aside0.mk hc1
  have HF := Aside0.mk hf
  have HDL := Aside0.mk hD
  have HK := Aside0.mk hK
  have HL := Aside0.mk hL
  have HJ := Aside0.mk hJ
  have HS := Aside0.mk hS
  have hnb1 : nb ≤ 1024 := by omega
  have hu26 := Try.underlying26
  have hu43 := Try.underlying43
  have hu46 := Try.underlying46
  clear h hr0 hr1 hc0 hc1 hf hD hK hL hJ hS
  go_enter Try.func19, Try.ntmps19
  go_upto_region 7 with (first | ((with_reducible refine gate_dst (N := 2) rfl ?_); refine box_event ?hg (N := 2) ?hd (cs := #[.slice A0 D.length c0, .slice A1 F.length c1]) (t := 26) ?hr ?_; (case hd => rfl); (case hg => rfl); (case hr => first | (go_simp; done) | (go_simp; rfl)); intro g2 hg W1 hbox hb; have BK1 := Aside0.mk hbox; have HB1 := Aside0.mk hb; clear hb hbox hg) | ((with_reducible refine gate_dst (N := 7) rfl ?_); refine box_event ?hg (N := 7) ?hd (cs := #[.slice none 0 0, .slice none 0 0, .slice none 0 0, .int .i64 0]) (t := 46) ?hr ?_; (case hd => rfl); (case hg => rfl); (case hr => first | (go_simp; done) | (go_simp; rfl)); intro g7 hg W2 hbox hb; have GE7 := Aside0.mk (by rw [hg]; exact Nat.le_refl _ : W1.heap.size ≤ g7); have BK7 := Aside0.mk hbox; have HB2 := Aside0.mk hb; clear hb hbox hg))
  have HLW : Aside0 (∀ w', Below W1.heap.size W1 w' → w'.cell? ⟨g2, 0, none⟩ = some (.slice A0 D.length c0) ∧ w'.cell? ⟨g2, 1, none⟩ = some (.slice A1 F.length c1) ∧ (∀ x < 3, w'.cell? ⟨gl, x * 2, none⟩ = some (.int .i64 (Ks x)) ∧ w'.cell? ⟨gl, x * 2 + 1, none⟩ = some (.int .i64 (Ts x))) ∧ Kd.C (Kd.int .u8) w' A0 D.length D ∧ Kd.C k59 w' A1 F.length F) := ⟨fun w' hb =>
    ⟨(blk_cell (blk_below BK1.out hb) 0).trans rfl, (blk_cell (blk_below BK1.out hb) 1).trans rfl, fun x hx => ⟨((below_step HB1.out hb).cell (World.block_lt_of_cell? w _ (HL.out x hx).1)).trans (HL.out x hx).1, ((below_step HB1.out hb).cell (World.block_lt_of_cell? w _ (HL.out x hx).2)).trans (HL.out x hx).2⟩, Kd.C_below HR0.out (below_step HB1.out hb), Kd.C_below HR1.out (below_step HB1.out hb)⟩⟩
  go_loopw [18, 6] (fun i bv wr => ∃ (x : Nat), x ≤ 3 ∧ i = .int .i64 x ∧ Aside0 (Below W1.heap.size W1 wr) ∧ Aside0 ((x = 0 ∧ bv = .int .i64 (-1) ∧ wr.heap[g7]? = some (.cells #[.slice none 0 0, .slice none 0 0, .slice none 0 0, .int .i64 0] 46 (0, 0))) ∨ ∃ y, x = y + 1 ∧ bv = .int .i64 ((bestJ Js y : Nat) : Int) ∧ IsRes wr W1.heap.size g7 nb (Js (bestJ Js y)))) (fun i _ _ => 3 - (intOf i).toNat)
  case atStart => exact ⟨0, by omega, rfl, HB2, ⟨Or.inl ⟨rfl, rfl, BK7.out⟩⟩⟩
  case round =>
    obtain ⟨x, h1, rfl, HBr, HX⟩ := hrel
    clear BK7 HB2
    by_cases hlt : x < 3
    · obtain ⟨x0, x1, hpl, hcd, hcf⟩ := HLW.out wr HBr.out
      obtain ⟨q0, q1⟩ := hpl x hlt
      have HCD := Aside0.mk hcd
      have HCF := Aside0.mk hcf
      have HK1 := Aside0.mk (HK.out x hlt)
      have HJ1 := Aside0.mk (HJ.out x hlt)
      have HS1 := Aside0.mk (HS.out x hlt)
      obtain ⟨K, hKx⟩ : ∃ K, Ks x = K := ⟨_, rfl⟩
      obtain ⟨T, hTx⟩ : ∃ T, Ts x = T := ⟨_, rfl⟩
      rw [hKx] at q0 HK1 HJ1
      rw [hTx] at q1 HK1 HJ1
      clear hcd hcf hpl hKx hTx
      go_upto_region 9 with (first | ((with_reducible refine gate_dst (N := 10) rfl ?_); refine box_event ?hg (N := 10) ?hd (cs := #[.int .i64 0, .int .i64 0]) (t := 43) ?hr ?_; (case hd => rfl); (case hg => rfl); (case hr => first | (go_simp; done) | (go_simp; rfl)); intro g10 hg w3 hbox hb; have GE10 := Aside0.mk (by rw [hg]; exact Nat.le_refl _ : wr.heap.size ≤ g10); have BK10 := Aside0.mk hbox; have HB3 := Aside0.mk hb; clear hb hbox hg; have u0 : w3.cell? ⟨g10, 0, none⟩ = some (.int .i64 0) := (blk_cell BK10.out 0).trans rfl; have u1 : w3.cell? ⟨g10, 1, none⟩ = some (.int .i64 0) := (blk_cell BK10.out 1).trans rfl; have f0 := blk_frozen BK10.out 0; have f1 := blk_frozen BK10.out 1))
      clear q0 q1 x0 x1 u0 u1 f0 f1
      obtain ⟨y1, y2, y3⟩ := put2 BK10.out (.int .i64 K) (.int .i64 T)
      have hb4 := y3 _ _ HB3.out GE10.out
      clear y2 y3
      generalize (w3.setCell ⟨g10, 0, none⟩ (.int .i64 K)).setCell ⟨g10, 1, none⟩ (.int .i64 T) = W4 at y1 hb4 ⊢
      have HS4 := Aside0.mk (below_step HBr.out hb4)
      have HT4 := Aside0.mk hb4
      obtain ⟨x0, x1, -, hcd, hcf⟩ := HLW.out W4 HS4.out
      have HCD := Aside0.mk hcd
      have HCF := Aside0.mk hcf
      have q0 : W4.cell? ⟨g10, 0, none⟩ = some (.int .i64 K) := (blk_cell y1 0).trans rfl
      have q1 : W4.cell? ⟨g10, 1, none⟩ = some (.int .i64 T) := (blk_cell y1 1).trans rfl
      clear hb4 hcd hcf y1 BK10 HB3 GE10
      go_upto_region 10 with (first | (go_at_call 17; have HC := (pass_Run.calls k A0 c0 D A1 c1 F K T nb ft _ HCD.out HC0.out HCF.out HC1.out HN.out HK1.out.1 HK1.out.2.1 HK1.out.2.2 hnb0 HDL.out hD2 HF.out); rw [HJ1.out] at HC; refine HC.mono ?_; clear HC; rintro e w5 ⟨vS, vB, vR, rfl, hS3, hB3, hR3, hb⟩; obtain ⟨gS, cS, eS, -⟩ := Kd.R_form hS3 (by rw [HS1.out]; omega); subst eS; obtain ⟨AB, cB, eB⟩ := Kd.R_slice hB3; subst eB; obtain ⟨AR, cR, eR⟩ := Kd.R_slice hR3; subst eR; have HRS5 := Aside0.mk hS3; have HS5 := Aside0.mk (below_step HS4.out hb); have HT5 := Aside0.mk (below_step HT4.out hb); clear hb hR3 hS3 hB3) | ((with_reducible refine gate_dst (N := 11) rfl ?_); refine box_event ?hg (N := 11) ?hd (cs := #[.slice none 0 0, .slice none 0 0, .slice none 0 0, .int .i64 0]) (t := 46) ?hr ?_; (case hd => rfl); (case hg => rfl); (case hr => first | (go_simp; done) | (go_simp; rfl)); intro g11 hg w6 hbox hb; have GE11 := Aside0.mk (by rw [hg]; exact Nat.le_refl _ : w5.heap.size ≤ g11); have BK11 := Aside0.mk hbox; have HT6 := Aside0.mk hb; clear hb hbox hg; have u0 : w6.cell? ⟨g11, 0, none⟩ = some (.slice none 0 0) := (blk_cell BK11.out 0).trans rfl; have u1 : w6.cell? ⟨g11, 1, none⟩ = some (.slice none 0 0) := (blk_cell BK11.out 1).trans rfl; have u2 : w6.cell? ⟨g11, 2, none⟩ = some (.slice none 0 0) := (blk_cell BK11.out 2).trans rfl; have u3 : w6.cell? ⟨g11, 3, none⟩ = some (.int .i64 0) := (blk_cell BK11.out 3).trans rfl; have f0 := blk_frozen BK11.out 0; have f1 := blk_frozen BK11.out 1; have f2 := blk_frozen BK11.out 2; have f3 := blk_frozen BK11.out 3))
      clear q0 q1 x0 x1
      obtain ⟨y1, y2, y3⟩ := put4 BK11.out (.slice (some ⟨gS, 0, none⟩) (Js x).S.length cS) (.slice AB (Js x).B.length cB) (.slice AR (Js x).R.length cR) (.int .i64 (Js x).tm)
      have ht7 := y3 _ _ HT6.out GE11.out
      clear u0 u1 u2 u3 f0 f1 f2 f3 y2 y3
      generalize (((w6.setCell ⟨g11, 0, none⟩ (.slice (some ⟨gS, 0, none⟩) (Js x).S.length cS)).setCell ⟨g11, 1, none⟩ (.slice AB (Js x).B.length cB)).setCell ⟨g11, 2, none⟩ (.slice AR (Js x).R.length cR)).setCell ⟨g11, 3, none⟩ (.int .i64 (Js x).tm) = W7 at y1 ht7 ⊢
      have HT7 := Aside0.mk (below_step HT5.out ht7)
      have HS7 := Aside0.mk (below_step HS5.out ht7)
      have HR7 := Aside0.mk (Kd.R_lower (Kd.R_below HRS5.out ht7) HS4.out.size)
      have BK7 := Aside0.mk y1
      rw [HS1.out] at BK7 HR7
      clear ht7 y1 BK11 HRS5 HT6 HS5 HT5 HS4 HT4 GE11
      rcases HX.out with ⟨rfl, rfl, hz⟩ | ⟨y, rfl, rfl, hres⟩
      · have HZ7 := Aside0.mk (blk_below hz HT7.out)
        clear hz HX
        go_upto_region 12 with (fail)
        go_quiet (fail)
        have hB : Below W7.heap.size W7 (W7.drewN nq) := pw_below_drewN (Below.refl _ _) nq
        generalize W7.drewN nq = w8 at hB ⊢
        have bk8 := blk_below BK7.out hB
        have z0 := (blk_cell bk8 0).trans rfl
        have z1 := (blk_cell bk8 1).trans rfl
        have z2 := (blk_cell bk8 2).trans rfl
        have z3 := (blk_cell bk8 3).trans rfl
        clear bk8
        go_upto_region 13 with (fail)
        go_still_tail 3, (by kernel_rfl)
        change wpList _ _ _ _ _ w8.drew
        have hBd : Below W7.heap.size W7 w8.drew := below_drew1 hB
        have bz := blk_below HZ7.out hBd
        have r8 := Kd.R_below HR7.out hBd
        have s8 := below_step HS7.out hBd
        generalize w8.drew = wd at hBd bz r8 s8 ⊢
        have e0 := blk_frozen bz 0
        have e1 := blk_frozen bz 1
        have e2 := blk_frozen bz 2
        have e3 := blk_frozen bz 3
        have d0 := (blk_cell bz 0).trans rfl
        have d1 := (blk_cell bz 1).trans rfl
        have d2 := (blk_cell bz 2).trans rfl
        have d3 := (blk_cell bz 3).trans rfl
        have BZ := Aside0.mk bz
        have R8 := Aside0.mk r8
        have S8 := Aside0.mk s8
        clear bz r8 s8 hBd
        go_wp2
        obtain ⟨p1, p2, p3⟩ := put4 BZ.out (.slice (some ⟨gS, 0, none⟩) nb cS) (.slice AB (Js 0).B.length cB) (.slice AR (Js 0).R.length cR) (.int .i64 (Js 0).tm)
        have sF := p3 _ _ S8.out GE7.out
        have rF := R_beside R8.out BZ.out (by decide) p2
        clear d0 d1 d2 d3 e0 e1 e2 e3
        generalize (((wd.setCell ⟨g7, 0, none⟩ (.slice (some ⟨gS, 0, none⟩) nb cS)).setCell ⟨g7, 1, none⟩ (.slice AB (Js 0).B.length cB)).setCell ⟨g7, 2, none⟩ (.slice AR (Js 0).R.length cR)).setCell ⟨g7, 3, none⟩ (.int .i64 (Js 0).tm) = WF at p1 sF rF ⊢
        clear p2 p3
        go_roundw
        case rel => 
          refine ⟨1, by omega, by first | rfl | go_num, ⟨sF⟩, ⟨Or.inr ⟨0, rfl, by first | rfl | go_num, ?_⟩⟩⟩
          exact ⟨gS, cS, _, cB, _, cR, AB, AR, p1, rF⟩
        case measure => first | (simp [intOf]; done) | (simp [intOf]; omega)
      · obtain ⟨gZ, cZ, nB, cBz, nR, cRz, ABz, ARz, hz1, hz2⟩ := hres.below HT7.out
        have HZ7 := Aside0.mk hz1
        have HRZ := Aside0.mk hz2
        have hjb : bestJ Js y < 3 := Nat.lt_of_le_of_lt (bestJ_le Js y) (by omega)
        have HSb := Aside0.mk (HS.out _ hjb)
        obtain ⟨jb, hjb2⟩ : ∃ jb, bestJ Js y = jb := ⟨_, rfl⟩
        have HJB := Aside0.mk hjb2
        rw [hjb2] at HZ7 HRZ HSb
        clear hres HX hz1 hz2 hjb2
        go_upto_region 12 with (fail)
        have HG1 : Aside0 (∀ W, Below W7.heap.size W7 W → Calls Try.prog 31 #[.agg #[.slice (some ⟨gS, 0, none⟩) nb cS, .slice AB (Js (y + 1)).B.length cB, .slice AR (Js (y + 1)).R.length cR, .int .i64 (Js (y + 1)).tm]] W fun e w' => e = .returned (.int .i64 ((Js (y + 1)).S.count 1)) ∧ Below W.heap.size W w') := ⟨fun W hb => goodC (Kd.R_below HR7.out hb) (by rw [HS1.out]; omega) (by rw [HS1.out]; omega)⟩
        have HG2 : Aside0 (∀ W, Below W7.heap.size W7 W → Calls Try.prog 31 #[.agg #[.slice (some ⟨gZ, 0, none⟩) nb cZ, .slice ABz nB cBz, .slice ARz nR cRz, .int .i64 (Js jb).tm]] W fun e w' => e = .returned (.int .i64 ((Js jb).S.count 1)) ∧ Below W.heap.size W w') := ⟨fun W hb => goodC (Kd.R_below HRZ.out hb) (by rw [HSb.out]; omega) (by rw [HSb.out]; omega)⟩
        have v0 : W7.cell? ⟨g11, 0, none⟩ = some (.slice (some ⟨gS, 0, none⟩) nb cS) := (blk_cell BK7.out 0).trans rfl
        have v1 : W7.cell? ⟨g11, 1, none⟩ = some (.slice AB (Js (y + 1)).B.length cB) := (blk_cell BK7.out 1).trans rfl
        have v2 : W7.cell? ⟨g11, 2, none⟩ = some (.slice AR (Js (y + 1)).R.length cR) := (blk_cell BK7.out 2).trans rfl
        have v3 : W7.cell? ⟨g11, 3, none⟩ = some (.int .i64 (Js (y + 1)).tm) := (blk_cell BK7.out 3).trans rfl
        have u0 : W7.cell? ⟨g7, 0, none⟩ = some (.slice (some ⟨gZ, 0, none⟩) nb cZ) := (blk_cell HZ7.out 0).trans rfl
        have u1 : W7.cell? ⟨g7, 1, none⟩ = some (.slice ABz nB cBz) := (blk_cell HZ7.out 1).trans rfl
        have u2 : W7.cell? ⟨g7, 2, none⟩ = some (.slice ARz nR cRz) := (blk_cell HZ7.out 2).trans rfl
        have u3 : W7.cell? ⟨g7, 3, none⟩ = some (.int .i64 (Js jb).tm) := (blk_cell HZ7.out 3).trans rfl
        obtain ⟨n1, hn1⟩ : ∃ n1, (Js (y + 1)).S.count 1 = n1 := ⟨_, rfl⟩
        obtain ⟨n2, hn2⟩ : ∃ n2, (Js jb).S.count 1 = n2 := ⟨_, rfl⟩
        obtain ⟨t1, ht1⟩ : ∃ t1, (Js (y + 1)).tm = t1 := ⟨_, rfl⟩
        obtain ⟨t2, ht2⟩ : ∃ t2, (Js jb).tm = t2 := ⟨_, rfl⟩
        rw [hn1, ht1] at HG1
        rw [hn2, ht2] at HG2
        rw [ht1] at v3
        rw [ht2] at u3
        have HN1 := Aside0.mk hn1
        have HN2 := Aside0.mk hn2
        have HT1 := Aside0.mk ht1
        have HT2 := Aside0.mk ht2
        clear hn1 hn2 ht1 ht2
        have tb : decide ((jb : Int) < 0) = false := decide_eq_false (by omega)
        by_cases c1 : n2 < n1
        · have t1' : decide ((n2 : Int) < (n1 : Int)) = true := decide_eq_true (by omega)
          have t1b : decide ((n1 : Int) > (n2 : Int)) = true := decide_eq_true (by omega)
          refine start_ (n := 27) (S := fun w' => w'.cell? ⟨g11, 0, none⟩ = some (.slice (some ⟨gS, 0, none⟩) nb cS) ∧ w'.cell? ⟨g11, 1, none⟩ = some (.slice AB (Js (y + 1)).B.length cB) ∧ w'.cell? ⟨g11, 2, none⟩ = some (.slice AR (Js (y + 1)).R.length cR) ∧ w'.cell? ⟨g11, 3, none⟩ = some (.int .i64 t1) ∧ w'.cell? ⟨g7, 0, none⟩ = some (.slice (some ⟨gZ, 0, none⟩) nb cZ) ∧ w'.cell? ⟨g7, 1, none⟩ = some (.slice ABz nB cBz) ∧ w'.cell? ⟨g7, 2, none⟩ = some (.slice ARz nR cRz) ∧ w'.cell? ⟨g7, 3, none⟩ = some (.int .i64 t2) ∧ Below W7.heap.size W7 w') (ds := []) #[false, false, false, false, false, false, false, false, false, false, false, false, false, false, false, false, false, false, false, false, false, false, false, false, false, false, false] (by kernel_rfl) rfl rfl ⟨(held8 v0 v1 v2 v3 u0 u1 u2 u3 (below_drew1 (Below.refl W7.heap.size W7))).1, (held8 v0 v1 v2 v3 u0 u1 u2 u3 (below_drew1 (Below.refl W7.heap.size W7))).2.1, (held8 v0 v1 v2 v3 u0 u1 u2 u3 (below_drew1 (Below.refl W7.heap.size W7))).2.2.1, (held8 v0 v1 v2 v3 u0 u1 u2 u3 (below_drew1 (Below.refl W7.heap.size W7))).2.2.2.1, (held8 v0 v1 v2 v3 u0 u1 u2 u3 (below_drew1 (Below.refl W7.heap.size W7))).2.2.2.2.1, (held8 v0 v1 v2 v3 u0 u1 u2 u3 (below_drew1 (Below.refl W7.heap.size W7))).2.2.2.2.2.1, (held8 v0 v1 v2 v3 u0 u1 u2 u3 (below_drew1 (Below.refl W7.heap.size W7))).2.2.2.2.2.2.1, (held8 v0 v1 v2 v3 u0 u1 u2 u3 (below_drew1 (Below.refl W7.heap.size W7))).2.2.2.2.2.2.2.1, (held8 v0 v1 v2 v3 u0 u1 u2 u3 (below_drew1 (Below.refl W7.heap.size W7))).2.2.2.2.2.2.2.2⟩ (fun hHeld => ?_)
          refine pure_ (i := 0) (N := some 32) (v := ?_) (a' := ?_) #[true, false, false, false, false, false, false, false, false, false, false, false, false, false, false, false, false, false, false, false, false, false, false, false, false, false, false] rfl rfl (by kernel_rfl) (fun _ _ _ h => h) (Or.inl ⟨by rfl, ?_⟩) ?_ ?_
          rotate_left
          · intro w'
            go_simp
            with_reducible rfl
          rotate_left
          · simp only [Act.put, List.setIfInBounds_toArray, List.set_cons_zero, List.set_cons_succ, i64_w, i32_w]
            rfl
          refine pure_ (i := 1) (N := some 33) (v := ?_) (a' := ?_) #[true, true, false, false, false, false, false, false, false, false, false, false, false, false, false, false, false, false, false, false, false, false, false, false, false, false, false] rfl rfl (by kernel_rfl) (fun _ _ _ h => h) (Or.inl ⟨by rfl, ?_⟩) ?_ ?_
          rotate_left
          · intro w'
            go_simp
            with_reducible rfl
          rotate_left
          · simp only [Act.put, List.setIfInBounds_toArray, List.set_cons_zero, List.set_cons_succ, i64_w, i32_w]
            rfl
          refine pure_ (i := 2) (N := some 34) (v := ?_) (a' := ?_) #[true, true, true, false, false, false, false, false, false, false, false, false, false, false, false, false, false, false, false, false, false, false, false, false, false, false, false] rfl rfl (by kernel_rfl) (fun _ _ _ h => h) (Or.inl ⟨by rfl, ?_⟩) ?_ ?_
          rotate_left
          · intro w'
            go_simp
            with_reducible rfl
          rotate_left
          · simp only [Act.put, List.setIfInBounds_toArray, List.set_cons_zero, List.set_cons_succ, i64_w, i32_w]
            rfl
          refine pure_ (i := 3) (N := some 35) (v := ?_) (a' := ?_) #[true, true, true, true, false, false, false, false, false, false, false, false, false, false, false, false, false, false, false, false, false, false, false, false, false, false, false] rfl rfl (by kernel_rfl) (fun _ _ _ h => h) (Or.inl ⟨by rfl, ?_⟩) ?_ ?_
          rotate_left
          · intro w'
            go_simp
            with_reducible rfl
          rotate_left
          · simp only [Act.put, List.setIfInBounds_toArray, List.set_cons_zero, List.set_cons_succ, i64_w, i32_w]
            rfl
          refine pure_ (i := 6) (N := some 38) (v := ?_) (a' := ?_) #[true, true, true, true, false, false, true, false, false, false, false, false, false, false, false, false, false, false, false, false, false, false, false, false, false, false, false] rfl rfl (by kernel_rfl) (fun _ _ _ h => h) (Or.inl ⟨by rfl, ?_⟩) ?_ ?_
          rotate_left
          · intro w'
            go_simp
            with_reducible rfl
          rotate_left
          · simp only [Act.put, List.setIfInBounds_toArray, List.set_cons_zero, List.set_cons_succ, i64_w, i32_w]
            rfl
          refine take_ (i := 4) (N := some 36) (v := ?_) (a' := ?_) #[true, true, true, true, true, false, true, false, false, false, false, false, false, false, false, false, false, false, false, false, false, false, false, false, false, false, false] rfl rfl (by kernel_rfl) (fun _ _ _ h => h) (Or.inl ⟨by rfl, ?_⟩) hHeld ?_ ?_
          rotate_left
          · rintro w' ⟨s0, s1, s2, s3, s4, s5, s6, s7, s8⟩
            go_simp
            with_reducible rfl
          rotate_left
          · simp only [Act.put, List.setIfInBounds_toArray, List.set_cons_zero, List.set_cons_succ, i64_w, i32_w]
            rfl
          refine take_ (i := 7) (N := some 39) (v := ?_) (a' := ?_) #[true, true, true, true, true, false, true, true, false, false, false, false, false, false, false, false, false, false, false, false, false, false, false, false, false, false, false] rfl rfl (by kernel_rfl) (fun _ _ _ h => h) (Or.inl ⟨by rfl, ?_⟩) hHeld ?_ ?_
          rotate_left
          · rintro w' ⟨s0, s1, s2, s3, s4, s5, s6, s7, s8⟩
            go_simp
            with_reducible rfl
          rotate_left
          · simp only [Act.put, List.setIfInBounds_toArray, List.set_cons_zero, List.set_cons_succ, i64_w, i32_w]
            rfl
          refine one_ (i := 5) (N := some 37) #[true, true, true, true, true, true, true, true, false, false, false, false, false, false, false, false, false, false, false, false, false, false, false, false, false, false, false] rfl rfl (by kernel_rfl) (by decide) (fun K hK => ?_)
          refine goesv_ Try.func31 (by kernel_rfl) rfl #[.agg #[.slice (some ⟨gS, 0, none⟩) nb cS, .slice AB (Js (y + 1)).B.length cB, .slice AR (Js (y + 1)).R.length cR, .int .i64 t1]] (by rfl) rfl rfl (by rfl) (by simp only [List.map_toArray, List.map_cons, List.map_nil]; rfl) ?_
          with_reducible refine (HG1.out _ hHeld.2.2.2.2.2.2.2.2).mono ?_
          rintro e w8 ⟨rfl, hb⟩
          refine ⟨_, rfl, ?_⟩
          have hbn := held_step hHeld.2.2.2.2.2.2.2.2 hb
          have h8 := held8 v0 v1 v2 v3 u0 u1 u2 u3 hbn
          refine hK.out _ _ ⟨h8.1, h8.2.1, h8.2.2.1, h8.2.2.2.1, h8.2.2.2.2.1, h8.2.2.2.2.2.1, h8.2.2.2.2.2.2.1, h8.2.2.2.2.2.2.2.1, h8.2.2.2.2.2.2.2.2⟩ (fun hHeld => ?_)
          clear hK K
          refine norm_ (a' := ?_) ?_ ?_
          rotate_left
          · show Act.put _ (some 37) _ = _
            simp only [Act.put, List.setIfInBounds_toArray, List.set_cons_zero, List.set_cons_succ, i64_w, i32_w]
            rfl
          refine one_ (i := 8) (N := some 40) #[true, true, true, true, true, true, true, true, true, false, false, false, false, false, false, false, false, false, false, false, false, false, false, false, false, false, false] rfl rfl (by kernel_rfl) (by decide) (fun K hK => ?_)
          refine goesv_ Try.func31 (by kernel_rfl) rfl #[.agg #[.slice (some ⟨gZ, 0, none⟩) nb cZ, .slice ABz nB cBz, .slice ARz nR cRz, .int .i64 t2]] (by rfl) rfl rfl (by rfl) (by simp only [List.map_toArray, List.map_cons, List.map_nil]; rfl) ?_
          with_reducible refine (HG2.out _ hHeld.2.2.2.2.2.2.2.2).mono ?_
          rintro e w8 ⟨rfl, hb⟩
          refine ⟨_, rfl, ?_⟩
          have hbn := held_step hHeld.2.2.2.2.2.2.2.2 hb
          have h8 := held8 v0 v1 v2 v3 u0 u1 u2 u3 hbn
          refine hK.out _ _ ⟨h8.1, h8.2.1, h8.2.2.1, h8.2.2.2.1, h8.2.2.2.2.1, h8.2.2.2.2.2.1, h8.2.2.2.2.2.2.1, h8.2.2.2.2.2.2.2.1, h8.2.2.2.2.2.2.2.2⟩ (fun hHeld => ?_)
          clear hK K
          refine norm_ (a' := ?_) ?_ ?_
          rotate_left
          · show Act.put _ (some 40) _ = _
            simp only [Act.put, List.setIfInBounds_toArray, List.set_cons_zero, List.set_cons_succ, i64_w, i32_w]
            rfl
          refine pure_ (i := 9) (N := some 41) (v := ?_) (a' := ?_) #[true, true, true, true, true, true, true, true, true, true, false, false, false, false, false, false, false, false, false, false, false, false, false, false, false, false, false] rfl rfl (by kernel_rfl) (fun _ _ _ h => h) (Or.inl ⟨by rfl, ?_⟩) ?_ ?_
          rotate_left
          · intro w'
            go_simp
            with_reducible rfl
          rotate_left
          · simp only [Act.put, List.setIfInBounds_toArray, List.set_cons_zero, List.set_cons_succ, i64_w, i32_w]
            rfl
          refine pure_ (i := 10) (N := some 42) (v := ?_) (a' := ?_) #[true, true, true, true, true, true, true, true, true, true, true, false, false, false, false, false, false, false, false, false, false, false, false, false, false, false, false] rfl rfl (by kernel_rfl) (fun _ _ _ h => h) (Or.inl ⟨by rfl, ?_⟩) ?_ ?_
          rotate_left
          · intro w'
            go_simp
            with_reducible rfl
          rotate_left
          · simp only [Act.put, List.setIfInBounds_toArray, List.set_cons_zero, List.set_cons_succ, i64_w, i32_w]
            rfl
          refine pure_ (i := 11) (N := some 43) (v := ?_) (a' := ?_) #[true, true, true, true, true, true, true, true, true, true, true, true, false, false, false, false, false, false, false, false, false, false, false, false, false, false, false] rfl rfl (by kernel_rfl) (fun _ _ _ h => h) (Or.inl ⟨by rfl, ?_⟩) ?_ ?_
          rotate_left
          · intro w'
            go_simp
            with_reducible rfl
          rotate_left
          · simp only [Act.put, List.setIfInBounds_toArray, List.set_cons_zero, List.set_cons_succ, i64_w, i32_w]
            rfl
          refine pure_ (i := 12) (N := some 44) (v := undef) (a' := ?_) #[true, true, true, true, true, true, true, true, true, true, true, true, true, false, false, false, false, false, false, false, false, false, false, false, false, false, false] rfl rfl (by kernel_rfl) (fun _ _ _ h => h) (Or.inr ⟨by rfl, rfl⟩) ?_ ?_
          rotate_left
          · simp only [Act.put, List.setIfInBounds_toArray, List.set_cons_zero, List.set_cons_succ, i64_w, i32_w]
            rfl
          refine pure_ (i := 13) (N := some 45) (v := undef) (a' := ?_) #[true, true, true, true, true, true, true, true, true, true, true, true, true, true, false, false, false, false, false, false, false, false, false, false, false, false, false] rfl rfl (by kernel_rfl) (fun _ _ _ h => h) (Or.inr ⟨by rfl, rfl⟩) ?_ ?_
          rotate_left
          · simp only [Act.put, List.setIfInBounds_toArray, List.set_cons_zero, List.set_cons_succ, i64_w, i32_w]
            rfl
          refine pure_ (i := 14) (N := some 46) (v := undef) (a' := ?_) #[true, true, true, true, true, true, true, true, true, true, true, true, true, true, true, false, false, false, false, false, false, false, false, false, false, false, false] rfl rfl (by kernel_rfl) (fun _ _ _ h => h) (Or.inr ⟨by rfl, rfl⟩) ?_ ?_
          rotate_left
          · simp only [Act.put, List.setIfInBounds_toArray, List.set_cons_zero, List.set_cons_succ, i64_w, i32_w]
            rfl
          refine pure_ (i := 15) (N := some 47) (v := undef) (a' := ?_) #[true, true, true, true, true, true, true, true, true, true, true, true, true, true, true, true, false, false, false, false, false, false, false, false, false, false, false] rfl rfl (by kernel_rfl) (fun _ _ _ h => h) (Or.inr ⟨by rfl, rfl⟩) ?_ ?_
          rotate_left
          · simp only [Act.put, List.setIfInBounds_toArray, List.set_cons_zero, List.set_cons_succ, i64_w, i32_w]
            rfl
          refine pure_ (i := 16) (N := some 48) (v := undef) (a' := ?_) #[true, true, true, true, true, true, true, true, true, true, true, true, true, true, true, true, true, false, false, false, false, false, false, false, false, false, false] rfl rfl (by kernel_rfl) (fun _ _ _ h => h) (Or.inr ⟨by rfl, rfl⟩) ?_ ?_
          rotate_left
          · simp only [Act.put, List.setIfInBounds_toArray, List.set_cons_zero, List.set_cons_succ, i64_w, i32_w]
            rfl
          refine pure_ (i := 17) (N := some 49) (v := undef) (a' := ?_) #[true, true, true, true, true, true, true, true, true, true, true, true, true, true, true, true, true, true, false, false, false, false, false, false, false, false, false] rfl rfl (by kernel_rfl) (fun _ _ _ h => h) (Or.inr ⟨by rfl, rfl⟩) ?_ ?_
          rotate_left
          · simp only [Act.put, List.setIfInBounds_toArray, List.set_cons_zero, List.set_cons_succ, i64_w, i32_w]
            rfl
          refine pure_ (i := 18) (N := some 50) (v := undef) (a' := ?_) #[true, true, true, true, true, true, true, true, true, true, true, true, true, true, true, true, true, true, true, false, false, false, false, false, false, false, false] rfl rfl (by kernel_rfl) (fun _ _ _ h => h) (Or.inr ⟨by rfl, rfl⟩) ?_ ?_
          rotate_left
          · simp only [Act.put, List.setIfInBounds_toArray, List.set_cons_zero, List.set_cons_succ, i64_w, i32_w]
            rfl
          refine pure_ (i := 19) (N := some 51) (v := undef) (a' := ?_) #[true, true, true, true, true, true, true, true, true, true, true, true, true, true, true, true, true, true, true, true, false, false, false, false, false, false, false] rfl rfl (by kernel_rfl) (fun _ _ _ h => h) (Or.inr ⟨by rfl, rfl⟩) ?_ ?_
          rotate_left
          · simp only [Act.put, List.setIfInBounds_toArray, List.set_cons_zero, List.set_cons_succ, i64_w, i32_w]
            rfl
          refine pure_ (i := 20) (N := some 52) (v := undef) (a' := ?_) #[true, true, true, true, true, true, true, true, true, true, true, true, true, true, true, true, true, true, true, true, true, false, false, false, false, false, false] rfl rfl (by kernel_rfl) (fun _ _ _ h => h) (Or.inr ⟨by rfl, rfl⟩) ?_ ?_
          rotate_left
          · simp only [Act.put, List.setIfInBounds_toArray, List.set_cons_zero, List.set_cons_succ, i64_w, i32_w]
            rfl
          refine pure_ (i := 21) (N := some 53) (v := undef) (a' := ?_) #[true, true, true, true, true, true, true, true, true, true, true, true, true, true, true, true, true, true, true, true, true, true, false, false, false, false, false] rfl rfl (by kernel_rfl) (fun _ _ _ h => h) (Or.inr ⟨by rfl, rfl⟩) ?_ ?_
          rotate_left
          · simp only [Act.put, List.setIfInBounds_toArray, List.set_cons_zero, List.set_cons_succ, i64_w, i32_w]
            rfl
          refine pure_ (i := 22) (N := some 54) (v := undef) (a' := ?_) #[true, true, true, true, true, true, true, true, true, true, true, true, true, true, true, true, true, true, true, true, true, true, true, false, false, false, false] rfl rfl (by kernel_rfl) (fun _ _ _ h => h) (Or.inr ⟨by rfl, rfl⟩) ?_ ?_
          rotate_left
          · simp only [Act.put, List.setIfInBounds_toArray, List.set_cons_zero, List.set_cons_succ, i64_w, i32_w]
            rfl
          refine pure_ (i := 23) (N := some 55) (v := undef) (a' := ?_) #[true, true, true, true, true, true, true, true, true, true, true, true, true, true, true, true, true, true, true, true, true, true, true, true, false, false, false] rfl rfl (by kernel_rfl) (fun _ _ _ h => h) (Or.inr ⟨by rfl, rfl⟩) ?_ ?_
          rotate_left
          · simp only [Act.put, List.setIfInBounds_toArray, List.set_cons_zero, List.set_cons_succ, i64_w, i32_w]
            rfl
          refine pure_ (i := 24) (N := some 56) (v := undef) (a' := ?_) #[true, true, true, true, true, true, true, true, true, true, true, true, true, true, true, true, true, true, true, true, true, true, true, true, true, false, false] rfl rfl (by kernel_rfl) (fun _ _ _ h => h) (Or.inr ⟨by rfl, rfl⟩) ?_ ?_
          rotate_left
          · simp only [Act.put, List.setIfInBounds_toArray, List.set_cons_zero, List.set_cons_succ, i64_w, i32_w]
            rfl
          refine pure_ (i := 25) (N := some 57) (v := undef) (a' := ?_) #[true, true, true, true, true, true, true, true, true, true, true, true, true, true, true, true, true, true, true, true, true, true, true, true, true, true, false] rfl rfl (by kernel_rfl) (fun _ _ _ h => h) (Or.inr ⟨by rfl, rfl⟩) ?_ ?_
          rotate_left
          · simp only [Act.put, List.setIfInBounds_toArray, List.set_cons_zero, List.set_cons_succ, i64_w, i32_w]
            rfl
          refine pure_ (i := 26) (N := some 58) (v := ?_) (a' := ?_) #[true, true, true, true, true, true, true, true, true, true, true, true, true, true, true, true, true, true, true, true, true, true, true, true, true, true, true] rfl rfl (by kernel_rfl) (fun _ _ _ h => h) (Or.inl ⟨by rfl, ?_⟩) ?_ ?_
          rotate_left
          · intro w'
            go_simp
            with_reducible rfl
          rotate_left
          · simp only [Act.put, List.setIfInBounds_toArray, List.set_cons_zero, List.set_cons_succ, i64_w, i32_w]
            rfl
          refine done_ (by kernel_rfl) ?_

          obtain ⟨z0, z1, z2, z3, k0, k1, k2, k3, hB⟩ := hHeld
          clear v0 v1 v2 v3 u0 u1 u2 u3
          go_upto_region 13 with (fail)
          go_still_tail 3, (by kernel_rfl)
          change wpList _ _ _ _ _ w8.drew
          have hBd : Below W7.heap.size W7 w8.drew := below_drew1 hB
          have bz := blk_below HZ7.out hBd
          have r8 := Kd.R_below HR7.out hBd
          have s8 := below_step HS7.out hBd
          generalize w8.drew = wd at hBd bz r8 s8 ⊢
          have e0 := blk_frozen bz 0
          have e1 := blk_frozen bz 1
          have e2 := blk_frozen bz 2
          have e3 := blk_frozen bz 3
          have d0 := (blk_cell bz 0).trans rfl
          have d1 := (blk_cell bz 1).trans rfl
          have d2 := (blk_cell bz 2).trans rfl
          have d3 := (blk_cell bz 3).trans rfl
          have BZ := Aside0.mk bz
          have R8 := Aside0.mk r8
          have S8 := Aside0.mk s8
          clear bz r8 s8 hBd
          go_wp2
          obtain ⟨p1, p2, p3⟩ := put4 BZ.out (.slice (some ⟨gS, 0, none⟩) nb cS) (.slice AB (Js (y + 1)).B.length cB) (.slice AR (Js (y + 1)).R.length cR) (.int .i64 t1)
          have sF := p3 _ _ S8.out GE7.out
          have rF := R_beside R8.out BZ.out (by decide) p2
          clear d0 d1 d2 d3 e0 e1 e2 e3
          generalize (((wd.setCell ⟨g7, 0, none⟩ (.slice (some ⟨gS, 0, none⟩) nb cS)).setCell ⟨g7, 1, none⟩ (.slice AB (Js (y + 1)).B.length cB)).setCell ⟨g7, 2, none⟩ (.slice AR (Js (y + 1)).R.length cR)).setCell ⟨g7, 3, none⟩ (.int .i64 t1) = WF at p1 sF rF ⊢
          clear p2 p3
          go_roundw
          case rel => 
            have hbj : bestJ Js (y + 1) = y + 1 := by
              unfold bestJ
              rw [HJB.out]
              exact if_pos (by unfold better; rw [HN1.out, HN2.out]; exact Or.inl c1)
            refine ⟨y + 1 + 1, by omega, by go_num, ⟨sF⟩, ⟨Or.inr ⟨y + 1, rfl, by rw [hbj]; go_num, ?_⟩⟩⟩
            rw [hbj]
            exact ⟨gS, cS, _, cB, _, cR, AB, AR, by rw [HT1.out]; exact p1, rF⟩
          case measure => first | (simp [intOf]; done) | (simp [intOf]; omega)
        · have t1' : decide ((n2 : Int) < (n1 : Int)) = false := decide_eq_false (by omega)
          have t1b : decide ((n1 : Int) > (n2 : Int)) = false := decide_eq_false (by omega)
          by_cases c2 : n1 = n2
          · have t2e : ((n1 : Int) == (n2 : Int)) = true := beq_iff_eq.mpr (by omega)
            refine start_ (n := 27) (S := fun w' => w'.cell? ⟨g11, 0, none⟩ = some (.slice (some ⟨gS, 0, none⟩) nb cS) ∧ w'.cell? ⟨g11, 1, none⟩ = some (.slice AB (Js (y + 1)).B.length cB) ∧ w'.cell? ⟨g11, 2, none⟩ = some (.slice AR (Js (y + 1)).R.length cR) ∧ w'.cell? ⟨g11, 3, none⟩ = some (.int .i64 t1) ∧ w'.cell? ⟨g7, 0, none⟩ = some (.slice (some ⟨gZ, 0, none⟩) nb cZ) ∧ w'.cell? ⟨g7, 1, none⟩ = some (.slice ABz nB cBz) ∧ w'.cell? ⟨g7, 2, none⟩ = some (.slice ARz nR cRz) ∧ w'.cell? ⟨g7, 3, none⟩ = some (.int .i64 t2) ∧ Below W7.heap.size W7 w') (ds := []) #[false, false, false, false, false, false, false, false, false, false, false, false, false, false, false, false, false, false, false, false, false, false, false, false, false, false, false] (by kernel_rfl) rfl rfl ⟨(held8 v0 v1 v2 v3 u0 u1 u2 u3 (below_drew1 (Below.refl W7.heap.size W7))).1, (held8 v0 v1 v2 v3 u0 u1 u2 u3 (below_drew1 (Below.refl W7.heap.size W7))).2.1, (held8 v0 v1 v2 v3 u0 u1 u2 u3 (below_drew1 (Below.refl W7.heap.size W7))).2.2.1, (held8 v0 v1 v2 v3 u0 u1 u2 u3 (below_drew1 (Below.refl W7.heap.size W7))).2.2.2.1, (held8 v0 v1 v2 v3 u0 u1 u2 u3 (below_drew1 (Below.refl W7.heap.size W7))).2.2.2.2.1, (held8 v0 v1 v2 v3 u0 u1 u2 u3 (below_drew1 (Below.refl W7.heap.size W7))).2.2.2.2.2.1, (held8 v0 v1 v2 v3 u0 u1 u2 u3 (below_drew1 (Below.refl W7.heap.size W7))).2.2.2.2.2.2.1, (held8 v0 v1 v2 v3 u0 u1 u2 u3 (below_drew1 (Below.refl W7.heap.size W7))).2.2.2.2.2.2.2.1, (held8 v0 v1 v2 v3 u0 u1 u2 u3 (below_drew1 (Below.refl W7.heap.size W7))).2.2.2.2.2.2.2.2⟩ (fun hHeld => ?_)
            refine pure_ (i := 0) (N := some 32) (v := ?_) (a' := ?_) #[true, false, false, false, false, false, false, false, false, false, false, false, false, false, false, false, false, false, false, false, false, false, false, false, false, false, false] rfl rfl (by kernel_rfl) (fun _ _ _ h => h) (Or.inl ⟨by rfl, ?_⟩) ?_ ?_
            rotate_left
            · intro w'
              go_simp
              with_reducible rfl
            rotate_left
            · simp only [Act.put, List.setIfInBounds_toArray, List.set_cons_zero, List.set_cons_succ, i64_w, i32_w]
              rfl
            refine pure_ (i := 1) (N := some 33) (v := ?_) (a' := ?_) #[true, true, false, false, false, false, false, false, false, false, false, false, false, false, false, false, false, false, false, false, false, false, false, false, false, false, false] rfl rfl (by kernel_rfl) (fun _ _ _ h => h) (Or.inl ⟨by rfl, ?_⟩) ?_ ?_
            rotate_left
            · intro w'
              go_simp
              with_reducible rfl
            rotate_left
            · simp only [Act.put, List.setIfInBounds_toArray, List.set_cons_zero, List.set_cons_succ, i64_w, i32_w]
              rfl
            refine pure_ (i := 2) (N := some 34) (v := ?_) (a' := ?_) #[true, true, true, false, false, false, false, false, false, false, false, false, false, false, false, false, false, false, false, false, false, false, false, false, false, false, false] rfl rfl (by kernel_rfl) (fun _ _ _ h => h) (Or.inl ⟨by rfl, ?_⟩) ?_ ?_
            rotate_left
            · intro w'
              go_simp
              with_reducible rfl
            rotate_left
            · simp only [Act.put, List.setIfInBounds_toArray, List.set_cons_zero, List.set_cons_succ, i64_w, i32_w]
              rfl
            refine pure_ (i := 3) (N := some 35) (v := ?_) (a' := ?_) #[true, true, true, true, false, false, false, false, false, false, false, false, false, false, false, false, false, false, false, false, false, false, false, false, false, false, false] rfl rfl (by kernel_rfl) (fun _ _ _ h => h) (Or.inl ⟨by rfl, ?_⟩) ?_ ?_
            rotate_left
            · intro w'
              go_simp
              with_reducible rfl
            rotate_left
            · simp only [Act.put, List.setIfInBounds_toArray, List.set_cons_zero, List.set_cons_succ, i64_w, i32_w]
              rfl
            refine pure_ (i := 6) (N := some 38) (v := ?_) (a' := ?_) #[true, true, true, true, false, false, true, false, false, false, false, false, false, false, false, false, false, false, false, false, false, false, false, false, false, false, false] rfl rfl (by kernel_rfl) (fun _ _ _ h => h) (Or.inl ⟨by rfl, ?_⟩) ?_ ?_
            rotate_left
            · intro w'
              go_simp
              with_reducible rfl
            rotate_left
            · simp only [Act.put, List.setIfInBounds_toArray, List.set_cons_zero, List.set_cons_succ, i64_w, i32_w]
              rfl
            refine take_ (i := 4) (N := some 36) (v := ?_) (a' := ?_) #[true, true, true, true, true, false, true, false, false, false, false, false, false, false, false, false, false, false, false, false, false, false, false, false, false, false, false] rfl rfl (by kernel_rfl) (fun _ _ _ h => h) (Or.inl ⟨by rfl, ?_⟩) hHeld ?_ ?_
            rotate_left
            · rintro w' ⟨s0, s1, s2, s3, s4, s5, s6, s7, s8⟩
              go_simp
              with_reducible rfl
            rotate_left
            · simp only [Act.put, List.setIfInBounds_toArray, List.set_cons_zero, List.set_cons_succ, i64_w, i32_w]
              rfl
            refine take_ (i := 7) (N := some 39) (v := ?_) (a' := ?_) #[true, true, true, true, true, false, true, true, false, false, false, false, false, false, false, false, false, false, false, false, false, false, false, false, false, false, false] rfl rfl (by kernel_rfl) (fun _ _ _ h => h) (Or.inl ⟨by rfl, ?_⟩) hHeld ?_ ?_
            rotate_left
            · rintro w' ⟨s0, s1, s2, s3, s4, s5, s6, s7, s8⟩
              go_simp
              with_reducible rfl
            rotate_left
            · simp only [Act.put, List.setIfInBounds_toArray, List.set_cons_zero, List.set_cons_succ, i64_w, i32_w]
              rfl
            refine one_ (i := 5) (N := some 37) #[true, true, true, true, true, true, true, true, false, false, false, false, false, false, false, false, false, false, false, false, false, false, false, false, false, false, false] rfl rfl (by kernel_rfl) (by decide) (fun K hK => ?_)
            refine goesv_ Try.func31 (by kernel_rfl) rfl #[.agg #[.slice (some ⟨gS, 0, none⟩) nb cS, .slice AB (Js (y + 1)).B.length cB, .slice AR (Js (y + 1)).R.length cR, .int .i64 t1]] (by rfl) rfl rfl (by rfl) (by simp only [List.map_toArray, List.map_cons, List.map_nil]; rfl) ?_
            with_reducible refine (HG1.out _ hHeld.2.2.2.2.2.2.2.2).mono ?_
            rintro e w8 ⟨rfl, hb⟩
            refine ⟨_, rfl, ?_⟩
            have hbn := held_step hHeld.2.2.2.2.2.2.2.2 hb
            have h8 := held8 v0 v1 v2 v3 u0 u1 u2 u3 hbn
            refine hK.out _ _ ⟨h8.1, h8.2.1, h8.2.2.1, h8.2.2.2.1, h8.2.2.2.2.1, h8.2.2.2.2.2.1, h8.2.2.2.2.2.2.1, h8.2.2.2.2.2.2.2.1, h8.2.2.2.2.2.2.2.2⟩ (fun hHeld => ?_)
            clear hK K
            refine norm_ (a' := ?_) ?_ ?_
            rotate_left
            · show Act.put _ (some 37) _ = _
              simp only [Act.put, List.setIfInBounds_toArray, List.set_cons_zero, List.set_cons_succ, i64_w, i32_w]
              rfl
            refine one_ (i := 8) (N := some 40) #[true, true, true, true, true, true, true, true, true, false, false, false, false, false, false, false, false, false, false, false, false, false, false, false, false, false, false] rfl rfl (by kernel_rfl) (by decide) (fun K hK => ?_)
            refine goesv_ Try.func31 (by kernel_rfl) rfl #[.agg #[.slice (some ⟨gZ, 0, none⟩) nb cZ, .slice ABz nB cBz, .slice ARz nR cRz, .int .i64 t2]] (by rfl) rfl rfl (by rfl) (by simp only [List.map_toArray, List.map_cons, List.map_nil]; rfl) ?_
            with_reducible refine (HG2.out _ hHeld.2.2.2.2.2.2.2.2).mono ?_
            rintro e w8 ⟨rfl, hb⟩
            refine ⟨_, rfl, ?_⟩
            have hbn := held_step hHeld.2.2.2.2.2.2.2.2 hb
            have h8 := held8 v0 v1 v2 v3 u0 u1 u2 u3 hbn
            refine hK.out _ _ ⟨h8.1, h8.2.1, h8.2.2.1, h8.2.2.2.1, h8.2.2.2.2.1, h8.2.2.2.2.2.1, h8.2.2.2.2.2.2.1, h8.2.2.2.2.2.2.2.1, h8.2.2.2.2.2.2.2.2⟩ (fun hHeld => ?_)
            clear hK K
            refine norm_ (a' := ?_) ?_ ?_
            rotate_left
            · show Act.put _ (some 40) _ = _
              simp only [Act.put, List.setIfInBounds_toArray, List.set_cons_zero, List.set_cons_succ, i64_w, i32_w]
              rfl
            refine pure_ (i := 9) (N := some 41) (v := ?_) (a' := ?_) #[true, true, true, true, true, true, true, true, true, true, false, false, false, false, false, false, false, false, false, false, false, false, false, false, false, false, false] rfl rfl (by kernel_rfl) (fun _ _ _ h => h) (Or.inl ⟨by rfl, ?_⟩) ?_ ?_
            rotate_left
            · intro w'
              go_simp
              with_reducible rfl
            rotate_left
            · simp only [Act.put, List.setIfInBounds_toArray, List.set_cons_zero, List.set_cons_succ, i64_w, i32_w]
              rfl
            refine pure_ (i := 10) (N := some 42) (v := ?_) (a' := ?_) #[true, true, true, true, true, true, true, true, true, true, true, false, false, false, false, false, false, false, false, false, false, false, false, false, false, false, false] rfl rfl (by kernel_rfl) (fun _ _ _ h => h) (Or.inl ⟨by rfl, ?_⟩) ?_ ?_
            rotate_left
            · intro w'
              go_simp
              with_reducible rfl
            rotate_left
            · simp only [Act.put, List.setIfInBounds_toArray, List.set_cons_zero, List.set_cons_succ, i64_w, i32_w]
              rfl
            refine pure_ (i := 11) (N := some 43) (v := ?_) (a' := ?_) #[true, true, true, true, true, true, true, true, true, true, true, true, false, false, false, false, false, false, false, false, false, false, false, false, false, false, false] rfl rfl (by kernel_rfl) (fun _ _ _ h => h) (Or.inl ⟨by rfl, ?_⟩) ?_ ?_
            rotate_left
            · intro w'
              go_simp
              with_reducible rfl
            rotate_left
            · simp only [Act.put, List.setIfInBounds_toArray, List.set_cons_zero, List.set_cons_succ, i64_w, i32_w]
              rfl
            refine pure_ (i := 12) (N := some 44) (v := ?_) (a' := ?_) #[true, true, true, true, true, true, true, true, true, true, true, true, true, false, false, false, false, false, false, false, false, false, false, false, false, false, false] rfl rfl (by kernel_rfl) (fun _ _ _ h => h) (Or.inl ⟨by rfl, ?_⟩) ?_ ?_
            rotate_left
            · intro w'
              go_simp
              with_reducible rfl
            rotate_left
            · simp only [Act.put, List.setIfInBounds_toArray, List.set_cons_zero, List.set_cons_succ, i64_w, i32_w]
              rfl
            refine pure_ (i := 15) (N := some 47) (v := ?_) (a' := ?_) #[true, true, true, true, true, true, true, true, true, true, true, true, true, false, false, true, false, false, false, false, false, false, false, false, false, false, false] rfl rfl (by kernel_rfl) (fun _ _ _ h => h) (Or.inl ⟨by rfl, ?_⟩) ?_ ?_
            rotate_left
            · intro w'
              go_simp
              with_reducible rfl
            rotate_left
            · simp only [Act.put, List.setIfInBounds_toArray, List.set_cons_zero, List.set_cons_succ, i64_w, i32_w]
              rfl
            refine take_ (i := 13) (N := some 45) (v := ?_) (a' := ?_) #[true, true, true, true, true, true, true, true, true, true, true, true, true, true, false, true, false, false, false, false, false, false, false, false, false, false, false] rfl rfl (by kernel_rfl) (fun _ _ _ h => h) (Or.inl ⟨by rfl, ?_⟩) hHeld ?_ ?_
            rotate_left
            · rintro w' ⟨s0, s1, s2, s3, s4, s5, s6, s7, s8⟩
              go_simp
              with_reducible rfl
            rotate_left
            · simp only [Act.put, List.setIfInBounds_toArray, List.set_cons_zero, List.set_cons_succ, i64_w, i32_w]
              rfl
            refine take_ (i := 16) (N := some 48) (v := ?_) (a' := ?_) #[true, true, true, true, true, true, true, true, true, true, true, true, true, true, false, true, true, false, false, false, false, false, false, false, false, false, false] rfl rfl (by kernel_rfl) (fun _ _ _ h => h) (Or.inl ⟨by rfl, ?_⟩) hHeld ?_ ?_
            rotate_left
            · rintro w' ⟨s0, s1, s2, s3, s4, s5, s6, s7, s8⟩
              go_simp
              with_reducible rfl
            rotate_left
            · simp only [Act.put, List.setIfInBounds_toArray, List.set_cons_zero, List.set_cons_succ, i64_w, i32_w]
              rfl
            refine one_ (i := 14) (N := some 46) #[true, true, true, true, true, true, true, true, true, true, true, true, true, true, true, true, true, false, false, false, false, false, false, false, false, false, false] rfl rfl (by kernel_rfl) (by decide) (fun K hK => ?_)
            refine goesv_ Try.func31 (by kernel_rfl) rfl #[.agg #[.slice (some ⟨gS, 0, none⟩) nb cS, .slice AB (Js (y + 1)).B.length cB, .slice AR (Js (y + 1)).R.length cR, .int .i64 t1]] (by rfl) rfl rfl (by rfl) (by simp only [List.map_toArray, List.map_cons, List.map_nil]; rfl) ?_
            with_reducible refine (HG1.out _ hHeld.2.2.2.2.2.2.2.2).mono ?_
            rintro e w8 ⟨rfl, hb⟩
            refine ⟨_, rfl, ?_⟩
            have hbn := held_step hHeld.2.2.2.2.2.2.2.2 hb
            have h8 := held8 v0 v1 v2 v3 u0 u1 u2 u3 hbn
            refine hK.out _ _ ⟨h8.1, h8.2.1, h8.2.2.1, h8.2.2.2.1, h8.2.2.2.2.1, h8.2.2.2.2.2.1, h8.2.2.2.2.2.2.1, h8.2.2.2.2.2.2.2.1, h8.2.2.2.2.2.2.2.2⟩ (fun hHeld => ?_)
            clear hK K
            refine norm_ (a' := ?_) ?_ ?_
            rotate_left
            · show Act.put _ (some 46) _ = _
              simp only [Act.put, List.setIfInBounds_toArray, List.set_cons_zero, List.set_cons_succ, i64_w, i32_w]
              rfl
            refine one_ (i := 17) (N := some 49) #[true, true, true, true, true, true, true, true, true, true, true, true, true, true, true, true, true, true, false, false, false, false, false, false, false, false, false] rfl rfl (by kernel_rfl) (by decide) (fun K hK => ?_)
            refine goesv_ Try.func31 (by kernel_rfl) rfl #[.agg #[.slice (some ⟨gZ, 0, none⟩) nb cZ, .slice ABz nB cBz, .slice ARz nR cRz, .int .i64 t2]] (by rfl) rfl rfl (by rfl) (by simp only [List.map_toArray, List.map_cons, List.map_nil]; rfl) ?_
            with_reducible refine (HG2.out _ hHeld.2.2.2.2.2.2.2.2).mono ?_
            rintro e w8 ⟨rfl, hb⟩
            refine ⟨_, rfl, ?_⟩
            have hbn := held_step hHeld.2.2.2.2.2.2.2.2 hb
            have h8 := held8 v0 v1 v2 v3 u0 u1 u2 u3 hbn
            refine hK.out _ _ ⟨h8.1, h8.2.1, h8.2.2.1, h8.2.2.2.1, h8.2.2.2.2.1, h8.2.2.2.2.2.1, h8.2.2.2.2.2.2.1, h8.2.2.2.2.2.2.2.1, h8.2.2.2.2.2.2.2.2⟩ (fun hHeld => ?_)
            clear hK K
            refine norm_ (a' := ?_) ?_ ?_
            rotate_left
            · show Act.put _ (some 49) _ = _
              simp only [Act.put, List.setIfInBounds_toArray, List.set_cons_zero, List.set_cons_succ, i64_w, i32_w]
              rfl
            refine pure_ (i := 18) (N := some 50) (v := ?_) (a' := ?_) #[true, true, true, true, true, true, true, true, true, true, true, true, true, true, true, true, true, true, true, false, false, false, false, false, false, false, false] rfl rfl (by kernel_rfl) (fun _ _ _ h => h) (Or.inl ⟨by rfl, ?_⟩) ?_ ?_
            rotate_left
            · intro w'
              go_simp
              with_reducible rfl
            rotate_left
            · simp only [Act.put, List.setIfInBounds_toArray, List.set_cons_zero, List.set_cons_succ, i64_w, i32_w]
              rfl
            refine pure_ (i := 19) (N := some 51) (v := ?_) (a' := ?_) #[true, true, true, true, true, true, true, true, true, true, true, true, true, true, true, true, true, true, true, true, false, false, false, false, false, false, false] rfl rfl (by kernel_rfl) (fun _ _ _ h => h) (Or.inl ⟨by rfl, ?_⟩) ?_ ?_
            rotate_left
            · intro w'
              go_simp
              with_reducible rfl
            rotate_left
            · simp only [Act.put, List.setIfInBounds_toArray, List.set_cons_zero, List.set_cons_succ, i64_w, i32_w]
              rfl
            refine pure_ (i := 20) (N := some 52) (v := ?_) (a' := ?_) #[true, true, true, true, true, true, true, true, true, true, true, true, true, true, true, true, true, true, true, true, true, false, false, false, false, false, false] rfl rfl (by kernel_rfl) (fun _ _ _ h => h) (Or.inl ⟨by rfl, ?_⟩) ?_ ?_
            rotate_left
            · intro w'
              go_simp
              with_reducible rfl
            rotate_left
            · simp only [Act.put, List.setIfInBounds_toArray, List.set_cons_zero, List.set_cons_succ, i64_w, i32_w]
              rfl
            refine pure_ (i := 22) (N := some 54) (v := ?_) (a' := ?_) #[true, true, true, true, true, true, true, true, true, true, true, true, true, true, true, true, true, true, true, true, true, false, true, false, false, false, false] rfl rfl (by kernel_rfl) (fun _ _ _ h => h) (Or.inl ⟨by rfl, ?_⟩) ?_ ?_
            rotate_left
            · intro w'
              go_simp
              with_reducible rfl
            rotate_left
            · simp only [Act.put, List.setIfInBounds_toArray, List.set_cons_zero, List.set_cons_succ, i64_w, i32_w]
              rfl
            refine take_ (i := 21) (N := some 53) (v := ?_) (a' := ?_) #[true, true, true, true, true, true, true, true, true, true, true, true, true, true, true, true, true, true, true, true, true, true, true, false, false, false, false] rfl rfl (by kernel_rfl) (fun _ _ _ h => h) (Or.inl ⟨by rfl, ?_⟩) hHeld ?_ ?_
            rotate_left
            · rintro w' ⟨s0, s1, s2, s3, s4, s5, s6, s7, s8⟩
              go_simp
              with_reducible rfl
            rotate_left
            · simp only [Act.put, List.setIfInBounds_toArray, List.set_cons_zero, List.set_cons_succ, i64_w, i32_w]
              rfl
            refine take_ (i := 23) (N := some 55) (v := ?_) (a' := ?_) #[true, true, true, true, true, true, true, true, true, true, true, true, true, true, true, true, true, true, true, true, true, true, true, true, false, false, false] rfl rfl (by kernel_rfl) (fun _ _ _ h => h) (Or.inl ⟨by rfl, ?_⟩) hHeld ?_ ?_
            rotate_left
            · rintro w' ⟨s0, s1, s2, s3, s4, s5, s6, s7, s8⟩
              go_simp
              with_reducible rfl
            rotate_left
            · simp only [Act.put, List.setIfInBounds_toArray, List.set_cons_zero, List.set_cons_succ, i64_w, i32_w]
              rfl
            refine pure_ (i := 24) (N := some 56) (v := ?_) (a' := ?_) #[true, true, true, true, true, true, true, true, true, true, true, true, true, true, true, true, true, true, true, true, true, true, true, true, true, false, false] rfl rfl (by kernel_rfl) (fun _ _ _ h => h) (Or.inl ⟨by rfl, ?_⟩) ?_ ?_
            rotate_left
            · intro w'
              go_simp
              with_reducible rfl
            rotate_left
            · simp only [Act.put, List.setIfInBounds_toArray, List.set_cons_zero, List.set_cons_succ, i64_w, i32_w]
              rfl
            refine pure_ (i := 25) (N := some 57) (v := ?_) (a' := ?_) #[true, true, true, true, true, true, true, true, true, true, true, true, true, true, true, true, true, true, true, true, true, true, true, true, true, true, false] rfl rfl (by kernel_rfl) (fun _ _ _ h => h) (Or.inl ⟨by rfl, ?_⟩) ?_ ?_
            rotate_left
            · intro w'
              go_simp
              with_reducible rfl
            rotate_left
            · simp only [Act.put, List.setIfInBounds_toArray, List.set_cons_zero, List.set_cons_succ, i64_w, i32_w]
              rfl
            refine pure_ (i := 26) (N := some 58) (v := ?_) (a' := ?_) #[true, true, true, true, true, true, true, true, true, true, true, true, true, true, true, true, true, true, true, true, true, true, true, true, true, true, true] rfl rfl (by kernel_rfl) (fun _ _ _ h => h) (Or.inl ⟨by rfl, ?_⟩) ?_ ?_
            rotate_left
            · intro w'
              go_simp
              with_reducible rfl
            rotate_left
            · simp only [Act.put, List.setIfInBounds_toArray, List.set_cons_zero, List.set_cons_succ, i64_w, i32_w]
              rfl
            refine done_ (by kernel_rfl) ?_

            by_cases c3 : t1 < t2
            · have t3 : decide (t1 < t2) = true := decide_eq_true c3
              obtain ⟨z0, z1, z2, z3, k0, k1, k2, k3, hB⟩ := hHeld
              clear v0 v1 v2 v3 u0 u1 u2 u3
              go_upto_region 13 with (fail)
              go_still_tail 3, (by kernel_rfl)
              change wpList _ _ _ _ _ w8.drew
              have hBd : Below W7.heap.size W7 w8.drew := below_drew1 hB
              have bz := blk_below HZ7.out hBd
              have r8 := Kd.R_below HR7.out hBd
              have s8 := below_step HS7.out hBd
              generalize w8.drew = wd at hBd bz r8 s8 ⊢
              have e0 := blk_frozen bz 0
              have e1 := blk_frozen bz 1
              have e2 := blk_frozen bz 2
              have e3 := blk_frozen bz 3
              have d0 := (blk_cell bz 0).trans rfl
              have d1 := (blk_cell bz 1).trans rfl
              have d2 := (blk_cell bz 2).trans rfl
              have d3 := (blk_cell bz 3).trans rfl
              have BZ := Aside0.mk bz
              have R8 := Aside0.mk r8
              have S8 := Aside0.mk s8
              clear bz r8 s8 hBd
              go_wp2
              obtain ⟨p1, p2, p3⟩ := put4 BZ.out (.slice (some ⟨gS, 0, none⟩) nb cS) (.slice AB (Js (y + 1)).B.length cB) (.slice AR (Js (y + 1)).R.length cR) (.int .i64 t1)
              have sF := p3 _ _ S8.out GE7.out
              have rF := R_beside R8.out BZ.out (by decide) p2
              clear d0 d1 d2 d3 e0 e1 e2 e3
              generalize (((wd.setCell ⟨g7, 0, none⟩ (.slice (some ⟨gS, 0, none⟩) nb cS)).setCell ⟨g7, 1, none⟩ (.slice AB (Js (y + 1)).B.length cB)).setCell ⟨g7, 2, none⟩ (.slice AR (Js (y + 1)).R.length cR)).setCell ⟨g7, 3, none⟩ (.int .i64 t1) = WF at p1 sF rF ⊢
              clear p2 p3
              go_roundw
              case rel => 
                have hbj : bestJ Js (y + 1) = y + 1 := by
                  unfold bestJ
                  rw [HJB.out]
                  exact if_pos (by unfold better; rw [HN1.out, HN2.out, HT1.out, HT2.out]; exact Or.inr ⟨c2, c3⟩)
                refine ⟨y + 1 + 1, by omega, by go_num, ⟨sF⟩, ⟨Or.inr ⟨y + 1, rfl, by rw [hbj]; go_num, ?_⟩⟩⟩
                rw [hbj]
                exact ⟨gS, cS, _, cB, _, cR, AB, AR, by rw [HT1.out]; exact p1, rF⟩
              case measure => first | (simp [intOf]; done) | (simp [intOf]; omega)
            · have t3 : decide (t1 < t2) = false := decide_eq_false c3
              obtain ⟨z0, z1, z2, z3, k0, k1, k2, k3, hB⟩ := hHeld
              clear v0 v1 v2 v3 u0 u1 u2 u3
              have s8 := below_step HS7.out hB
              have rz : IsRes w8 W1.heap.size g7 nb (Js jb) := ⟨gZ, cZ, nB, cBz, nR, cRz, ABz, ARz, blk_below HZ7.out hB, Kd.R_below HRZ.out hB⟩
              have S8 := Aside0.mk s8
              have RZ := Aside0.mk rz
              clear s8 rz z0 z1 z2 z3 k0 k1 k2 k3 hB
              go_wp2
              go_roundw
              case rel =>
                have hbj : bestJ Js (y + 1) = bestJ Js y := by
                  show (if better (Js (y + 1)) (Js (bestJ Js y)) then y + 1 else bestJ Js y) = bestJ Js y
                  rw [HJB.out]
                  exact if_neg (by unfold better; rw [HN1.out, HN2.out, HT1.out, HT2.out]; rintro (h | ⟨h, h2⟩) <;> omega)
                exact ⟨y + 1 + 1, by omega, by go_num, ⟨S8.out⟩, ⟨Or.inr ⟨y + 1, rfl, by rw [hbj], by rw [hbj, HJB.out]; exact RZ.out⟩⟩⟩
              case measure => first | (simp [intOf]; done) | (simp [intOf]; omega)
          · have t2e : ((n1 : Int) == (n2 : Int)) = false := beq_eq_false_iff_ne.mpr (by omega)
            refine start_ (n := 27) (S := fun w' => w'.cell? ⟨g11, 0, none⟩ = some (.slice (some ⟨gS, 0, none⟩) nb cS) ∧ w'.cell? ⟨g11, 1, none⟩ = some (.slice AB (Js (y + 1)).B.length cB) ∧ w'.cell? ⟨g11, 2, none⟩ = some (.slice AR (Js (y + 1)).R.length cR) ∧ w'.cell? ⟨g11, 3, none⟩ = some (.int .i64 t1) ∧ w'.cell? ⟨g7, 0, none⟩ = some (.slice (some ⟨gZ, 0, none⟩) nb cZ) ∧ w'.cell? ⟨g7, 1, none⟩ = some (.slice ABz nB cBz) ∧ w'.cell? ⟨g7, 2, none⟩ = some (.slice ARz nR cRz) ∧ w'.cell? ⟨g7, 3, none⟩ = some (.int .i64 t2) ∧ Below W7.heap.size W7 w') (ds := []) #[false, false, false, false, false, false, false, false, false, false, false, false, false, false, false, false, false, false, false, false, false, false, false, false, false, false, false] (by kernel_rfl) rfl rfl ⟨(held8 v0 v1 v2 v3 u0 u1 u2 u3 (below_drew1 (Below.refl W7.heap.size W7))).1, (held8 v0 v1 v2 v3 u0 u1 u2 u3 (below_drew1 (Below.refl W7.heap.size W7))).2.1, (held8 v0 v1 v2 v3 u0 u1 u2 u3 (below_drew1 (Below.refl W7.heap.size W7))).2.2.1, (held8 v0 v1 v2 v3 u0 u1 u2 u3 (below_drew1 (Below.refl W7.heap.size W7))).2.2.2.1, (held8 v0 v1 v2 v3 u0 u1 u2 u3 (below_drew1 (Below.refl W7.heap.size W7))).2.2.2.2.1, (held8 v0 v1 v2 v3 u0 u1 u2 u3 (below_drew1 (Below.refl W7.heap.size W7))).2.2.2.2.2.1, (held8 v0 v1 v2 v3 u0 u1 u2 u3 (below_drew1 (Below.refl W7.heap.size W7))).2.2.2.2.2.2.1, (held8 v0 v1 v2 v3 u0 u1 u2 u3 (below_drew1 (Below.refl W7.heap.size W7))).2.2.2.2.2.2.2.1, (held8 v0 v1 v2 v3 u0 u1 u2 u3 (below_drew1 (Below.refl W7.heap.size W7))).2.2.2.2.2.2.2.2⟩ (fun hHeld => ?_)
            refine pure_ (i := 0) (N := some 32) (v := ?_) (a' := ?_) #[true, false, false, false, false, false, false, false, false, false, false, false, false, false, false, false, false, false, false, false, false, false, false, false, false, false, false] rfl rfl (by kernel_rfl) (fun _ _ _ h => h) (Or.inl ⟨by rfl, ?_⟩) ?_ ?_
            rotate_left
            · intro w'
              go_simp
              with_reducible rfl
            rotate_left
            · simp only [Act.put, List.setIfInBounds_toArray, List.set_cons_zero, List.set_cons_succ, i64_w, i32_w]
              rfl
            refine pure_ (i := 1) (N := some 33) (v := ?_) (a' := ?_) #[true, true, false, false, false, false, false, false, false, false, false, false, false, false, false, false, false, false, false, false, false, false, false, false, false, false, false] rfl rfl (by kernel_rfl) (fun _ _ _ h => h) (Or.inl ⟨by rfl, ?_⟩) ?_ ?_
            rotate_left
            · intro w'
              go_simp
              with_reducible rfl
            rotate_left
            · simp only [Act.put, List.setIfInBounds_toArray, List.set_cons_zero, List.set_cons_succ, i64_w, i32_w]
              rfl
            refine pure_ (i := 2) (N := some 34) (v := ?_) (a' := ?_) #[true, true, true, false, false, false, false, false, false, false, false, false, false, false, false, false, false, false, false, false, false, false, false, false, false, false, false] rfl rfl (by kernel_rfl) (fun _ _ _ h => h) (Or.inl ⟨by rfl, ?_⟩) ?_ ?_
            rotate_left
            · intro w'
              go_simp
              with_reducible rfl
            rotate_left
            · simp only [Act.put, List.setIfInBounds_toArray, List.set_cons_zero, List.set_cons_succ, i64_w, i32_w]
              rfl
            refine pure_ (i := 3) (N := some 35) (v := ?_) (a' := ?_) #[true, true, true, true, false, false, false, false, false, false, false, false, false, false, false, false, false, false, false, false, false, false, false, false, false, false, false] rfl rfl (by kernel_rfl) (fun _ _ _ h => h) (Or.inl ⟨by rfl, ?_⟩) ?_ ?_
            rotate_left
            · intro w'
              go_simp
              with_reducible rfl
            rotate_left
            · simp only [Act.put, List.setIfInBounds_toArray, List.set_cons_zero, List.set_cons_succ, i64_w, i32_w]
              rfl
            refine pure_ (i := 6) (N := some 38) (v := ?_) (a' := ?_) #[true, true, true, true, false, false, true, false, false, false, false, false, false, false, false, false, false, false, false, false, false, false, false, false, false, false, false] rfl rfl (by kernel_rfl) (fun _ _ _ h => h) (Or.inl ⟨by rfl, ?_⟩) ?_ ?_
            rotate_left
            · intro w'
              go_simp
              with_reducible rfl
            rotate_left
            · simp only [Act.put, List.setIfInBounds_toArray, List.set_cons_zero, List.set_cons_succ, i64_w, i32_w]
              rfl
            refine take_ (i := 4) (N := some 36) (v := ?_) (a' := ?_) #[true, true, true, true, true, false, true, false, false, false, false, false, false, false, false, false, false, false, false, false, false, false, false, false, false, false, false] rfl rfl (by kernel_rfl) (fun _ _ _ h => h) (Or.inl ⟨by rfl, ?_⟩) hHeld ?_ ?_
            rotate_left
            · rintro w' ⟨s0, s1, s2, s3, s4, s5, s6, s7, s8⟩
              go_simp
              with_reducible rfl
            rotate_left
            · simp only [Act.put, List.setIfInBounds_toArray, List.set_cons_zero, List.set_cons_succ, i64_w, i32_w]
              rfl
            refine take_ (i := 7) (N := some 39) (v := ?_) (a' := ?_) #[true, true, true, true, true, false, true, true, false, false, false, false, false, false, false, false, false, false, false, false, false, false, false, false, false, false, false] rfl rfl (by kernel_rfl) (fun _ _ _ h => h) (Or.inl ⟨by rfl, ?_⟩) hHeld ?_ ?_
            rotate_left
            · rintro w' ⟨s0, s1, s2, s3, s4, s5, s6, s7, s8⟩
              go_simp
              with_reducible rfl
            rotate_left
            · simp only [Act.put, List.setIfInBounds_toArray, List.set_cons_zero, List.set_cons_succ, i64_w, i32_w]
              rfl
            refine one_ (i := 5) (N := some 37) #[true, true, true, true, true, true, true, true, false, false, false, false, false, false, false, false, false, false, false, false, false, false, false, false, false, false, false] rfl rfl (by kernel_rfl) (by decide) (fun K hK => ?_)
            refine goesv_ Try.func31 (by kernel_rfl) rfl #[.agg #[.slice (some ⟨gS, 0, none⟩) nb cS, .slice AB (Js (y + 1)).B.length cB, .slice AR (Js (y + 1)).R.length cR, .int .i64 t1]] (by rfl) rfl rfl (by rfl) (by simp only [List.map_toArray, List.map_cons, List.map_nil]; rfl) ?_
            with_reducible refine (HG1.out _ hHeld.2.2.2.2.2.2.2.2).mono ?_
            rintro e w8 ⟨rfl, hb⟩
            refine ⟨_, rfl, ?_⟩
            have hbn := held_step hHeld.2.2.2.2.2.2.2.2 hb
            have h8 := held8 v0 v1 v2 v3 u0 u1 u2 u3 hbn
            refine hK.out _ _ ⟨h8.1, h8.2.1, h8.2.2.1, h8.2.2.2.1, h8.2.2.2.2.1, h8.2.2.2.2.2.1, h8.2.2.2.2.2.2.1, h8.2.2.2.2.2.2.2.1, h8.2.2.2.2.2.2.2.2⟩ (fun hHeld => ?_)
            clear hK K
            refine norm_ (a' := ?_) ?_ ?_
            rotate_left
            · show Act.put _ (some 37) _ = _
              simp only [Act.put, List.setIfInBounds_toArray, List.set_cons_zero, List.set_cons_succ, i64_w, i32_w]
              rfl
            refine one_ (i := 8) (N := some 40) #[true, true, true, true, true, true, true, true, true, false, false, false, false, false, false, false, false, false, false, false, false, false, false, false, false, false, false] rfl rfl (by kernel_rfl) (by decide) (fun K hK => ?_)
            refine goesv_ Try.func31 (by kernel_rfl) rfl #[.agg #[.slice (some ⟨gZ, 0, none⟩) nb cZ, .slice ABz nB cBz, .slice ARz nR cRz, .int .i64 t2]] (by rfl) rfl rfl (by rfl) (by simp only [List.map_toArray, List.map_cons, List.map_nil]; rfl) ?_
            with_reducible refine (HG2.out _ hHeld.2.2.2.2.2.2.2.2).mono ?_
            rintro e w8 ⟨rfl, hb⟩
            refine ⟨_, rfl, ?_⟩
            have hbn := held_step hHeld.2.2.2.2.2.2.2.2 hb
            have h8 := held8 v0 v1 v2 v3 u0 u1 u2 u3 hbn
            refine hK.out _ _ ⟨h8.1, h8.2.1, h8.2.2.1, h8.2.2.2.1, h8.2.2.2.2.1, h8.2.2.2.2.2.1, h8.2.2.2.2.2.2.1, h8.2.2.2.2.2.2.2.1, h8.2.2.2.2.2.2.2.2⟩ (fun hHeld => ?_)
            clear hK K
            refine norm_ (a' := ?_) ?_ ?_
            rotate_left
            · show Act.put _ (some 40) _ = _
              simp only [Act.put, List.setIfInBounds_toArray, List.set_cons_zero, List.set_cons_succ, i64_w, i32_w]
              rfl
            refine pure_ (i := 9) (N := some 41) (v := ?_) (a' := ?_) #[true, true, true, true, true, true, true, true, true, true, false, false, false, false, false, false, false, false, false, false, false, false, false, false, false, false, false] rfl rfl (by kernel_rfl) (fun _ _ _ h => h) (Or.inl ⟨by rfl, ?_⟩) ?_ ?_
            rotate_left
            · intro w'
              go_simp
              with_reducible rfl
            rotate_left
            · simp only [Act.put, List.setIfInBounds_toArray, List.set_cons_zero, List.set_cons_succ, i64_w, i32_w]
              rfl
            refine pure_ (i := 10) (N := some 42) (v := ?_) (a' := ?_) #[true, true, true, true, true, true, true, true, true, true, true, false, false, false, false, false, false, false, false, false, false, false, false, false, false, false, false] rfl rfl (by kernel_rfl) (fun _ _ _ h => h) (Or.inl ⟨by rfl, ?_⟩) ?_ ?_
            rotate_left
            · intro w'
              go_simp
              with_reducible rfl
            rotate_left
            · simp only [Act.put, List.setIfInBounds_toArray, List.set_cons_zero, List.set_cons_succ, i64_w, i32_w]
              rfl
            refine pure_ (i := 11) (N := some 43) (v := ?_) (a' := ?_) #[true, true, true, true, true, true, true, true, true, true, true, true, false, false, false, false, false, false, false, false, false, false, false, false, false, false, false] rfl rfl (by kernel_rfl) (fun _ _ _ h => h) (Or.inl ⟨by rfl, ?_⟩) ?_ ?_
            rotate_left
            · intro w'
              go_simp
              with_reducible rfl
            rotate_left
            · simp only [Act.put, List.setIfInBounds_toArray, List.set_cons_zero, List.set_cons_succ, i64_w, i32_w]
              rfl
            refine pure_ (i := 12) (N := some 44) (v := ?_) (a' := ?_) #[true, true, true, true, true, true, true, true, true, true, true, true, true, false, false, false, false, false, false, false, false, false, false, false, false, false, false] rfl rfl (by kernel_rfl) (fun _ _ _ h => h) (Or.inl ⟨by rfl, ?_⟩) ?_ ?_
            rotate_left
            · intro w'
              go_simp
              with_reducible rfl
            rotate_left
            · simp only [Act.put, List.setIfInBounds_toArray, List.set_cons_zero, List.set_cons_succ, i64_w, i32_w]
              rfl
            refine pure_ (i := 15) (N := some 47) (v := ?_) (a' := ?_) #[true, true, true, true, true, true, true, true, true, true, true, true, true, false, false, true, false, false, false, false, false, false, false, false, false, false, false] rfl rfl (by kernel_rfl) (fun _ _ _ h => h) (Or.inl ⟨by rfl, ?_⟩) ?_ ?_
            rotate_left
            · intro w'
              go_simp
              with_reducible rfl
            rotate_left
            · simp only [Act.put, List.setIfInBounds_toArray, List.set_cons_zero, List.set_cons_succ, i64_w, i32_w]
              rfl
            refine take_ (i := 13) (N := some 45) (v := ?_) (a' := ?_) #[true, true, true, true, true, true, true, true, true, true, true, true, true, true, false, true, false, false, false, false, false, false, false, false, false, false, false] rfl rfl (by kernel_rfl) (fun _ _ _ h => h) (Or.inl ⟨by rfl, ?_⟩) hHeld ?_ ?_
            rotate_left
            · rintro w' ⟨s0, s1, s2, s3, s4, s5, s6, s7, s8⟩
              go_simp
              with_reducible rfl
            rotate_left
            · simp only [Act.put, List.setIfInBounds_toArray, List.set_cons_zero, List.set_cons_succ, i64_w, i32_w]
              rfl
            refine take_ (i := 16) (N := some 48) (v := ?_) (a' := ?_) #[true, true, true, true, true, true, true, true, true, true, true, true, true, true, false, true, true, false, false, false, false, false, false, false, false, false, false] rfl rfl (by kernel_rfl) (fun _ _ _ h => h) (Or.inl ⟨by rfl, ?_⟩) hHeld ?_ ?_
            rotate_left
            · rintro w' ⟨s0, s1, s2, s3, s4, s5, s6, s7, s8⟩
              go_simp
              with_reducible rfl
            rotate_left
            · simp only [Act.put, List.setIfInBounds_toArray, List.set_cons_zero, List.set_cons_succ, i64_w, i32_w]
              rfl
            refine one_ (i := 14) (N := some 46) #[true, true, true, true, true, true, true, true, true, true, true, true, true, true, true, true, true, false, false, false, false, false, false, false, false, false, false] rfl rfl (by kernel_rfl) (by decide) (fun K hK => ?_)
            refine goesv_ Try.func31 (by kernel_rfl) rfl #[.agg #[.slice (some ⟨gS, 0, none⟩) nb cS, .slice AB (Js (y + 1)).B.length cB, .slice AR (Js (y + 1)).R.length cR, .int .i64 t1]] (by rfl) rfl rfl (by rfl) (by simp only [List.map_toArray, List.map_cons, List.map_nil]; rfl) ?_
            with_reducible refine (HG1.out _ hHeld.2.2.2.2.2.2.2.2).mono ?_
            rintro e w8 ⟨rfl, hb⟩
            refine ⟨_, rfl, ?_⟩
            have hbn := held_step hHeld.2.2.2.2.2.2.2.2 hb
            have h8 := held8 v0 v1 v2 v3 u0 u1 u2 u3 hbn
            refine hK.out _ _ ⟨h8.1, h8.2.1, h8.2.2.1, h8.2.2.2.1, h8.2.2.2.2.1, h8.2.2.2.2.2.1, h8.2.2.2.2.2.2.1, h8.2.2.2.2.2.2.2.1, h8.2.2.2.2.2.2.2.2⟩ (fun hHeld => ?_)
            clear hK K
            refine norm_ (a' := ?_) ?_ ?_
            rotate_left
            · show Act.put _ (some 46) _ = _
              simp only [Act.put, List.setIfInBounds_toArray, List.set_cons_zero, List.set_cons_succ, i64_w, i32_w]
              rfl
            refine one_ (i := 17) (N := some 49) #[true, true, true, true, true, true, true, true, true, true, true, true, true, true, true, true, true, true, false, false, false, false, false, false, false, false, false] rfl rfl (by kernel_rfl) (by decide) (fun K hK => ?_)
            refine goesv_ Try.func31 (by kernel_rfl) rfl #[.agg #[.slice (some ⟨gZ, 0, none⟩) nb cZ, .slice ABz nB cBz, .slice ARz nR cRz, .int .i64 t2]] (by rfl) rfl rfl (by rfl) (by simp only [List.map_toArray, List.map_cons, List.map_nil]; rfl) ?_
            with_reducible refine (HG2.out _ hHeld.2.2.2.2.2.2.2.2).mono ?_
            rintro e w8 ⟨rfl, hb⟩
            refine ⟨_, rfl, ?_⟩
            have hbn := held_step hHeld.2.2.2.2.2.2.2.2 hb
            have h8 := held8 v0 v1 v2 v3 u0 u1 u2 u3 hbn
            refine hK.out _ _ ⟨h8.1, h8.2.1, h8.2.2.1, h8.2.2.2.1, h8.2.2.2.2.1, h8.2.2.2.2.2.1, h8.2.2.2.2.2.2.1, h8.2.2.2.2.2.2.2.1, h8.2.2.2.2.2.2.2.2⟩ (fun hHeld => ?_)
            clear hK K
            refine norm_ (a' := ?_) ?_ ?_
            rotate_left
            · show Act.put _ (some 49) _ = _
              simp only [Act.put, List.setIfInBounds_toArray, List.set_cons_zero, List.set_cons_succ, i64_w, i32_w]
              rfl
            refine pure_ (i := 18) (N := some 50) (v := ?_) (a' := ?_) #[true, true, true, true, true, true, true, true, true, true, true, true, true, true, true, true, true, true, true, false, false, false, false, false, false, false, false] rfl rfl (by kernel_rfl) (fun _ _ _ h => h) (Or.inl ⟨by rfl, ?_⟩) ?_ ?_
            rotate_left
            · intro w'
              go_simp
              with_reducible rfl
            rotate_left
            · simp only [Act.put, List.setIfInBounds_toArray, List.set_cons_zero, List.set_cons_succ, i64_w, i32_w]
              rfl
            refine pure_ (i := 19) (N := some 51) (v := ?_) (a' := ?_) #[true, true, true, true, true, true, true, true, true, true, true, true, true, true, true, true, true, true, true, true, false, false, false, false, false, false, false] rfl rfl (by kernel_rfl) (fun _ _ _ h => h) (Or.inl ⟨by rfl, ?_⟩) ?_ ?_
            rotate_left
            · intro w'
              go_simp
              with_reducible rfl
            rotate_left
            · simp only [Act.put, List.setIfInBounds_toArray, List.set_cons_zero, List.set_cons_succ, i64_w, i32_w]
              rfl
            refine pure_ (i := 20) (N := some 52) (v := undef) (a' := ?_) #[true, true, true, true, true, true, true, true, true, true, true, true, true, true, true, true, true, true, true, true, true, false, false, false, false, false, false] rfl rfl (by kernel_rfl) (fun _ _ _ h => h) (Or.inr ⟨by rfl, rfl⟩) ?_ ?_
            rotate_left
            · simp only [Act.put, List.setIfInBounds_toArray, List.set_cons_zero, List.set_cons_succ, i64_w, i32_w]
              rfl
            refine pure_ (i := 21) (N := some 53) (v := undef) (a' := ?_) #[true, true, true, true, true, true, true, true, true, true, true, true, true, true, true, true, true, true, true, true, true, true, false, false, false, false, false] rfl rfl (by kernel_rfl) (fun _ _ _ h => h) (Or.inr ⟨by rfl, rfl⟩) ?_ ?_
            rotate_left
            · simp only [Act.put, List.setIfInBounds_toArray, List.set_cons_zero, List.set_cons_succ, i64_w, i32_w]
              rfl
            refine pure_ (i := 22) (N := some 54) (v := undef) (a' := ?_) #[true, true, true, true, true, true, true, true, true, true, true, true, true, true, true, true, true, true, true, true, true, true, true, false, false, false, false] rfl rfl (by kernel_rfl) (fun _ _ _ h => h) (Or.inr ⟨by rfl, rfl⟩) ?_ ?_
            rotate_left
            · simp only [Act.put, List.setIfInBounds_toArray, List.set_cons_zero, List.set_cons_succ, i64_w, i32_w]
              rfl
            refine pure_ (i := 23) (N := some 55) (v := undef) (a' := ?_) #[true, true, true, true, true, true, true, true, true, true, true, true, true, true, true, true, true, true, true, true, true, true, true, true, false, false, false] rfl rfl (by kernel_rfl) (fun _ _ _ h => h) (Or.inr ⟨by rfl, rfl⟩) ?_ ?_
            rotate_left
            · simp only [Act.put, List.setIfInBounds_toArray, List.set_cons_zero, List.set_cons_succ, i64_w, i32_w]
              rfl
            refine pure_ (i := 24) (N := some 56) (v := undef) (a' := ?_) #[true, true, true, true, true, true, true, true, true, true, true, true, true, true, true, true, true, true, true, true, true, true, true, true, true, false, false] rfl rfl (by kernel_rfl) (fun _ _ _ h => h) (Or.inr ⟨by rfl, rfl⟩) ?_ ?_
            rotate_left
            · simp only [Act.put, List.setIfInBounds_toArray, List.set_cons_zero, List.set_cons_succ, i64_w, i32_w]
              rfl
            refine pure_ (i := 25) (N := some 57) (v := ?_) (a' := ?_) #[true, true, true, true, true, true, true, true, true, true, true, true, true, true, true, true, true, true, true, true, true, true, true, true, true, true, false] rfl rfl (by kernel_rfl) (fun _ _ _ h => h) (Or.inl ⟨by rfl, ?_⟩) ?_ ?_
            rotate_left
            · intro w'
              go_simp
              with_reducible rfl
            rotate_left
            · simp only [Act.put, List.setIfInBounds_toArray, List.set_cons_zero, List.set_cons_succ, i64_w, i32_w]
              rfl
            refine pure_ (i := 26) (N := some 58) (v := ?_) (a' := ?_) #[true, true, true, true, true, true, true, true, true, true, true, true, true, true, true, true, true, true, true, true, true, true, true, true, true, true, true] rfl rfl (by kernel_rfl) (fun _ _ _ h => h) (Or.inl ⟨by rfl, ?_⟩) ?_ ?_
            rotate_left
            · intro w'
              go_simp
              with_reducible rfl
            rotate_left
            · simp only [Act.put, List.setIfInBounds_toArray, List.set_cons_zero, List.set_cons_succ, i64_w, i32_w]
              rfl
            refine done_ (by kernel_rfl) ?_

            obtain ⟨z0, z1, z2, z3, k0, k1, k2, k3, hB⟩ := hHeld
            clear v0 v1 v2 v3 u0 u1 u2 u3
            have s8 := below_step HS7.out hB
            have rz : IsRes w8 W1.heap.size g7 nb (Js jb) := ⟨gZ, cZ, nB, cBz, nR, cRz, ABz, ARz, blk_below HZ7.out hB, Kd.R_below HRZ.out hB⟩
            have S8 := Aside0.mk s8
            have RZ := Aside0.mk rz
            clear s8 rz z0 z1 z2 z3 k0 k1 k2 k3 hB
            go_wp2
            go_roundw
            case rel =>
              have hbj : bestJ Js (y + 1) = bestJ Js y := by
                show (if better (Js (y + 1)) (Js (bestJ Js y)) then y + 1 else bestJ Js y) = bestJ Js y
                rw [HJB.out]
                exact if_neg (by unfold better; rw [HN1.out, HN2.out, HT1.out, HT2.out]; rintro (h | ⟨h, h2⟩) <;> omega)
              exact ⟨y + 1 + 1, by omega, by go_num, ⟨S8.out⟩, ⟨Or.inr ⟨y + 1, rfl, by rw [hbj], by rw [hbj, HJB.out]; exact RZ.out⟩⟩⟩
            case measure => first | (simp [intOf]; done) | (simp [intOf]; omega)
    · rcases HX.out with ⟨e, _⟩ | ⟨y, e, rfl, _⟩
      · omega
      · obtain rfl : y = 2 := by omega
        clear HX
        have tb : decide (((bestJ Js 2 : Nat) : Int) < 0) = false := decide_eq_false (by omega)
        go_wp2
        go_ret2
        exact ⟨rfl, below_step HB1.out HBr.out⟩

end Go.Proofs.Ytcnabemeadnecaa.PPassPlans
