-- written by prn.py, a program of this session, over the kit's printer
import Derived.Test.YtcnabemeadnecaaDoorPKnownClashesx0
namespace Go.Proofs.YtcnabemeadnecaaDoor.PKnownClashes
open Go.RowKit Go.Proofs.YtcnabemeadnecaaDoorW.PrintWords Go.Proofs.YtcnabemeadnecaaDoorW.PrintLast Go.Proofs.YtcnabemeadnecaaDoorW.PrintMore Go.Proofs.YtcnabemeadnecaaDoorW.PrintMine
attribute [local go_sem] max2_int min2_int max_two min_two max_three min_three max_four min_four   -- for this text's walks alone
set_option linter.unusedVariables false
set_option linter.unusedSimpArgs false

/-! ### slices_Clone_byte_byte: function 6 -/
def slices_Clone_byte_byte.f (l0 : List Int) : Option (List Int) := if l0.length ≤ 140737488355328 then (some l0) else (none)
set_option maxHeartbeats 8000000 in
set_option maxRecDepth 100000 in
theorem slices_Clone_byte_byte.calls (A0 : Option Addr) (c0 : Nat) (l0 : List Int) (r : List Int) (w : World) (hr0 : Kd.C (Kd.int .u8) w A0 l0.length l0) (hc0 : l0.length ≤ c0) (h : slices_Clone_byte_byte.f l0 = some r) :
    Calls Tryd.prog 6 #[.slice A0 l0.length c0] w fun e w' => ∃ v0_ : Value, e = .returned (v0_) ∧ Kd.R (Kd.int .u8) 5 w' w.heap.size (fun _ => True) v0_ r ∧ Below w.heap.size w w' := by
  have H : (if l0.length ≤ 140737488355328 then (some l0) else (none)) = some r := h
  clear h
  by_cases c1 : l0.length ≤ 140737488355328
  · rw [if_pos c1] at H
    obtain rfl := Option.some.inj H
    clear H
    have q1 : ∀ (w : World) (a : Option Addr) (n c n' c' : Nat), (binOp .eql 23 (.slice a n c) (.slice none n' c')).run Tryd.prog w = .ok (.bool a.isNone) w := fun w a n c n' c' => Go.Lib.run_eql_slice_nil w _ _ a n c n' c' Tryd.underlying23
    cases A0 with
    | none =>
      have h0 : l0.length = 0 := by
        rcases Nat.eq_zero_or_pos l0.length with h0 | h0
        · exact h0
        · obtain ⟨ad, h, _⟩ := hr0.2.2 h0
          cases h
      obtain rfl := List.eq_nil_of_length_eq_zero h0
      clear hr0 hc0 c1 h0
      go_enter Tryd.func6, Tryd.ntmps6
      go_wp2
      go_ret
      exact ⟨_, rfl, Kd.R_nil _ _ _ _ _, Below.refl _ _⟩
    | some ad =>
      have HR := Aside0.mk hr0
      have C1 := Aside0.mk (show (([] : List Int).length + l0.length) * 1 ≤ 140737488355328 from by simp only [List.length_nil]; omega)
      clear hr0 hc0 c1
      go_enter Tryd.func6, Tryd.ntmps6
      go_wp2_with (first | (at_builtin; refine Kd.R_append_rows (Kd.int .u8) (w0 := w) w.heap.size rfl (.tmp 5) (.tmp 6) 23 5 (.int .u8 0) 1 rfl Tryd.underlying23 info5 rfl (by decide) (by omega) (.slice (some ⟨w.heap.size, 0, none⟩) 0 0) [] l0 (some ad) _ _ (fun _ => True) (fun _ => False) rfl rfl ⟨fun _ _ => trivial, [], World.ownsRow_made w #[] 0 (Nat.le_refl _) (Nat.zero_le _) (by simp), Reps.none _ _⟩ (Kd.C_below HR.out (below_alloc (Below.refl _ _) _)) (fun _ _ h => h) (fun _ h => h.elim) (fun _ _ => trivial) (below_alloc (Below.refl _ _) _) (by simp) C1.out ?_; intro v1 w1 ho hb hg hat; clear hg hat; rw [List.nil_append] at ho; have HO := Aside0.mk ho; have HB := Aside0.mk hb; clear ho hb))
      go_ret
      exact ⟨_, rfl, HO.out, HB.out⟩
  · rw [if_neg c1] at H
    exact absurd H (by simp)

/-! ### known_Check: function 14 -/
set_option maxHeartbeats 4000000 in
set_option maxRecDepth 100000 in
/-- known.Check of a map whose blocks are all good. -/
theorem known_Check.calls {base : Nat} {ok : Nat → Prop} (bs cS n : Nat) (S : List Int) (A1 : Option Addr) (c1 m : Nat) (w : World) (hr0 : (Kd.int .i64).R 3 w base ok (.slice (some ⟨bs, 0, none⟩) n cS) S) (hn : n ≤ 1024) (hS : ∀ x < n, rdOf 0 S ((x : Nat) : Int) = 1) (hm : m = 64 * n) :
    Calls Tryd.prog 14 #[.agg #[.slice (some ⟨bs, 0, none⟩) n cS, .slice A1 m c1]] w fun e w' => e = .returned (.int .i64 0) ∧ Below w.heap.size w w' := by
  subst hm
  have HR := Aside0.mk hr0
  have HS := Aside0.mk hS
  clear hr0 hS
  have t64 : ((64 * n : Nat) : Int) = (n : Int) * 64 := by omega
  go_enter Tryd.func14, Tryd.ntmps14
  go_upto_region 1 with (first | ((with_reducible refine gate_dst (N := 1) rfl ?_); refine box_event ?hg (N := 1) ?hd (cs := #[.slice (some ⟨bs, 0, none⟩) n cS, .slice A1 (64 * n) c1]) (t := 30) ?hr ?_; (case hd => rfl); (case hg => rfl); (case hr => first | (go_simp; done) | (go_simp; rfl)); intro g1 hg W1 hbox hb; have BK1 := Aside0.mk hbox; have HB1 := Aside0.mk hb; clear hb hbox hg))
  have x0 : W1.cell? ⟨g1, 0, none⟩ = some (.slice (some ⟨bs, 0, none⟩) n cS) := (blk_cell BK1.out 0).trans rfl
  have x1 : W1.cell? ⟨g1, 1, none⟩ = some (.slice A1 (64 * n) c1) := (blk_cell BK1.out 1).trans rfl
  have HR1 := Aside0.mk (Kd.R_below HR.out HB1.out)
  have tn : (((64 * n : Nat) : Int) != (n : Int) * 64) = false := by rw [t64]; exact bne_self_eq_false _
  have tn2 : ((64 : Int) * (n : Int) != (n : Int) * 64) = false := bne_eq_false_iff_eq.mpr (by omega)
  have tn3 : ((64 : Int) * (n : Int) == (n : Int) * 64) = true := beq_iff_eq.mpr (by omega)
  go_upto_region 6 with (fail)
  clear x0 x1 t64 tn tn2 tn3
  go_loopw [22] (fun i wr => ∃ (x : Nat), x ≤ n ∧ i = .int .i64 x ∧ Aside0 (wr = W1)) (fun i _ => n - (intOf i).toNat)
  case atStart => exact ⟨0, Nat.zero_le _, rfl, ⟨rfl⟩⟩
  case round =>
    obtain ⟨x, h1, rfl, HW⟩ := hrel
    obtain rfl := HW.out
    by_cases hlt : x < n
    · obtain ⟨z0, -⟩ := Kd.R_celln 0 HR1.out (x : Int) (by omega) (by omega)
      rw [Int.toNat_natCast, HS.out x hlt] at z0
      go_wp2
      go_roundw
      case rel => exact ⟨x + 1, by omega, by go_num, ⟨by first | trivial | rfl⟩⟩
      case measure => simp [intOf]; omega
    · have ex : x = n := by omega
      subst ex
      go_wp2
      go_ret
      exact ⟨rfl, HB1.out⟩

/-! ### slices_Clone_int_int: function 15 -/
def slices_Clone_int_int.f (l0 : List Int) : Option (List Int) := if l0.length ≤ 17592186044416 then (some l0) else (none)
set_option maxHeartbeats 8000000 in
set_option maxRecDepth 100000 in
theorem slices_Clone_int_int.calls (A0 : Option Addr) (c0 : Nat) (l0 : List Int) (r : List Int) (w : World) (hr0 : Kd.C (Kd.int .i64) w A0 l0.length l0) (hc0 : l0.length ≤ c0) (h : slices_Clone_int_int.f l0 = some r) :
    Calls Tryd.prog 15 #[.slice A0 l0.length c0] w fun e w' => ∃ v0_ : Value, e = .returned (v0_) ∧ Kd.R (Kd.int .i64) 3 w' w.heap.size (fun _ => True) v0_ r ∧ Below w.heap.size w w' := by
  have H : (if l0.length ≤ 17592186044416 then (some l0) else (none)) = some r := h
  clear h
  by_cases c1 : l0.length ≤ 17592186044416
  · rw [if_pos c1] at H
    obtain rfl := Option.some.inj H
    clear H
    have q1 : ∀ (w : World) (a : Option Addr) (n c n' c' : Nat), (binOp .eql 22 (.slice a n c) (.slice none n' c')).run Tryd.prog w = .ok (.bool a.isNone) w := fun w a n c n' c' => Go.Lib.run_eql_slice_nil w _ _ a n c n' c' Tryd.underlying22
    cases A0 with
    | none =>
      have h0 : l0.length = 0 := by
        rcases Nat.eq_zero_or_pos l0.length with h0 | h0
        · exact h0
        · obtain ⟨ad, h, _⟩ := hr0.2.2 h0
          cases h
      obtain rfl := List.eq_nil_of_length_eq_zero h0
      clear hr0 hc0 c1 h0
      go_enter Tryd.func15, Tryd.ntmps15
      go_wp2
      go_ret
      exact ⟨_, rfl, Kd.R_nil _ _ _ _ _, Below.refl _ _⟩
    | some ad =>
      have HR := Aside0.mk hr0
      have C1 := Aside0.mk (show (([] : List Int).length + l0.length) * 8 ≤ 140737488355328 from by simp only [List.length_nil]; omega)
      clear hr0 hc0 c1
      go_enter Tryd.func15, Tryd.ntmps15
      go_wp2_with (first | (at_builtin; refine Kd.R_append_rows (Kd.int .i64) (w0 := w) w.heap.size rfl (.tmp 5) (.tmp 6) 22 3 (.int .i64 0) 8 rfl Tryd.underlying22 info3 rfl (by decide) (by omega) (.slice (some ⟨w.heap.size, 0, none⟩) 0 0) [] l0 (some ad) _ _ (fun _ => True) (fun _ => False) rfl rfl ⟨fun _ _ => trivial, [], World.ownsRow_made w #[] 0 (Nat.le_refl _) (Nat.zero_le _) (by simp), Reps.none _ _⟩ (Kd.C_below HR.out (below_alloc (Below.refl _ _) _)) (fun _ _ h => h) (fun _ h => h.elim) (fun _ _ => trivial) (below_alloc (Below.refl _ _) _) (by simp) C1.out ?_; intro v1 w1 ho hb hg hat; clear hg hat; rw [List.nil_append] at ho; have HO := Aside0.mk ho; have HB := Aside0.mk hb; clear ho hb))
      go_ret
      exact ⟨_, rfl, HO.out, HB.out⟩
  · rw [if_neg c1] at H
    exact absurd H (by simp)

/-! ### known_rank: function 16 -/
def known_rank.f (a0 : Int) : Option (Int) := (some (([0, 3, 2, 1] : List Int) : List Int)).bind fun y133 => (if 0 ≤ a0 then (if a0 < (y133.length : Int) then (some (rd y133 a0)) else (none)) else (none))
set_option maxHeartbeats 8000000 in
set_option maxRecDepth 100000 in
theorem known_rank.calls (a0 : Int) (r : Int) (w : World) (h : known_rank.f a0 = some r) :
    Calls Tryd.prog 16 #[.int .i64 a0] w fun e w' => e = .returned (.int .i64 r) ∧ Below w.heap.size w w' := by
  have HB := Aside0.mk (Below.refl w.heap.size w)
  have H : ((some (([0, 3, 2, 1] : List Int) : List Int)).bind fun y133 => (if 0 ≤ a0 then (if a0 < (y133.length : Int) then (some (rd y133 a0)) else (none)) else (none))) = some r := h
  clear h
  obtain ⟨y133, hy133⟩ : ∃ y_ : List Int, y_ = (([0, 3, 2, 1] : List Int)) := ⟨_, rfl⟩
  replace H : (if 0 ≤ a0 then (if a0 < (y133.length : Int) then (some (rd y133 a0)) else (none)) else (none)) = some r := by first | (rw [hy133]; with_reducible exact H) | (have H2_ := (Option.bind_some _ _).symm.trans H; rw [hy133]; with_reducible exact H2_) | (have H2_ := (Option.bind_some _ _).symm.trans H; with_reducible exact H2_) | with_reducible exact H | (rw [hy133]; exact H) | exact H
  have Ny133 := Aside0.mk hy133
  clear hy133
  by_cases c2 : 0 ≤ a0
  · rw [if_pos c2] at H
    have c2b0 : decide (0 ≤ a0) = true := decide_eq_true c2
    clear c2
    by_cases c3 : a0 < (y133.length : Int)
    · rw [if_pos c3] at H
      have c3b0 : decide (a0 < (y133.length : Int)) = true := decide_eq_true c3
      clear c3
      obtain rfl := Option.some.inj H
      go_enter Tryd.func16, Tryd.ntmps16
      go_wp2_with (first | ((with_reducible refine gate_dst (N := 3) rfl ?_); refine Kd.R_lit (Kd.int .i64) _ 3 ?hg (N := 3) ?hd (xs := ([0, 3, 2, 1] : List Int)) (inner := [.int .i64 0, .int .i64 3, .int .i64 2, .int .i64 1]) (ok := fun _ => True) (okp := fun _ => True) ?hr ?hp (fun _ hk => hk) trivial (Below.refl _ _) (Nat.le_refl _) (by simp) ?_; (case hd => rfl); (case hg => rfl); (case hr => first | (go_simp; done) | (go_simp; rfl)); (case hp => exact (Reps.one (show Kd.M (Kd.int .i64) _ _ _ 0 [.int .i64 0] from rfl) (Reps.one (show Kd.M (Kd.int .i64) _ _ _ 3 [.int .i64 3] from rfl) (Reps.one (show Kd.M (Kd.int .i64) _ _ _ 2 [.int .i64 2] from rfl) (Reps.one (show Kd.M (Kd.int .i64) _ _ _ 1 [.int .i64 1] from rfl) (Reps.none _ _)))))); intro v134 w4 ho5 hb hg_ hnew_; clear hg_ hnew_; (first | rw [← Ny133.out] at ho5 | (simp only [Int.reduceToNat] at ho5; rw [← Ny133.out] at ho5)); have n0_ := Aside0.mk (Kd.R_lower ho5 (below_size (by repeat (first | (with_reducible first | exact HB.out | apply below_alloc | apply pw_below_drewN | apply below_drew1) | exact HB.out)))); have n1_ := Aside0.mk (below_step (by repeat (first | (with_reducible first | exact HB.out | apply below_alloc | apply pw_below_drewN | apply below_drew1) | exact HB.out)) hb); clear HB; have HO135 := n0_; have HB := n1_; clear n0_ n1_; clear hb ho5; obtain ⟨Ao6, co6, eo6⟩ := Kd.R_slice HO135.out; subst eo6; have p136 : 0 ≤ (a0 : Int) := of_decide_eq_true (by first | (with_reducible assumption) | assumption); have q136 : a0 < (y133.length : Int) := of_decide_eq_true (by first | (with_reducible assumption) | assumption); obtain ⟨ad136, e136, hx136_0⟩ := Kd.at_int (Kd.R_reads' HO135.out).2.2 a0 p136 q136; cases e136; replace p136 := eq_true p136; replace q136 := eq_true q136))
      go_ret
      exact ⟨by first | rfl | (simp [errW_none, errW_some] <;> rfl) | (simp [*, errW_none, errW_some] <;> rfl), by repeat (first | (with_reducible first | exact HB.out | apply below_alloc | apply pw_below_drewN | apply below_drew1) | exact HB.out)⟩
    · rw [if_neg c3] at H
      exact absurd H (by simp)
  · rw [if_neg c2] at H
    exact absurd H (by simp)

/-! ### known_block: function 17 -/
def kblk (D : List Int) (i : Nat) : List Int := (D.drop (64 * i)).take 64
set_option maxHeartbeats 4000000 in
set_option maxRecDepth 100000 in
theorem known_block.calls (nS cS : Nat) (AS : Option Addr) (A1 : Option Addr) (c1 : Nat) (D : List Int) (i : Nat) (w : World) (hc1 : D.length ≤ c1) (hi : 64 * i + 64 ≤ D.length) (hD : D.length ≤ 65536) :
    Calls Tryd.prog 17 #[.agg #[.slice AS nS cS, .slice A1 D.length c1], .int .i64 i] w fun e w' => ∃ (A' : Option Addr) (c' : Nat), e = .returned (.slice A' (kblk D i).length c') ∧ (∀ W : World, Kd.C (Kd.int .u8) W A1 D.length D → Kd.C (Kd.int .u8) W A' (kblk D i).length (kblk D i)) ∧ (kblk D i).length ≤ c' ∧ Below w.heap.size w w' := by
  obtain ⟨row, hrow⟩ : ∃ row, kblk D i = row := ⟨_, rfl⟩
  have hlen : row.length = 64 := by rw [← hrow]; unfold kblk; rw [List.length_take, List.length_drop]; omega
  obtain ⟨i0, hi0, _, hsz, _⟩ := info_parts info5
  have hcut := cut_mid (P := Tryd.prog) 23 5 .i64 .i64 Tryd.underlying23 hi0 1 hsz A1 D.length c1 ((i : Int) * 64) (((i : Int) + 1) * 64) (by omega) (by omega) (by omega) hc1
  have el : (((i : Int) + 1) * 64).toNat - ((i : Int) * 64).toNat = row.length := by omega
  have et : ((i : Int) * 64).toNat = 64 * i := by omega
  rw [el, et] at hcut
  have HCUT : Aside0 (∀ W : World, Kd.C (Kd.int .u8) W A1 D.length D → Kd.C (Kd.int .u8) W (if c1 = 64 * i then A1 else A1.map (·.add ((64 * i) * 1))) row.length row) := ⟨fun W hW => by
    have h1 := Kd.C_drop hW (m := 64 * i) (c := c1) (by omega) hc1
    have h2 := Kd.C_take (m := 64) h1 (by rw [List.length_drop]; omega)
    unfold kblk at hrow
    rw [hrow] at h2
    exact h2⟩
  have HLEN := Aside0.mk (show row.length ≤ c1 - 64 * i from by omega)
  generalize (if c1 = 64 * i then A1 else A1.map (·.add ((64 * i) * 1))) = AC at hcut HCUT
  have HROW := Aside0.mk hrow
  have hi2 : i ≤ 1024 := by omega
  clear hlen el et hrow hi0 hsz
  rw [HROW.out]
  go_enter Tryd.func17, Tryd.ntmps17
  go_upto_region 1 with (first | ((with_reducible refine gate_dst (N := 2) rfl ?_); refine box_event ?hg (N := 2) ?hd (cs := #[.slice AS nS cS, .slice A1 D.length c1]) (t := 30) ?hr ?_; (case hd => rfl); (case hg => rfl); (case hr => first | (go_simp; done) | (go_simp; rfl)); intro g1 hg W1 hbox hb; have BK1 := Aside0.mk hbox; have HB1 := Aside0.mk hb; clear hb hbox hg))
  have x1 : W1.cell? ⟨g1, 1, none⟩ = some (.slice A1 D.length c1) := (blk_cell BK1.out 1).trans rfl
  go_wp2
  go_ret
  exact ⟨AC, _, rfl, HCUT.out, HLEN.out, HB1.out⟩

/-! ### bytes_Equal: function 18 -/
def bytes_Equal.f (l0 : List Int) (l1 : List Int) : Option (Bool) := some ((strOfNums l0).toList == (strOfNums l1).toList)
set_option maxHeartbeats 8000000 in
set_option maxRecDepth 100000 in
theorem bytes_Equal.calls (A0 : Option Addr) (c0 : Nat) (l0 : List Int) (A1 : Option Addr) (c1 : Nat) (l1 : List Int) (r : Bool) (w : World) (hr0 : Kd.C (Kd.int .u8) w A0 l0.length l0) (hc0 : l0.length ≤ c0) (hr1 : Kd.C (Kd.int .u8) w A1 l1.length l1) (hc1 : l1.length ≤ c1) (h : bytes_Equal.f l0 l1 = some r) :
    Calls Tryd.prog 18 #[.slice A0 l0.length c0, .slice A1 l1.length c1] w fun e w' => e = .returned (.bool r) ∧ Drawn0 w w' := by
  have HR0 := Aside0.mk hr0
  have HC0 := Aside0.mk hc0
  clear hr0 hc0
  have HR1 := Aside0.mk hr1
  have HC1 := Aside0.mk hc1
  clear hr1 hc1
  have H : (some ((strOfNums l0).toList == (strOfNums l1).toList)) = some r := h
  clear h
  obtain rfl := Option.some.inj H
  have hcv3 := Kd.C_string (P := Tryd.prog) (A := A0) (c := c0) Tryd.underlying23 Tryd.underlying5 Tryd.underlying9 HR0.out
  have hcv4 := Kd.C_string (P := Tryd.prog) (A := A1) (c := c1) Tryd.underlying23 Tryd.underlying5 Tryd.underlying9 HR1.out
  go_enter Tryd.func18, Tryd.ntmps18
  go_wp2
  go_ret
  exact ⟨by first | rfl | (simp; done) | (simp [*]; done), by repeat (first | exact Drawn0.refl _ | apply Drawn0.step)⟩

/-! ### known_Merge: function 8 -/
/-- The blocks from i on, d of them, in which two drives differ. -/
def clashL (DA DB : List Int) : Nat → Nat → List Int
  | 0, _ => []
  | d + 1, i => if kblk DA i = kblk DB i then clashL DA DB d (i + 1) else (i : Int) :: clashL DA DB d (i + 1)
theorem known_Merge.keep {g : Nat} {p q : Value} {W w' : World} (z0 : W.cell? ⟨g, 0, none⟩ = some p) (z1 : W.cell? ⟨g, 1, none⟩ = some q) (h : Below W.heap.size W w') :
    w'.cell? ⟨g, 0, none⟩ = some p ∧ w'.cell? ⟨g, 1, none⟩ = some q ∧ Below W.heap.size W w' :=
  ⟨(h.cell (World.block_lt_of_cell? W _ z0)).trans z0, (h.cell (World.block_lt_of_cell? W _ z1)).trans z1, h⟩
/-- A row of ints stays where only a block of another type is written. -/
theorem R_beside {W W1 : World} {base g e : Nat} {ok : Nat → Prop} {xs : List Int} {k : IntKind} {v : Value} {cs : Array Value} {t : TypeId} (h : (Kd.int k).R e W base ok v xs) (hb : W.heap[g]? = some (.cells cs t (0, 0))) (ht : t ≠ e) (hs : ∀ i, i ≠ g → W1.heap[i]? = W.heap[i]?) : (Kd.int k).R e W1 base ok v xs := by
  refine Kd.R_mono (Kd.R_step (Kd.R_bound h) (fun i hi hl => hs i ?_)) (fun i hi => hi.1)
  rintro rfl
  obtain ⟨_, _, _, q, hq, cells, hc⟩ := hi
  rw [hb] at hc
  injection hc with hc
  injection hc with _ hc
  have hq' : q = e := by
    rcases List.mem_cons.1 hq with h | h
    · exact h
    · cases h
  exact ht (hc.trans hq')
theorem keep2 {p q : Addr} {a b : Value} {W w' : World} (z0 : W.cell? p = some a) (z1 : W.cell? q = some b) (h : Below W.heap.size W w') : w'.cell? p = some a ∧ w'.cell? q = some b ∧ Below W.heap.size W w' :=
  ⟨(h.cell (World.block_lt_of_cell? W _ z0)).trans z0, (h.cell (World.block_lt_of_cell? W _ z1)).trans z1, h⟩
theorem keep5 {p0 p1 p2 p3 p4 : Addr} {a0 a1 a2 a3 a4 : Value} {W w' : World} (z0 : W.cell? p0 = some a0) (z1 : W.cell? p1 = some a1) (z2 : W.cell? p2 = some a2) (z3 : W.cell? p3 = some a3) (z4 : W.cell? p4 = some a4) (h : Below W.heap.size W w') : w'.cell? p0 = some a0 ∧ w'.cell? p1 = some a1 ∧ w'.cell? p2 = some a2 ∧ w'.cell? p3 = some a3 ∧ w'.cell? p4 = some a4 ∧ Below W.heap.size W w' :=
  ⟨(h.cell (World.block_lt_of_cell? W _ z0)).trans z0, (h.cell (World.block_lt_of_cell? W _ z1)).trans z1, (h.cell (World.block_lt_of_cell? W _ z2)).trans z2, (h.cell (World.block_lt_of_cell? W _ z3)).trans z3, (h.cell (World.block_lt_of_cell? W _ z4)).trans z4, h⟩
theorem held_step {w w1 w2 : World} (h : Below w.heap.size w w1) (hb : Below w1.heap.size w1 w2) : Below w.heap.size w w2 := below_step h hb
theorem put2 {W : World} {g : Nat} {t : TypeId} {a b : Value} (h : W.heap[g]? = some (.cells #[a, b] t (0, 0))) (a' b' : Value) :
    ((W.setCell ⟨g, 0, none⟩ a').setCell ⟨g, 1, none⟩ b').heap[g]? = some (.cells #[a', b'] t (0, 0)) ∧
    (∀ k, k ≠ g → ((W.setCell ⟨g, 0, none⟩ a').setCell ⟨g, 1, none⟩ b').heap[k]? = W.heap[k]?) ∧
    (∀ (m : Nat) (w : World), Below m w W → m ≤ g → Below m w ((W.setCell ⟨g, 0, none⟩ a').setCell ⟨g, 1, none⟩ b')) :=
  ⟨blk_put (blk_put h 0 _ rfl) 1 _ rfl, fun k hk => (Below.heap_setCell _ ⟨g, 1, none⟩ _ k hk).trans (Below.heap_setCell _ ⟨g, 0, none⟩ _ k hk), fun m w hb hg => Below.setCell (Below.setCell hb (p := ⟨g, 0, none⟩) hg _) (p := ⟨g, 1, none⟩) hg _⟩
set_option maxHeartbeats 4000000 in
set_option maxRecDepth 100000 in
/-- known.Merge of two maps whose blocks are all good. -/
theorem known_Merge.calls {b1 b2 : Nat} {ok1 ok2 : Nat → Prop} (bA cA bB cB n : Nat) (SA SB : List Int) (A1 : Option Addr) (c1 : Nat) (DA : List Int) (A2 : Option Addr) (c2 : Nat) (DB : List Int) (w : World)
    (hr1 : (Kd.int .i64).R 3 w b1 ok1 (.slice (some ⟨bA, 0, none⟩) n cA) SA) (hr2 : (Kd.int .i64).R 3 w b2 ok2 (.slice (some ⟨bB, 0, none⟩) n cB) SB) (hd1 : Kd.C (Kd.int .u8) w A1 DA.length DA) (hc1 : DA.length ≤ c1) (hd2 : Kd.C (Kd.int .u8) w A2 DB.length DB) (hc2 : DB.length ≤ c2)
    (hn0 : 1 ≤ n) (hn : n ≤ 1024) (hS1 : ∀ x < n, rdOf 0 SA ((x : Nat) : Int) = 1) (hS2 : ∀ x < n, rdOf 0 SB ((x : Nat) : Int) = 1) (hl1 : DA.length = 64 * n) (hl2 : DB.length = 64 * n)
    (hE : ∀ x < n, bytes_Equal.f (kblk DA x) (kblk DB x) = some (decide (kblk DA x = kblk DB x))) (hrk : known_rank.f 1 = some 3) :
    Calls Tryd.prog 8 #[.agg #[.slice (some ⟨bA, 0, none⟩) n cA, .slice A1 DA.length c1], .agg #[.slice (some ⟨bB, 0, none⟩) n cB, .slice A2 DB.length c2]] w fun e w' => ∃ vS vD vC : Value, e = .returned (.tuple #[.agg #[vS, vD], vC, .int .i64 0]) ∧ (∃ A m c, vS = Value.slice A m c) ∧ Kd.R (Kd.int .u8) 5 w' w.heap.size (fun _ => True) vD DA ∧ Kd.R (Kd.int .i64) 3 w' w.heap.size (fun _ => True) vC (clashL DA DB n 0) ∧ Below w.heap.size w w' := by
  have hsl1 : SA.length = n := (Kd.R_reads' hr1).1.symm
  have HCS := Aside0.mk (show slices_Clone_int_int.f SA = some SA from by unfold slices_Clone_int_int.f; rw [if_pos (by omega)])
  have HCD := Aside0.mk (show slices_Clone_byte_byte.f DA = some DA from by unfold slices_Clone_byte_byte.f; rw [if_pos (by omega)])
  have HR1 := Aside0.mk hr1
  have HR2 := Aside0.mk hr2
  have HD1 := Aside0.mk hd1
  have HD2 := Aside0.mk hd2
  have HC1 := Aside0.mk hc1
  have HC2 := Aside0.mk hc2
  have HS1 := Aside0.mk hS1
  have HS2 := Aside0.mk hS2
  have HL1 := Aside0.mk hl1
  have HL2 := Aside0.mk hl2
  have HE := Aside0.mk hE
  have HRK := Aside0.mk hrk
  have HSL := Aside0.mk hsl1
  have hu30 := Tryd.underlying30
  clear hr1 hr2 hd1 hd2 hc1 hc2 hS1 hS2 hl1 hl2 hE hrk hsl1
  go_enter Tryd.func8, Tryd.ntmps8
  go_upto_block 0 with (first | ((with_reducible refine gate_dst (N := 2) rfl ?_); refine box_event ?hg (N := 2) ?hd (cs := #[.slice (some ⟨bA, 0, none⟩) n cA, .slice A1 DA.length c1]) (t := 30) ?hr ?_; (case hd => rfl); (case hg => rfl); (case hr => first | (go_simp; done) | (go_simp; rfl)); intro g2 hg W1 hbox hb; have BK2 := Aside0.mk hbox; have HB1 := Aside0.mk hb; clear hb hbox hg) | ((with_reducible refine gate_dst (N := 3) rfl ?_); refine box_event ?hg (N := 3) ?hd (cs := #[.slice (some ⟨bB, 0, none⟩) n cB, .slice A2 DB.length c2]) (t := 30) ?hr ?_; (case hd => rfl); (case hg => rfl); (case hr => first | (go_simp; done) | (go_simp; rfl)); intro g3 hg W2 hbox hb; have BK3 := Aside0.mk hbox; have BK2b := Aside0.mk (blk_below BK2.out hb); have HB2 := Aside0.mk (below_step HB1.out hb); clear hb hbox hg) | ((with_reducible refine gate_dst (N := 4) rfl ?_); refine box_event ?hg (N := 4) ?hd (cs := #[.slice none 0 0, .slice none 0 0]) (t := 30) ?hr ?_; (case hd => rfl); (case hg => rfl); (case hr => first | (go_simp; done) | (go_simp; rfl)); intro g4 hg W3 hbox hb; have GE4 := Aside0.mk (by rw [hg]; exact HB2.out.size : w.heap.size ≤ g4); have BK4 := Aside0.mk hbox; have BK2c := Aside0.mk (blk_below BK2b.out hb); have BK3c := Aside0.mk (blk_below BK3.out hb); have HB3 := Aside0.mk (below_step HB2.out hb); clear hb hbox hg; have x0 : W3.cell? ⟨g2, 0, none⟩ = some (.slice (some ⟨bA, 0, none⟩) n cA) := (blk_cell BK2c.out 0).trans rfl; have x1 : W3.cell? ⟨g2, 1, none⟩ = some (.slice A1 DA.length c1) := (blk_cell BK2c.out 1).trans rfl; have x2 : W3.cell? ⟨g3, 0, none⟩ = some (.slice (some ⟨bB, 0, none⟩) n cB) := (blk_cell BK3c.out 0).trans rfl; have x3 : W3.cell? ⟨g3, 1, none⟩ = some (.slice A2 DB.length c2) := (blk_cell BK3c.out 1).trans rfl))
  -- GENERATED BEHIND HERE BY mergegen.py
  have hbn := blk_new W3 (.cells #[.slice (some ⟨bA, 0, none⟩) n cA, .slice A1 DA.length c1, .slice (some ⟨bB, 0, none⟩) n cB, .slice A2 DB.length c2] 30 (0, 0))
  have hba : Below W3.heap.size W3 (W3.alloc (.cells #[.slice (some ⟨bA, 0, none⟩) n cA, .slice A1 DA.length c1, .slice (some ⟨bB, 0, none⟩) n cB, .slice A2 DB.length c2] 30)) := below_alloc (Below.refl _ _) _
  generalize hgl : W3.heap.size = gl at hbn ⊢
  rw [hgl] at hba
  generalize W3.alloc (.cells #[.slice (some ⟨bA, 0, none⟩) n cA, .slice A1 DA.length c1, .slice (some ⟨bB, 0, none⟩) n cB, .slice A2 DB.length c2] 30) = W4 at hbn hba ⊢
  have hba' : Below W3.heap.size W3 W4 := by rw [hgl]; exact hba
  have BKL := Aside0.mk hbn
  have HB4 := Aside0.mk (below_step HB3.out hba')
  have BK24 := Aside0.mk (blk_below BK2c.out hba')
  have BK34 := Aside0.mk (blk_below BK3c.out hba')
  have BK44 := Aside0.mk (blk_below BK4.out hba')
  clear hbn hba hba' x0 x1 x2 x3 BK2 BK2b BK2c BK3 BK3c BK4 HB1 HB2 HB3 hgl
  have HLW : Aside0 (∀ w', Below W4.heap.size W4 w' → (w'.cell? ⟨g2, 0, none⟩ = some (.slice (some ⟨bA, 0, none⟩) n cA) ∧ w'.cell? ⟨g2, 1, none⟩ = some (.slice A1 DA.length c1) ∧ w'.cell? ⟨g3, 0, none⟩ = some (.slice (some ⟨bB, 0, none⟩) n cB) ∧ w'.cell? ⟨g3, 1, none⟩ = some (.slice A2 DB.length c2)) ∧ (w'.cell? ⟨gl, 0, none⟩ = some (.slice (some ⟨bA, 0, none⟩) n cA) ∧ w'.cell? ⟨gl, 1, none⟩ = some (.slice A1 DA.length c1) ∧ w'.cell? ⟨gl, 2, none⟩ = some (.slice (some ⟨bB, 0, none⟩) n cB) ∧ w'.cell? ⟨gl, 3, none⟩ = some (.slice A2 DB.length c2)) ∧
      (Kd.int .i64).R 3 w' b1 ok1 (.slice (some ⟨bA, 0, none⟩) n cA) SA ∧ (Kd.int .i64).R 3 w' b2 ok2 (.slice (some ⟨bB, 0, none⟩) n cB) SB ∧ Kd.C (Kd.int .u8) w' A1 DA.length DA ∧ Kd.C (Kd.int .u8) w' A2 DB.length DB) := ⟨fun w' hb =>
    ⟨⟨(blk_cell (blk_below BK24.out hb) 0).trans rfl, (blk_cell (blk_below BK24.out hb) 1).trans rfl, (blk_cell (blk_below BK34.out hb) 0).trans rfl, (blk_cell (blk_below BK34.out hb) 1).trans rfl⟩, ⟨(blk_cell (blk_below BKL.out hb) 0).trans rfl, (blk_cell (blk_below BKL.out hb) 1).trans rfl, (blk_cell (blk_below BKL.out hb) 2).trans rfl, (blk_cell (blk_below BKL.out hb) 3).trans rfl⟩,
     Kd.R_below HR1.out (below_step HB4.out hb), Kd.R_below HR2.out (below_step HB4.out hb), Kd.C_below HD1.out (below_step HB4.out hb), Kd.C_below HD2.out (below_step HB4.out hb)⟩⟩
  go_cut [4] (fun p wx => p = .pointer (some ⟨g4, 0, none⟩) ∧ Aside0 (Below W4.heap.size W4 wx))
  case first =>
    go_wp2_with fail
    go_loopw [18] (fun i wr => ∃ (x : Nat), x ≤ 2 ∧ i = .int .i64 x ∧ Aside0 (Below W4.heap.size W4 wr)) (fun i _ => 2 - (intOf i).toNat)
    case atStart => exact ⟨0, by omega, rfl, ⟨Below.refl _ _⟩⟩
    case round =>
      obtain ⟨x, h1, rfl, HBr⟩ := hrel
      have h3 : x = 0 ∨ x = 1 ∨ x = 2 := by omega
      obtain ⟨-, ⟨z0, z1, z2, z3⟩, -⟩ := HLW.out wr HBr.out
      rcases h3 with rfl | rfl | rfl
      · go_upto_region 4 with ((with_reducible refine gate_dst (N := 8) rfl ?_); refine box_event ?hg (N := 8) ?hd (cs := #[.slice none 0 0, .slice none 0 0]) (t := 30) ?hr ?_; (case hd => rfl); (case hg => rfl); (case hr => first | (go_simp; done) | (go_simp; rfl)); intro g8 hg w5 hbox hb; have GE8 := Aside0.mk (by rw [hg]; exact Nat.le_refl _ : wr.heap.size ≤ g8); have BK8 := Aside0.mk hbox; have HT5 := Aside0.mk hb; clear hb hbox hg; have u0 : w5.cell? ⟨g8, 0, none⟩ = some (.slice none 0 0) := (blk_cell BK8.out 0).trans rfl; have u1 : w5.cell? ⟨g8, 1, none⟩ = some (.slice none 0 0) := (blk_cell BK8.out 1).trans rfl; have f0 := blk_frozen BK8.out 0; have f1 := blk_frozen BK8.out 1)
        obtain ⟨y1, y2, y3⟩ := put2 BK8.out (.slice (some ⟨bA, 0, none⟩) n cA) (.slice A1 DA.length c1)
        have ht := y3 _ _ HT5.out GE8.out
        clear u0 u1 f0 f1 y2 y3 z0 z1 z2 z3
        generalize (w5.setCell ⟨g8, 0, none⟩ (.slice (some ⟨bA, 0, none⟩) n cA)).setCell ⟨g8, 1, none⟩ (.slice A1 DA.length c1) = W6 at y1 ht ⊢
        have HS6 := Aside0.mk (below_step HBr.out ht)
        have v0 : W6.cell? ⟨g8, 0, none⟩ = some (.slice (some ⟨bA, 0, none⟩) n cA) := (blk_cell y1 0).trans rfl
        have v1 : W6.cell? ⟨g8, 1, none⟩ = some (.slice A1 DA.length c1) := (blk_cell y1 1).trans rfl
        obtain ⟨-, -, r1, r2, -⟩ := HLW.out W6 HS6.out
        have RR := Aside0.mk r1
        clear y1 ht r1 r2 BK8
        go_wp2_with (go_at_call 14; refine (known_Check.calls bA cA n SA A1 c1 _ _ RR.out hn HS1.out HL1.out).mono ?_; rintro e w7 ⟨rfl, hb⟩; have HS7 := Aside0.mk (below_step HS6.out hb); clear hb)
        go_roundw
        case rel => exact ⟨1, by omega, by first | rfl | go_num, HS7⟩
        case measure => first | (simp [intOf]; done) | (simp [intOf]; omega)
      · go_upto_region 4 with ((with_reducible refine gate_dst (N := 8) rfl ?_); refine box_event ?hg (N := 8) ?hd (cs := #[.slice none 0 0, .slice none 0 0]) (t := 30) ?hr ?_; (case hd => rfl); (case hg => rfl); (case hr => first | (go_simp; done) | (go_simp; rfl)); intro g8 hg w5 hbox hb; have GE8 := Aside0.mk (by rw [hg]; exact Nat.le_refl _ : wr.heap.size ≤ g8); have BK8 := Aside0.mk hbox; have HT5 := Aside0.mk hb; clear hb hbox hg; have u0 : w5.cell? ⟨g8, 0, none⟩ = some (.slice none 0 0) := (blk_cell BK8.out 0).trans rfl; have u1 : w5.cell? ⟨g8, 1, none⟩ = some (.slice none 0 0) := (blk_cell BK8.out 1).trans rfl; have f0 := blk_frozen BK8.out 0; have f1 := blk_frozen BK8.out 1)
        obtain ⟨y1, y2, y3⟩ := put2 BK8.out (.slice (some ⟨bB, 0, none⟩) n cB) (.slice A2 DB.length c2)
        have ht := y3 _ _ HT5.out GE8.out
        clear u0 u1 f0 f1 y2 y3 z0 z1 z2 z3
        generalize (w5.setCell ⟨g8, 0, none⟩ (.slice (some ⟨bB, 0, none⟩) n cB)).setCell ⟨g8, 1, none⟩ (.slice A2 DB.length c2) = W6 at y1 ht ⊢
        have HS6 := Aside0.mk (below_step HBr.out ht)
        have v0 : W6.cell? ⟨g8, 0, none⟩ = some (.slice (some ⟨bB, 0, none⟩) n cB) := (blk_cell y1 0).trans rfl
        have v1 : W6.cell? ⟨g8, 1, none⟩ = some (.slice A2 DB.length c2) := (blk_cell y1 1).trans rfl
        obtain ⟨-, -, r1, r2, -⟩ := HLW.out W6 HS6.out
        have RR := Aside0.mk r2
        clear y1 ht r1 r2 BK8
        go_wp2_with (go_at_call 14; refine (known_Check.calls bB cB n SB A2 c2 _ _ RR.out hn HS2.out HL2.out).mono ?_; rintro e w7 ⟨rfl, hb⟩; have HS7 := Aside0.mk (below_step HS6.out hb); clear hb)
        go_roundw
        case rel => exact ⟨2, by omega, by first | rfl | go_num, HS7⟩
        case measure => first | (simp [intOf]; done) | (simp [intOf]; omega)
      · go_wp2
        go_meet
        case rel => exact ⟨rfl, HBr⟩
  case rest =>
    obtain ⟨rfl, HB5⟩ := hcut
    obtain ⟨⟨x0, x1, x2, x3⟩, -, -, -, hcd, -⟩ := HLW.out wc HB5.out
    obtain ⟨-, -, rr1, -⟩ := HLW.out wc HB5.out
    have HCA := Aside0.mk (Kd.R_reads' rr1).2
    have HCB := Aside0.mk hcd
    have HCI : Aside0 (∀ W, Below wc.heap.size wc W → Calls Tryd.prog 15 #[.slice (some ⟨bA, 0, none⟩) n cA] W fun e w' => ∃ v0_ : Value, e = .returned (v0_) ∧ Kd.R (Kd.int .i64) 3 w' W.heap.size (fun _ => True) v0_ SA ∧ Below W.heap.size W w') := ⟨fun W hb => by
      have h := slices_Clone_int_int.calls (some ⟨bA, 0, none⟩) cA SA SA W (Kd.C_below HCA.out.2 hb) (by rw [HSL.out]; exact HCA.out.1) HCS.out
      rw [HSL.out] at h
      exact h⟩
    clear hcd rr1
    go_upto_region 10 with (fail)
    clear x2 x3
    go_cut [4, 10] (fun p4 p wx => p4 = .pointer (some ⟨g4, 0, none⟩) ∧ ∃ g vS vD, p = .pointer (some ⟨g, 0, none⟩) ∧ Aside0 (wx.heap[g]? = some (.cells #[vS, vD] 30 (0, 0))) ∧ Aside0 ((Kd.int .i64).R 3 wx W4.heap.size (fun _ => True) vS SA) ∧ Aside0 (Kd.R (Kd.int .u8) 5 wx W4.heap.size (fun _ => True) vD DA) ∧ Aside0 (Below W4.heap.size W4 wx))
    case first =>
      go_region_held3 (fun w' => w'.cell? ⟨g2, 0, none⟩ = some (.slice (some ⟨bA, 0, none⟩) n cA) ∧ w'.cell? ⟨g2, 1, none⟩ = some (.slice A1 DA.length c1) ∧ Below wc.heap.size wc w') (first | exact known_Merge.keep x0 x1 (below_drew1 (Below.refl _ _)) | exact known_Merge.keep x0 x1 (by (repeat (first | assumption | exact Below.refl _ _ | apply below_drew1 | apply below_alloc | (refine Below.setCell ?_ (by first | exact hb8'.size | exact hb7.size | exact Nat.le_refl _) _))))) (first | (go_at_call 15; refine (HCI.out _ (by (repeat (first | assumption | exact Below.refl _ _ | apply below_drew1 | apply below_alloc | (refine Below.setCell ?_ (by first | exact hb8'.size | exact hb7.size | exact Nat.le_refl _) _))))).mono ?_; rintro e w7 ⟨v7, rfl, hR, hb⟩; obtain ⟨AS, cS, eS⟩ := Kd.R_slice hR; subst eS; (try (have bkn := blk_below (show (wc.alloc (.cells #[.slice none 0 0, .slice none 0 0] 30 (0, 0))).drew.heap[wc.heap.size]? = some (.cells #[.slice none 0 0, .slice none 0 0] 30 (0, 0)) from blk_new wc (.cells #[.slice none 0 0, .slice none 0 0] 30 (0, 0))) hb; have n0 := (blk_cell bkn 0).trans rfl; have n1 := (blk_cell bkn 1).trans rfl; have m0 := blk_frozen bkn 0; have m1 := blk_frozen bkn 1)); have hb7 : Below wc.heap.size wc w7 := held_step (by (repeat (first | assumption | exact Below.refl _ _ | apply below_drew1 | apply below_alloc | (refine Below.setCell ?_ (by first | exact hb8'.size | exact hb7.size | exact Nat.le_refl _) _)))) hb) | (go_at_call 6; refine (slices_Clone_byte_byte.calls A1 c1 DA DA _ (Kd.C_below HCB.out (by (repeat (first | assumption | exact Below.refl _ _ | apply below_drew1 | apply below_alloc | (refine Below.setCell ?_ (by first | exact hb8'.size | exact hb7.size | exact Nat.le_refl _) _))))) HC1.out HCD.out).mono ?_; rintro e w8 ⟨v8, rfl, hR8, hb8⟩; obtain ⟨AD, cD, eD⟩ := Kd.R_slice hR8; subst eD; (first | (have bkm := blk_below bkn hb8; have n0 := (blk_cell bkm 0).trans rfl; have n1 := (blk_cell bkm 1).trans rfl; have m0 := blk_frozen bkm 0; have m1 := blk_frozen bkm 1) | (have bkm := blk_below (blk_new _ (.cells #[.slice none 0 0, .slice none 0 0] 30 (0, 0))) hb8; have n0 := (blk_cell bkm 0).trans rfl; have n1 := (blk_cell bkm 1).trans rfl; have m0 := blk_frozen bkm 0; have m1 := blk_frozen bkm 1) | skip); have h78 : Below w7.heap.size w7 w8 := held_step (by repeat (first | exact Below.refl _ _ | apply below_alloc)) hb8; have hb8' : Below wc.heap.size wc w8 := held_step (by (repeat (first | assumption | exact Below.refl _ _ | apply below_drew1 | apply below_alloc | (refine Below.setCell ?_ (by first | exact hb8'.size | exact hb7.size | exact Nat.le_refl _) _)))) hb8))
      all_goals
        go_wp2_with fail
        go_meet
        case rel =>
          have hsz := HB5.out.size
          have hs7 := hb7.size
          have rS := Kd.R_lower (Kd.R_below hR h78) (show W4.heap.size ≤ _ by first | exact hsz | (simp; omega) | omega)
          have rD := Kd.R_lower hR8 (show W4.heap.size ≤ _ by first | omega | (simp; omega))
          first
          | (obtain ⟨p1, p2, p3⟩ := put2 bkm (.slice AS SA.length cS) (.slice AD DA.length cD)
             exact ⟨rfl, _, .slice AS SA.length cS, .slice AD DA.length cD, rfl, ⟨p1⟩, ⟨R_beside rS bkm (by decide) p2⟩, ⟨R_beside rD bkm (by decide) p2⟩, ⟨below_step HB5.out (p3 _ _ hb8' (by first | exact Nat.le_refl _ | exact hs7))⟩⟩)
          | exact ⟨rfl, _, .slice AS SA.length cS, .slice AD DA.length cD, rfl, ⟨blk_new w8 (.cells #[.slice AS SA.length cS, .slice AD DA.length cD] 30 (0, 0))⟩, ⟨Kd.R_below rS (below_alloc (Below.refl _ _) _)⟩, ⟨Kd.R_below rD (below_alloc (Below.refl _ _) _)⟩, ⟨below_step HB5.out (below_alloc hb8' _)⟩⟩
    case rest =>
      obtain ⟨rfl, g, vS, vD, rfl, BKM, HRS, HRD, HB6⟩ := hcut
      clear x0 x1 HCA HCB HCI
      obtain ⟨CL, hCL0⟩ : ∃ c, clashL DA DB n 0 = c := ⟨_, rfl⟩
      have HCL0 := Aside0.mk hCL0
      clear hCL0
      obtain ⟨⟨-, -, x2, -⟩, -⟩ := HLW.out wc HB6.out
      go_upto_region 13 with (fail)
      clear x2
      go_loopw [47, 11] (fun i v wr => ∃ (x : Nat) (acc : List Int), x ≤ n ∧ i = .int .i64 x ∧ acc.length ≤ x ∧ Aside0 ((Kd.int .i64).R 3 wr wc.heap.size (fun _ => True) v acc) ∧ Aside0 (acc ++ clashL DA DB (n - x) x = CL) ∧ Aside0 (Below wc.heap.size wc wr)) (fun i _ _ => n - (intOf i).toNat)
      case atStart => exact ⟨0, [], Nat.zero_le _, rfl, Nat.le_refl _, ⟨Kd.R_nil _ _ _ _ _⟩, HCL0, ⟨Below.refl _ _⟩⟩
      case round =>
        obtain ⟨x, acc, h1, rfl, hal, HAC, HCL, HBr⟩ := hrel
        have HBw := Aside0.mk (below_step HB6.out HBr.out)
        by_cases hlt : x < n
        · obtain ⟨⟨y0, y1, y2, y3⟩, -, rr1, rr2, -⟩ := HLW.out wr HBw.out
          obtain ⟨z1, -⟩ := Kd.R_celln 0 rr1 (x : Int) (by omega) (by omega)
          obtain ⟨z2, -⟩ := Kd.R_celln 0 rr2 (x : Int) (by omega) (by omega)
          rw [Int.toNat_natCast, HS1.out x hlt] at z1
          rw [Int.toNat_natCast, HS2.out x hlt] at z2
          have HCDr := Aside0.mk (fun w' (hb : Below wr.heap.size wr w') => (HLW.out w' (below_step HBw.out hb)).2.2.2.2)
          have HEx := Aside0.mk (HE.out x hlt)
          have hcl := HCL.out
          obtain ⟨d, hd⟩ : ∃ d, n - x = d + 1 := ⟨n - x - 1, by omega⟩
          have hd1 : n - (x + 1) = d := by omega
          rw [hd] at hcl
          unfold clashL at hcl
          have hx1 : x ≤ 1024 := by omega
          clear rr1 rr2 hd
          go_upto_region 15 with (fail)
          clear z2
          go_region_held3 (fun w' => w'.cell? ⟨g2, 0, none⟩ = some (.slice (some ⟨bA, 0, none⟩) n cA) ∧ w'.cell? ⟨bA, x, none⟩ = some (.int .i64 1) ∧ Below wr.heap.size wr w') (first | exact keep2 y0 z1 (below_drew1 (Below.refl _ _)) | exact keep2 y0 z1 (by assumption)) (first | (go_at_call 16; refine (known_rank.calls 1 3 _ HRK.out).mono ?_; rintro e w7 ⟨rfl, hb⟩; have hb7 : Below wr.heap.size wr w7 := held_step (by first | assumption | exact below_drew1 (Below.refl _ _)) hb))
          have HB7 := Aside0.mk hb7
          have v0 : w7.cell? ⟨g2, 0, none⟩ = some (.slice (some ⟨bA, 0, none⟩) n cA) := (hb7.cell (World.block_lt_of_cell? wr _ y0)).trans y0
          have v1 : w7.cell? ⟨g2, 1, none⟩ = some (.slice A1 DA.length c1) := (hb7.cell (World.block_lt_of_cell? wr _ y1)).trans y1
          have v2 : w7.cell? ⟨g3, 0, none⟩ = some (.slice (some ⟨bB, 0, none⟩) n cB) := (hb7.cell (World.block_lt_of_cell? wr _ y2)).trans y2
          have v3 : w7.cell? ⟨g3, 1, none⟩ = some (.slice A2 DB.length c2) := (hb7.cell (World.block_lt_of_cell? wr _ y3)).trans y3
          have v4 : w7.cell? ⟨bA, x, none⟩ = some (.int .i64 1) := (hb7.cell (World.block_lt_of_cell? wr _ z1)).trans z1
          have KB1 := Aside0.mk (fun W => known_block.calls n cA (some ⟨bA, 0, none⟩) A1 c1 DA x W HC1.out (by have := HL1.out; omega) (by have := HL1.out; omega))
          have KB2 := Aside0.mk (fun W => known_block.calls n cB (some ⟨bB, 0, none⟩) A2 c2 DB x W HC2.out (by have := HL2.out; omega) (by have := HL2.out; omega))
          obtain ⟨QA, hQA⟩ : ∃ q, kblk DA x = q := ⟨_, rfl⟩
          obtain ⟨QB, hQB⟩ : ∃ q, kblk DB x = q := ⟨_, rfl⟩
          rw [hQA] at KB1
          rw [hQB] at KB2
          rw [hQA, hQB] at HEx hcl
          have HQ := Aside0.mk (And.intro hQA hQB)
          clear hQA hQB y0 y1 y2 y3 z1 hb7
          go_upto_region 18 with (fail)
          by_cases hd : QA = QB
          · rw [if_pos hd] at hcl
            rw [decide_eq_true hd] at HEx
            have HCL2 := Aside0.mk hcl
            clear hcl hd
            go_region_held3 (fun w' => w'.cell? ⟨g2, 0, none⟩ = some (.slice (some ⟨bA, 0, none⟩) n cA) ∧ w'.cell? ⟨g2, 1, none⟩ = some (.slice A1 DA.length c1) ∧ w'.cell? ⟨g3, 0, none⟩ = some (.slice (some ⟨bB, 0, none⟩) n cB) ∧ w'.cell? ⟨g3, 1, none⟩ = some (.slice A2 DB.length c2) ∧ w'.cell? ⟨bA, x, none⟩ = some (.int .i64 1) ∧ Below w7.heap.size w7 w') (first | exact keep5 v0 v1 v2 v3 v4 (below_drew1 (Below.refl _ _)) | exact keep5 v0 v1 v2 v3 v4 (by assumption)) (first | (go_at_call 17; first | (with_reducible refine (KB1.out _).mono ?_; rintro e w8 ⟨A5, c5, rfl, hC5, hl5, hb⟩; have hb8 : Below w7.heap.size w7 w8 := held_step (by first | assumption | exact below_drew1 (Below.refl _ _)) hb) | (with_reducible refine (KB2.out _).mono ?_; rintro e w9 ⟨A6, c6, rfl, hC6, hl6, hb⟩; have hb9 : Below w7.heap.size w7 w9 := held_step (by first | assumption | exact below_drew1 (Below.refl _ _)) hb)) | (go_at_call 18; refine (bytes_Equal.calls A5 c5 QA A6 c6 QB _ _ (hC5 _ (HCDr.out _ (held_step HB7.out hb9)).1) hl5 (hC6 _ (HCDr.out _ (held_step HB7.out hb9)).2) hl6 HEx.out).mono ?_; rintro e w10 ⟨rfl, nd, rfl⟩; have hb10 : Below w7.heap.size w7 (w9.drewN nd) := pw_below_drewN hb9 nd))
            go_wp2
            go_roundw
            case rel => exact ⟨x + 1, acc, by omega, by go_num, by omega, ⟨Kd.R_below HAC.out (below_step HB7.out hb10)⟩, ⟨by rw [hd1]; exact HCL2.out⟩, ⟨below_step HBr.out (below_step HB7.out hb10)⟩⟩
            case measure => simp [intOf]; omega
          · rw [if_neg hd] at hcl
            rw [decide_eq_false hd] at HEx
            have HCL2 := Aside0.mk hcl
            clear hcl hd
            go_region_held3 (fun w' => w'.cell? ⟨g2, 0, none⟩ = some (.slice (some ⟨bA, 0, none⟩) n cA) ∧ w'.cell? ⟨g2, 1, none⟩ = some (.slice A1 DA.length c1) ∧ w'.cell? ⟨g3, 0, none⟩ = some (.slice (some ⟨bB, 0, none⟩) n cB) ∧ w'.cell? ⟨g3, 1, none⟩ = some (.slice A2 DB.length c2) ∧ w'.cell? ⟨bA, x, none⟩ = some (.int .i64 1) ∧ Below w7.heap.size w7 w') (first | exact keep5 v0 v1 v2 v3 v4 (below_drew1 (Below.refl _ _)) | exact keep5 v0 v1 v2 v3 v4 (by assumption)) (first | (go_at_call 17; first | (with_reducible refine (KB1.out _).mono ?_; rintro e w8 ⟨A5, c5, rfl, hC5, hl5, hb⟩; have hb8 : Below w7.heap.size w7 w8 := held_step (by first | assumption | exact below_drew1 (Below.refl _ _)) hb) | (with_reducible refine (KB2.out _).mono ?_; rintro e w9 ⟨A6, c6, rfl, hC6, hl6, hb⟩; have hb9 : Below w7.heap.size w7 w9 := held_step (by first | assumption | exact below_drew1 (Below.refl _ _)) hb)) | (go_at_call 18; refine (bytes_Equal.calls A5 c5 QA A6 c6 QB _ _ (hC5 _ (HCDr.out _ (held_step HB7.out hb9)).1) hl5 (hC6 _ (HCDr.out _ (held_step HB7.out hb9)).2) hl6 HEx.out).mono ?_; rintro e w10 ⟨rfl, nd, rfl⟩; have hb10 : Below w7.heap.size w7 (w9.drewN nd) := pw_below_drewN hb9 nd))
            have RA := Aside0.mk (Kd.R_below HAC.out (below_step HB7.out hb10))
            have HBX := Aside0.mk (below_step HBr.out (below_step HB7.out hb10))
            have szX : wc.heap.size ≤ (w9.drewN nd).heap.size := HBX.out.size
            clear hb10
            go_upto_region 20 with ((with_reducible refine gate_builtin (b := .append) (xs := #[.tmp 93, .tmp 95]) rfl ?_); at_builtin; refine Kd.R_append (Kd.int .i64) (w0 := w9.drewN nd) wc.heap.size rfl (.tmp 93) (.tmp 95) 22 3 (.int .i64 0) 8 rfl Tryd.underlying22 info3 rfl (by decide) (by omega) _ acc (x : Int) [.int .i64 x] (fun _ => True) (fun _ => False) rfl (by first | (go_simp; done) | (go_simp; rfl)) ?aP (fun _ hk => hk.elim) ?aF ?aO ?aB ?aS ?aL ?_; (case aP => exact rfl); (case aB => exact Below.refl _ _); (case aF => exact fun k hk => trivial); (case aO => exact RA.out); (case aS => exact szX); (case aL => omega); intro v11 w11 ho hb hg hat; have RO := Aside0.mk ho; have HBY := Aside0.mk (HBX.out.trans hb); clear ho hb hg hat)
            go_wp2
            go_roundw
            case rel => exact ⟨x + 1, acc ++ [(x : Int)], by omega, by go_num, by simp; omega, RO, ⟨by rw [hd1, List.append_assoc]; exact HCL2.out⟩, HBY⟩
            case measure => simp [intOf]; omega
        · have ex : x = n := by omega
          subst ex
          have hcl := HCL.out
          rw [Nat.sub_self] at hcl
          unfold clashL at hcl
          rw [List.append_nil] at hcl
          subst hcl
          obtain ⟨AS, cS, eS⟩ := Kd.R_slice HRS.out
          obtain ⟨AD, cD, eD⟩ := Kd.R_slice HRD.out
          subst eS eD
          obtain ⟨AC, cC, eC⟩ := Kd.R_slice HAC.out
          subst eC
          have BKR := Aside0.mk (blk_below BKM.out HBr.out)
          have BK4R := Aside0.mk (blk_below BK44.out HBw.out)
          have y0 : wr.cell? ⟨g, 0, none⟩ = some (.slice AS SA.length cS) := (blk_cell BKR.out 0).trans rfl
          have y1 : wr.cell? ⟨g, 1, none⟩ = some (.slice AD DA.length cD) := (blk_cell BKR.out 1).trans rfl
          have u0 : wr.cell? ⟨g4, 0, none⟩ = some (.slice none 0 0) := (blk_cell BK4R.out 0).trans rfl
          have u1 : wr.cell? ⟨g4, 1, none⟩ = some (.slice none 0 0) := (blk_cell BK4R.out 1).trans rfl
          have f0 := blk_frozen BK4R.out 0
          have f1 := blk_frozen BK4R.out 1
          go_wp2
          obtain ⟨p1, p2, p3⟩ := put2 BK4R.out (.slice AS SA.length cS) (.slice AD DA.length cD)
          have rC := R_beside HAC.out BK4R.out (by decide) p2
          have rD := R_beside (Kd.R_below HRD.out HBr.out) BK4R.out (by decide) p2
          have hF := p3 _ _ (below_step HB4.out HBw.out) GE4.out
          have hs4 := HB4.out.size
          have hsc := HB6.out.size
          clear y0 y1 u0 u1 f0 f1
          generalize (wr.setCell ⟨g4, 0, none⟩ (.slice AS SA.length cS)).setCell ⟨g4, 1, none⟩ (.slice AD DA.length cD) = WF at p1 p2 p3 rC rD hF ⊢
          have v0 : WF.cell? ⟨g4, 0, none⟩ = some (.slice AS SA.length cS) := (blk_cell p1 0).trans rfl
          have v1 : WF.cell? ⟨g4, 1, none⟩ = some (.slice AD DA.length cD) := (blk_cell p1 1).trans rfl
          rw [HCL0.out]
          exact bodyPost_ret (v := .tuple #[.agg #[.slice AS SA.length cS, .slice AD DA.length cD], .slice AC acc.length cC, .int .i64 0]) (by simp [results, Tryd.results8, go_sem, v0, v1]) rfl ⟨_, _, _, rfl, ⟨_, _, _, rfl⟩, Kd.R_lower rD hs4, Kd.R_lower rC (Nat.le_trans hs4 hsc), hF⟩

/-! ### known_words: function 25 -/
def known_words.f  : Option (List ByteArray) := some (([(⟨#[117, 110, 116, 114, 105, 101, 100]⟩ : ByteArray), (⟨#[103, 111, 111, 100]⟩ : ByteArray), (⟨#[102, 97, 105, 108, 101, 100]⟩ : ByteArray), (⟨#[115, 107, 105, 112, 112, 101, 100]⟩ : ByteArray)] : List ByteArray))
set_option maxHeartbeats 8000000 in
set_option maxRecDepth 100000 in
theorem known_words.calls  (r : List ByteArray) (w : World) (h : known_words.f  = some r) :
    Calls Tryd.prog 25 #[] w fun e w' => ∃ v0_ : Value, e = .returned (v0_) ∧ Kd.R Kd.string 9 w' w.heap.size (fun _ => True) v0_ r ∧ Below w.heap.size w w' := by
  have HB := Aside0.mk (Below.refl w.heap.size w)
  have H : (some (([(⟨#[117, 110, 116, 114, 105, 101, 100]⟩ : ByteArray), (⟨#[103, 111, 111, 100]⟩ : ByteArray), (⟨#[102, 97, 105, 108, 101, 100]⟩ : ByteArray), (⟨#[115, 107, 105, 112, 112, 101, 100]⟩ : ByteArray)] : List ByteArray))) = some r := h
  clear h
  obtain ⟨y137, hy137⟩ : ∃ y_ : List ByteArray, y_ = (([(⟨#[117, 110, 116, 114, 105, 101, 100]⟩ : ByteArray), (⟨#[103, 111, 111, 100]⟩ : ByteArray), (⟨#[102, 97, 105, 108, 101, 100]⟩ : ByteArray), (⟨#[115, 107, 105, 112, 112, 101, 100]⟩ : ByteArray)] : List ByteArray)) := ⟨_, rfl⟩
  replace H : (some y137) = some r := by first | (rw [hy137]; with_reducible exact H) | (have H2_ := (Option.bind_some _ _).symm.trans H; rw [hy137]; with_reducible exact H2_) | (have H2_ := (Option.bind_some _ _).symm.trans H; with_reducible exact H2_) | with_reducible exact H | (rw [hy137]; exact H) | exact H
  have Ny137 := Aside0.mk hy137
  clear hy137
  obtain rfl := Option.some.inj H
  go_enter Tryd.func25, Tryd.ntmps25
  go_wp2_with (first | ((with_reducible refine gate_dst (N := 1) rfl ?_); refine Kd.R_lit Kd.string _ 9 ?hg (N := 1) ?hd (xs := ([(⟨#[117, 110, 116, 114, 105, 101, 100]⟩ : ByteArray), (⟨#[103, 111, 111, 100]⟩ : ByteArray), (⟨#[102, 97, 105, 108, 101, 100]⟩ : ByteArray), (⟨#[115, 107, 105, 112, 112, 101, 100]⟩ : ByteArray)] : List ByteArray)) (inner := [.string (⟨#[117, 110, 116, 114, 105, 101, 100]⟩ : ByteArray), .string (⟨#[103, 111, 111, 100]⟩ : ByteArray), .string (⟨#[102, 97, 105, 108, 101, 100]⟩ : ByteArray), .string (⟨#[115, 107, 105, 112, 112, 101, 100]⟩ : ByteArray)]) (ok := fun _ => True) (okp := fun _ => True) ?hr ?hp (fun _ hk => hk) trivial (Below.refl _ _) (Nat.le_refl _) (by simp) ?_; (case hd => rfl); (case hg => rfl); (case hr => first | (go_simp; done) | (go_simp; rfl)); (case hp => exact (Reps.one (show Kd.M Kd.string _ _ _ (⟨#[117, 110, 116, 114, 105, 101, 100]⟩ : ByteArray) [.string (⟨#[117, 110, 116, 114, 105, 101, 100]⟩ : ByteArray)] from rfl) (Reps.one (show Kd.M Kd.string _ _ _ (⟨#[103, 111, 111, 100]⟩ : ByteArray) [.string (⟨#[103, 111, 111, 100]⟩ : ByteArray)] from rfl) (Reps.one (show Kd.M Kd.string _ _ _ (⟨#[102, 97, 105, 108, 101, 100]⟩ : ByteArray) [.string (⟨#[102, 97, 105, 108, 101, 100]⟩ : ByteArray)] from rfl) (Reps.one (show Kd.M Kd.string _ _ _ (⟨#[115, 107, 105, 112, 112, 101, 100]⟩ : ByteArray) [.string (⟨#[115, 107, 105, 112, 112, 101, 100]⟩ : ByteArray)] from rfl) (Reps.none _ _)))))); intro v138 w1 ho2 hb hg_ hnew_; clear hg_ hnew_; (first | rw [← Ny137.out] at ho2 | (simp only [Int.reduceToNat] at ho2; rw [← Ny137.out] at ho2)); have n0_ := Aside0.mk (Kd.R_lower ho2 (below_size (by repeat (first | (with_reducible first | exact HB.out | apply below_alloc | apply pw_below_drewN | apply below_drew1) | exact HB.out)))); have n1_ := Aside0.mk (below_step (by repeat (first | (with_reducible first | exact HB.out | apply below_alloc | apply pw_below_drewN | apply below_drew1) | exact HB.out)) hb); clear HB; have HO139 := n0_; have HB := n1_; clear n0_ n1_; clear hb ho2))
  go_ret
  exact ⟨_, by first | rfl | (simp [errW_none, errW_some] <;> rfl) | (simp [*, errW_none, errW_some] <;> rfl), by (with_reducible repeat (first | apply Kd.R_alloc | apply Kd.R_drewN | apply Kd.R_drew)); exact HO139.out, by repeat (first | (with_reducible first | exact HB.out | apply below_alloc | apply pw_below_drewN | apply below_drew1) | exact HB.out)⟩

/-! ### strconv_small: function 44 -/
def strconv_small.f (a0 : Int) : Option (ByteArray) := if a0 < 10 then (if 0 ≤ a0 then (if a0 ≤ (wrap64 (a0 + 1)) then (if (wrap64 (a0 + 1)) ≤ 36 then (some ((⟨#[48, 49, 50, 51, 52, 53, 54, 55, 56, 57, 97, 98, 99, 100, 101, 102, 103, 104, 105, 106, 107, 108, 109, 110, 111, 112, 113, 114, 115, 116, 117, 118, 119, 120, 121, 122]⟩ : ByteArray).extract (a0 : Int).toNat ((wrap64 (a0 + 1)) : Int).toNat)) else (none)) else (none)) else (none)) else (if 0 ≤ (wrap64 (a0 * 2)) then (if (wrap64 (a0 * 2)) ≤ (wrap64 ((wrap64 (a0 * 2)) + 2)) then (if (wrap64 ((wrap64 (a0 * 2)) + 2)) ≤ 200 then (some ((⟨#[48, 48, 48, 49, 48, 50, 48, 51, 48, 52, 48, 53, 48, 54, 48, 55, 48, 56, 48, 57, 49, 48, 49, 49, 49, 50, 49, 51, 49, 52, 49, 53, 49, 54, 49, 55, 49, 56, 49, 57, 50, 48, 50, 49, 50, 50, 50, 51, 50, 52, 50, 53, 50, 54, 50, 55, 50, 56, 50, 57, 51, 48, 51, 49, 51, 50, 51, 51, 51, 52, 51, 53, 51, 54, 51, 55, 51, 56, 51, 57, 52, 48, 52, 49, 52, 50, 52, 51, 52, 52, 52, 53, 52, 54, 52, 55, 52, 56, 52, 57, 53, 48, 53, 49, 53, 50, 53, 51, 53, 52, 53, 53, 53, 54, 53, 55, 53, 56, 53, 57, 54, 48, 54, 49, 54, 50, 54, 51, 54, 52, 54, 53, 54, 54, 54, 55, 54, 56, 54, 57, 55, 48, 55, 49, 55, 50, 55, 51, 55, 52, 55, 53, 55, 54, 55, 55, 55, 56, 55, 57, 56, 48, 56, 49, 56, 50, 56, 51, 56, 52, 56, 53, 56, 54, 56, 55, 56, 56, 56, 57, 57, 48, 57, 49, 57, 50, 57, 51, 57, 52, 57, 53, 57, 54, 57, 55, 57, 56, 57, 57]⟩ : ByteArray).extract ((wrap64 (a0 * 2)) : Int).toNat ((wrap64 ((wrap64 (a0 * 2)) + 2)) : Int).toNat)) else (none)) else (none)) else (none))
set_option maxHeartbeats 8000000 in
set_option maxRecDepth 100000 in
theorem strconv_small.calls (a0 : Int) (r : ByteArray) (w : World) (h : strconv_small.f a0 = some r) :
    Calls Tryd.prog 44 #[.int .i64 a0] w fun e w' => e = .returned (.string r) ∧ Drawn0 w w' := by
  have H : (if a0 < 10 then (if 0 ≤ a0 then (if a0 ≤ (wrap64 (a0 + 1)) then (if (wrap64 (a0 + 1)) ≤ 36 then (some ((⟨#[48, 49, 50, 51, 52, 53, 54, 55, 56, 57, 97, 98, 99, 100, 101, 102, 103, 104, 105, 106, 107, 108, 109, 110, 111, 112, 113, 114, 115, 116, 117, 118, 119, 120, 121, 122]⟩ : ByteArray).extract (a0 : Int).toNat ((wrap64 (a0 + 1)) : Int).toNat)) else (none)) else (none)) else (none)) else (if 0 ≤ (wrap64 (a0 * 2)) then (if (wrap64 (a0 * 2)) ≤ (wrap64 ((wrap64 (a0 * 2)) + 2)) then (if (wrap64 ((wrap64 (a0 * 2)) + 2)) ≤ 200 then (some ((⟨#[48, 48, 48, 49, 48, 50, 48, 51, 48, 52, 48, 53, 48, 54, 48, 55, 48, 56, 48, 57, 49, 48, 49, 49, 49, 50, 49, 51, 49, 52, 49, 53, 49, 54, 49, 55, 49, 56, 49, 57, 50, 48, 50, 49, 50, 50, 50, 51, 50, 52, 50, 53, 50, 54, 50, 55, 50, 56, 50, 57, 51, 48, 51, 49, 51, 50, 51, 51, 51, 52, 51, 53, 51, 54, 51, 55, 51, 56, 51, 57, 52, 48, 52, 49, 52, 50, 52, 51, 52, 52, 52, 53, 52, 54, 52, 55, 52, 56, 52, 57, 53, 48, 53, 49, 53, 50, 53, 51, 53, 52, 53, 53, 53, 54, 53, 55, 53, 56, 53, 57, 54, 48, 54, 49, 54, 50, 54, 51, 54, 52, 54, 53, 54, 54, 54, 55, 54, 56, 54, 57, 55, 48, 55, 49, 55, 50, 55, 51, 55, 52, 55, 53, 55, 54, 55, 55, 55, 56, 55, 57, 56, 48, 56, 49, 56, 50, 56, 51, 56, 52, 56, 53, 56, 54, 56, 55, 56, 56, 56, 57, 57, 48, 57, 49, 57, 50, 57, 51, 57, 52, 57, 53, 57, 54, 57, 55, 57, 56, 57, 57]⟩ : ByteArray).extract ((wrap64 (a0 * 2)) : Int).toNat ((wrap64 ((wrap64 (a0 * 2)) + 2)) : Int).toNat)) else (none)) else (none)) else (none))) = some r := h
  clear h
  by_cases c2 : a0 < 10
  · rw [if_pos c2] at H
    have c2b0 : decide (a0 < 10) = true := decide_eq_true c2
    clear c2
    by_cases c3 : 0 ≤ a0
    · rw [if_pos c3] at H
      have c3b0 := eq_true c3
      have c3b1 : decide (0 ≤ a0) = true := decide_eq_true c3
      clear c3
      by_cases c4 : a0 ≤ (wrap64 (a0 + 1))
      · rw [if_pos c4] at H
        have c4b0 := eq_true c4
        have c4b1 : decide (a0 ≤ (wrap64 (a0 + 1))) = true := decide_eq_true c4
        by_cases c5 : (wrap64 (a0 + 1)) ≤ 36
        · rw [if_pos c5] at H
          have c5b0 := eq_true c5
          have c5b1 : decide ((wrap64 (a0 + 1)) ≤ 36) = true := decide_eq_true c5
          obtain rfl := Option.some.inj H
          go_enter Tryd.func44, Tryd.ntmps44
          go_wp2
          go_ret
          exact ⟨by first | rfl | (simp; done) | (simp [*]; done), by repeat (first | exact Drawn0.refl _ | apply Drawn0.step)⟩
        · rw [if_neg c5] at H
          exact absurd H (by simp)
      · rw [if_neg c4] at H
        exact absurd H (by simp)
    · rw [if_neg c3] at H
      exact absurd H (by simp)
  · rw [if_neg c2] at H
    have c2b0 : decide (a0 < 10) = false := decide_eq_false c2
    clear c2
    obtain ⟨ji6, hji6⟩ : ∃ j_ : Int, (wrap64 (a0 * 2)) = j_ := ⟨_, rfl⟩
    replace H : (if 0 ≤ (ji6) then (if (ji6) ≤ (wrap64 ((ji6) + 2)) then (if (wrap64 ((ji6) + 2)) ≤ 200 then (some ((⟨#[48, 48, 48, 49, 48, 50, 48, 51, 48, 52, 48, 53, 48, 54, 48, 55, 48, 56, 48, 57, 49, 48, 49, 49, 49, 50, 49, 51, 49, 52, 49, 53, 49, 54, 49, 55, 49, 56, 49, 57, 50, 48, 50, 49, 50, 50, 50, 51, 50, 52, 50, 53, 50, 54, 50, 55, 50, 56, 50, 57, 51, 48, 51, 49, 51, 50, 51, 51, 51, 52, 51, 53, 51, 54, 51, 55, 51, 56, 51, 57, 52, 48, 52, 49, 52, 50, 52, 51, 52, 52, 52, 53, 52, 54, 52, 55, 52, 56, 52, 57, 53, 48, 53, 49, 53, 50, 53, 51, 53, 52, 53, 53, 53, 54, 53, 55, 53, 56, 53, 57, 54, 48, 54, 49, 54, 50, 54, 51, 54, 52, 54, 53, 54, 54, 54, 55, 54, 56, 54, 57, 55, 48, 55, 49, 55, 50, 55, 51, 55, 52, 55, 53, 55, 54, 55, 55, 55, 56, 55, 57, 56, 48, 56, 49, 56, 50, 56, 51, 56, 52, 56, 53, 56, 54, 56, 55, 56, 56, 56, 57, 57, 48, 57, 49, 57, 50, 57, 51, 57, 52, 57, 53, 57, 54, 57, 55, 57, 56, 57, 57]⟩ : ByteArray).extract ((ji6) : Int).toNat ((wrap64 ((ji6) + 2)) : Int).toNat)) else (none)) else (none)) else (none)) = some r := by first | (rw [hji6] at H; exact H) | (simp only [hji6] at H ⊢; exact H)
    have hji6w : (IntKind.i64.wrap (a0 * 2)) = ji6 := (i64_w _).trans hji6
    by_cases c7 : 0 ≤ (ji6)
    · rw [if_pos c7] at H
      have c7b0 := eq_true c7
      have c7b1 : decide (0 ≤ (ji6)) = true := decide_eq_true c7
      clear c7
      by_cases c8 : (ji6) ≤ (wrap64 ((ji6) + 2))
      · rw [if_pos c8] at H
        have c8b0 := eq_true c8
        have c8b1 : decide ((ji6) ≤ (wrap64 ((ji6) + 2))) = true := decide_eq_true c8
        by_cases c9 : (wrap64 ((ji6) + 2)) ≤ 200
        · rw [if_pos c9] at H
          have c9b0 := eq_true c9
          have c9b1 : decide ((wrap64 ((ji6) + 2)) ≤ 200) = true := decide_eq_true c9
          obtain rfl := Option.some.inj H
          go_enter Tryd.func44, Tryd.ntmps44
          go_wp2
          go_ret
          exact ⟨by first | rfl | (simp; done) | (simp only [← hji6] <;> (first | rfl | simp)) | (simp [*]; done), by repeat (first | exact Drawn0.refl _ | apply Drawn0.step)⟩
        · rw [if_neg c9] at H
          exact absurd H (by simp)
      · rw [if_neg c8] at H
        exact absurd H (by simp)
    · rw [if_neg c7] at H
      exact absurd H (by simp)

end Go.Proofs.YtcnabemeadnecaaDoor.PKnownClashes
