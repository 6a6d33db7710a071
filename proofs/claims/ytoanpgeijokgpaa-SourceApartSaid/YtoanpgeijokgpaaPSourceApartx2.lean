-- written by prn.py, a program of this session, over the kit's printer
import Derived.Test.YtoanpgeijokgpaaPSourceApartx0
namespace Go.Proofs.Ytoanpgeijokgpaa.PSourceApart
open Go.RowKit Go.Proofs.YtoanpgeijokgpaaW.PrintWords Go.Proofs.YtoanpgeijokgpaaW.PrintLast Go.Proofs.YtoanpgeijokgpaaW.PrintMore Go.Proofs.YtoanpgeijokgpaaW.PrintMine
attribute [local go_sem] max2_int min2_int max_two min_two max_three min_three max_four min_four   -- for this text's walks alone
set_option linter.unusedVariables false
set_option linter.unusedSimpArgs false

/-! ### span_end: function 25 -/
def span_end.f (a0_0 : Int) (a0_1 : Int) : Option (Int) := some (wrap64 (a0_0 + a0_1))
set_option maxHeartbeats 8000000 in
set_option maxRecDepth 100000 in
theorem span_end.calls (a0_0 : Int) (a0_1 : Int) (r : Int) (w : World) (h : span_end.f a0_0 a0_1 = some r) :
    Calls Try.prog 25 #[.agg #[.int .i64 a0_0, .int .i64 a0_1]] w fun e w' => e = .returned (.int .i64 r) ∧ Below w.heap.size w w' := by
  have hu53 := Try.underlying53
  have HB := Aside0.mk (Below.refl w.heap.size w)
  have H : (some (wrap64 (a0_0 + a0_1))) = some r := h
  clear h
  obtain rfl := Option.some.inj H
  go_enter Try.func25, Try.ntmps25
  go_wp2_with (first | ((with_reducible refine gate_dst (N := 1) rfl ?_); refine box_event ?hg (N := 1) ?hd (cs := #[.int .i64 a0_0, .int .i64 a0_1]) (t := 53) ?hr ?_; (case hd => rfl); (case hg => rfl); (case hr => first | (go_simp; done) | (go_simp; rfl)); intro gb143 hg w2 hbox hb; have n0_ := Aside0.mk (below_step (by repeat (first | (with_reducible first | exact HB.out | apply below_alloc | apply pw_below_drewN | apply below_drew1) | exact HB.out)) hb); have n1_ := Aside0.mk (hbox); have n2_ := Aside0.mk ((by rw [hg]; exact (below_size (by repeat (first | (with_reducible first | exact HB.out | apply below_alloc | apply pw_below_drewN | apply below_drew1) | exact HB.out))) : w.heap.size ≤ gb143)); have n3_ := Aside0.mk ((by rw [hg]; exact (below_size (by repeat (first | (with_reducible first | exact HB.out | apply below_alloc | apply pw_below_drewN | apply below_drew1) | exact HB.out))) : w.heap.size ≤ gb143)); clear HB; have HB := n0_; have BK143 := n1_; have GW143 := n2_; have GE143 := n3_; clear n0_ n1_ n2_ n3_; clear hb hbox hg; have hcz3_0 : w2.cell? ⟨gb143, 0, none⟩ = some (.int .i64 a0_0) := (blk_cell BK143.out 0).trans rfl; have hcz3_1 : w2.cell? ⟨gb143, 1, none⟩ = some (.int .i64 a0_1) := (blk_cell BK143.out 1).trans rfl; have hfz3_0 := blk_frozen BK143.out 0; have hfz3_1 := blk_frozen BK143.out 1))
  go_ret
  exact ⟨by first | rfl | (simp [errW_none, errW_some] <;> rfl) | (simp [*, errW_none, errW_some] <;> rfl), by repeat (first | (with_reducible first | exact HB.out | apply below_alloc | apply pw_below_drewN | apply below_drew1 | refine below_set ?_ GE143.out) | exact HB.out)⟩

/-! ### api_Span: function 29 -/
def api_Span.ren : Go.Shelf.Ren := ⟨fun | 6 => 29 | 15 => 33 | 14 => 32 | 28 => 42 | 29 => 43 | 20 => 34 | 21 => 35 | 22 => 36 | 23 => 37 | 24 => 38 | 25 => 39 | 26 => 40 | 27 => 41 | 46 => 44 | 47 => 45 | 48 => 46 | 49 => 47 | 50 => 48 | 57 => 49 | n => n, fun | 22 => 25 | 24 => 53 | 25 => 67 | 3 => 3 | 39 => 71 | 0 => 0 | 53 => 81 | 55 => 83 | 4 => 4 | 46 => 74 | 45 => 73 | 50 => 78 | 5 => 5 | 9 => 9 | 66 => 84 | 70 => 88 | 76 => 90 | 77 => 91 | n => n, fun n => n⟩
theorem api_Span.lay : Go.Proofs.SlLaysF0.n6 Try.prog api_Span.ren := { mixed := by kernel_rfl, f6 := ⟨Try.f29.name, by decide, Try.func29.trans (congrArg some (by kernel_rfl))⟩, f14 := ⟨Try.f32.name, by decide, Try.func32.trans (congrArg some (by kernel_rfl))⟩, f15 := Try.func33.trans (congrArg some (by kernel_rfl)), f20 := ⟨Try.f34.name, by decide, Try.func34.trans (congrArg some (by kernel_rfl))⟩, f21 := ⟨Try.f35.name, by decide, Try.func35.trans (congrArg some (by kernel_rfl))⟩, f22 := ⟨Try.f36.name, by decide, Try.func36.trans (congrArg some (by kernel_rfl))⟩, f23 := ⟨Try.f37.name, by decide, Try.func37.trans (congrArg some (by kernel_rfl))⟩, f24 := ⟨Try.f38.name, by decide, Try.func38.trans (congrArg some (by kernel_rfl))⟩, f25 := ⟨Try.f39.name, by decide, Try.func39.trans (congrArg some (by kernel_rfl))⟩, f26 := ⟨Try.f40.name, by decide, Try.func40.trans (congrArg some (by kernel_rfl))⟩, f27 := ⟨Try.f41.name, by decide, Try.func41.trans (congrArg some (by kernel_rfl))⟩, f28 := Try.func42.trans (congrArg some (by kernel_rfl)), f29 := Try.func43.trans (congrArg some (by kernel_rfl)), f46 := ⟨Try.f44.name, by decide, Try.func44.trans (congrArg some (by kernel_rfl))⟩, f47 := Try.func45.trans (congrArg some (by kernel_rfl)), f48 := Try.func46.trans (congrArg some (by kernel_rfl)), f49 := ⟨Try.f47.name, by decide, Try.func47.trans (congrArg some (by kernel_rfl))⟩, f50 := ⟨Try.f48.name, by decide, Try.func48.trans (congrArg some (by kernel_rfl))⟩, f57 := ⟨Try.f49.name, by decide, Try.func49.trans (congrArg some (by kernel_rfl))⟩, t0 := Try.underlying0, a0 := Try.isAgg0, z0 := Try.sizeOf0, v0 := Try.zeroValue0, t3 := Try.underlying3, a3 := Try.isAgg3, z3 := Try.sizeOf3, v3 := Try.zeroValue3, t4 := Try.underlying4, a4 := Try.isAgg4, z4 := Try.sizeOf4, v4 := Try.zeroValue4, t5 := Try.underlying5, a5 := Try.isAgg5, z5 := Try.sizeOf5, v5 := Try.zeroValue5, t9 := Try.underlying9, a9 := Try.isAgg9, z9 := Try.sizeOf9, v9 := Try.zeroValue9, t22 := Try.underlying25, a22 := Try.isAgg25, z22 := Try.sizeOf25, v22 := Try.zeroValue25, t25 := Try.underlying67, a25 := Try.isAgg67, z25 := Try.sizeOf67, v25 := Try.zeroValue67, t39 := Try.underlying71, a39 := Try.isAgg71, z39 := Try.sizeOf71, v39 := Try.zeroValue71, t45 := Try.underlying73, a45 := Try.isAgg73, z45 := Try.sizeOf73, v45 := Try.zeroValue73, t46 := Try.underlying74, a46 := Try.isAgg74, z46 := Try.sizeOf74, v46 := Try.zeroValue74, t50 := Try.underlying78, a50 := Try.isAgg78, z50 := Try.sizeOf78, v50 := Try.zeroValue78, t53 := Try.underlying81, a53 := Try.isAgg81, z53 := Try.sizeOf81, v53 := Try.zeroValue81, t55 := Try.underlying83, a55 := Try.isAgg83, z55 := Try.sizeOf83, v55 := Try.zeroValue83, t66 := Try.underlying84, a66 := Try.isAgg84, z66 := Try.sizeOf84, v66 := Try.zeroValue84, t70 := Try.underlying88, a70 := Try.isAgg88, z70 := Try.sizeOf88, v70 := Try.zeroValue88, t76 := Try.underlying90, a76 := Try.isAgg90, z76 := Try.sizeOf90, v76 := Try.zeroValue90, t77 := Try.underlying91, a77 := Try.isAgg91, z77 := Try.sizeOf91, v77 := Try.zeroValue91 }
/-- Does a span begin within an image? -/
def api_Span.ok (s : S53) : Bool := decide (0 ≤ s.f0) && decide (s.f0 ≤ 65536)
abbrev api_Span.T := { s : S53 // api_Span.ok s = true }
instance api_Span.inh : Inhabited api_Span.T := ⟨⟨⟨0, 0⟩, rfl⟩⟩
def api_Span.enc (s : S53) : List Value := [.int .i64 s.f0, .int .i64 s.f1]
def api_Span.encT (s : api_Span.T) : List Value := api_Span.enc s.1
def api_Span.cf (x y : api_Span.T) : Int := x.1.f0 - y.1.f0
def api_Span.D (l : List S53) : Array api_Span.T := (l.filterMap fun s => if h : api_Span.ok s = true then some ⟨s, h⟩ else none).toArray
/-- The spans in order of where they begin, as Go's library sorts them. -/
def api_Span.srt (l : List S53) : List S53 := (Go.Sort.pdq (Go.Proofs.ltOf api_Span.cf) (api_Span.D l) 0 (api_Span.D l).size (Go.Lib.bitLen (api_Span.D l).size) true true).toList.map (·.1)
def api_Span.f (l0 : List S53) (a1 : Nat) : Option (List S53) := if a1 = 30 then (if l0.all api_Span.ok = true then (if l0.length < 4611686018427387904 then (some (api_Span.srt l0)) else (none)) else (none)) else (none)
theorem api_Span.ok_iff (s : S53) : api_Span.ok s = true ↔ 0 ≤ s.f0 ∧ s.f0 ≤ 65536 := by unfold api_Span.ok; rw [Bool.and_eq_true, decide_eq_true_iff, decide_eq_true_iff]
theorem api_Span.D_list : ∀ l : List S53, l.all api_Span.ok = true → (api_Span.D l).toList.map (·.1) = l := by
  intro l
  unfold api_Span.D
  simp only
  induction l with
  | nil => intro _; rfl
  | cons s t ih =>
    intro h
    rw [List.all_cons, Bool.and_eq_true] at h
    rw [List.filterMap_cons]
    simp only [dif_pos h.1]
    rw [List.map_cons, ih h.2]
theorem api_Span.swo : Go.Sort.SWO (Go.Proofs.ltOf api_Span.cf) where
  irrefl x := by unfold Go.Proofs.ltOf api_Span.cf; simp
  trans x y z h1 h2 := by unfold Go.Proofs.ltOf api_Span.cf at *; simp at *; omega
  ntrans x y z h1 h2 := by unfold Go.Proofs.ltOf api_Span.cf at *; simp at *; omega
set_option maxHeartbeats 2000000 in
theorem api_Span.closure (x y : api_Span.T) (W : World) : Calls Try.prog 30 #[.agg #[.int .i64 x.1.f0, .int .i64 x.1.f1], .agg #[.int .i64 y.1.f0, .int .i64 y.1.f1]] W fun e w' => e = .returned (.int .i64 (api_Span.cf x y)) ∧ ∃ q os', w' = Go.Sort.grow (W.drewN q) os' := by
  obtain ⟨⟨x0, x1⟩, hx⟩ := x
  obtain ⟨⟨y0, y1⟩, hy⟩ := y
  have hx' := (api_Span.ok_iff _).1 hx
  have hy' := (api_Span.ok_iff _).1 hy
  show Calls Try.prog 30 #[.agg #[.int .i64 x0, .int .i64 x1], .agg #[.int .i64 y0, .int .i64 y1]] W fun e w' => e = .returned (.int .i64 (x0 - y0)) ∧ _
  obtain ⟨h1, h2⟩ : 0 ≤ x0 ∧ x0 ≤ 65536 := hx'
  obtain ⟨h3, h4⟩ : 0 ≤ y0 ∧ y0 ≤ 65536 := hy'
  clear hx hy
  go_enter Try.func30, Try.ntmps30
  go_wp2
  go_ret
  exact ⟨rfl, 0, _, by rw [Go.Sort.alloc_eq_grow, Go.Sort.alloc_eq_grow, Go.Sort.grow_grow]; rfl⟩
theorem api_Span.srt_sorts (l : List S53) (hl : l.all api_Span.ok = true) : (api_Span.srt l).Perm l ∧ (api_Span.srt l).Pairwise (fun x y => x.f0 ≤ y.f0) := by
  obtain ⟨⟨hs, _, hp⟩, hS⟩ := Go.Sort.pdq_sorts (Go.Proofs.ltOf api_Span.cf) api_Span.swo (api_Span.D l) 0 (api_Span.D l).size (Go.Lib.bitLen (api_Span.D l).size) true true (Nat.zero_le _) (Nat.le_refl _) (Or.inl rfl)
  unfold api_Span.srt
  generalize Go.Sort.pdq (Go.Proofs.ltOf api_Span.cf) (api_Span.D l) 0 (api_Span.D l).size (Go.Lib.bitLen (api_Span.D l).size) true true = d' at hs hp hS
  rw [Array.extract_size, ← hs, Array.extract_size] at hp
  refine ⟨?_, ?_⟩
  · have := hp.map (·.1)
    rwa [api_Span.D_list l hl] at this
  · rw [List.pairwise_map, List.pairwise_iff_getElem]
    intro i j hi hj hij
    have hi' : i < d'.size := by simpa using hi
    have hj' : j < d'.size := by simpa using hj
    have := hS i j (Nat.zero_le _) hij (by rw [← hs]; exact hj')
    unfold Go.Proofs.ltOf api_Span.cf at this
    simp [hi', hj'] at this
    simpa using this
theorem api_Span.srt_map (l : List S53) (hl : l.all api_Span.ok = true) : (api_Span.srt l).length = l.length := by
  have h := (Go.Sort.pdq_sorts (Go.Proofs.ltOf api_Span.cf) api_Span.swo (api_Span.D l) 0 (api_Span.D l).size (Go.Lib.bitLen (api_Span.D l).size) true true (Nat.zero_le _) (Nat.le_refl _) (Or.inl rfl)).1
  have h2 := congrArg List.length (api_Span.D_list l hl)
  rw [List.length_map] at h2
  unfold api_Span.srt
  rw [List.length_map, ← h2, Array.length_toList, Array.length_toList]
  exact h.1
set_option maxHeartbeats 8000000 in
set_option maxRecDepth 100000 in
theorem api_Span.calls (P0_ : Nat → Prop) (u9000_ : Value) (l0 : List S53) (a1 : Nat) (r : List S53) (w0 w : World) (hB : Below w0.heap.size w0 w) (ho0 : Kd.R k53 53 w w0.heap.size P0_ u9000_ l0) (h : api_Span.f l0 a1 = some r) :
    Calls Try.prog 29 #[u9000_, .func (.func a1) #[] #[]] w fun e w' => e = .returned (.tuple #[]) ∧ Kd.R k53 53 w' w0.heap.size (fun k_ => (P0_ k_ ∨ w.heap.size ≤ k_)) u9000_ r ∧ Below w0.heap.size w0 w' ∧ Kept w w' (fun k_ => P0_ k_) := by
  unfold api_Span.f at h
  by_cases b0 : a1 = 30
  · rw [if_pos b0] at h
    subst b0
    by_cases b1 : l0.all api_Span.ok = true
    · rw [if_pos b1] at h
      by_cases b2 : l0.length < 4611686018427387904
      · rw [if_pos b2] at h
        obtain rfl := Option.some.inj h
        clear h
        obtain ⟨A0, c0, rfl⟩ := Kd.R_slice ho0
        cases A0 with
        | none =>
          obtain rfl := R_noneK ho0
          have hcon := Go.Proofs.AnyF.slices_SortFunc_none api_Span.lay none c0 (.func (.func 30) #[] #[]) w
          change Calls Try.prog 29 _ _ _ at hcon
          refine hcon.mono ?_
          rintro e w' ⟨rfl, rfl⟩
          have e0 : api_Span.srt [] = [] := List.eq_nil_of_length_eq_zero (api_Span.srt_map [] b1)
          rw [e0]
          exact ⟨rfl, Kd.R_mono ho0 (fun k hk => .inl hk), hB, Kept.refl _ _⟩
        | some ad =>
          obtain ⟨g, rfl⟩ := Kd.R_head ho0
          have hDl := api_Span.D_list l0 b1
          have hDs : (api_Span.D l0).size = l0.length := by rw [← Array.length_toList, ← List.length_map (f := (·.1)), hDl]
          have hfm : ∀ l : List api_Span.T, l.flatMap api_Span.encT = (l.map (·.1)).flatMap api_Span.enc := fun l => by rw [List.flatMap_map]; rfl
          have hM : ∀ w b o x cs, (k53).M w b o x cs → cs = api_Span.enc x := fun w b o x cs hm => k53_openM hm
          have hM2 : ∀ w b o x, (k53).M w b o x (api_Span.enc x) := fun w b o x => k53_mkM w b o x
          have hD0 : (api_Span.D l0).toList.flatMap api_Span.encT = l0.flatMap api_Span.enc := by rw [hfm, hDl]
          have hH := R_holdsK hM (fun _ => rfl) (fun _ => rfl) (api_Span.D l0) hD0 ho0
          have eg : ∀ args w, (callFunc 30 args).run Try.prog w = .ok (.enter 30 args) w := Go.Proofs.enters_of Try.func30 (by kernel_rfl) rfl
          have hcon := Go.Proofs.AnyQ.slices_SortFunc_eq api_Span.lay 2 Try.isAgg53 Try.sizeOf53 api_Span.encT (fun _ => rfl) (fun x v hv => by simp [api_Span.encT, api_Span.enc] at hv; rcases hv with rfl | rfl <;> rfl) api_Span.cf api_Span.swo 30 #[] g 0 c0 (api_Span.D l0) w eg (fun _ _ _ _ x y => api_Span.closure x y _) hH (Kd.R_lt ho0 g (by simp [Value.ownBlock])) (by rw [hDs]; exact b2)
          change Calls Try.prog 29 _ _ _ at hcon
          rw [show (api_Span.D l0).size = l0.length from hDs] at hcon
          refine hcon.mono ?_
          rintro e w' ⟨rfl, q, os, hq⟩
          rw [← hDs] at hq
          obtain ⟨h1, h2⟩ := R_layK (ys := api_Span.srt l0) hM hM2 (fun _ => rfl) (fun _ => rfl) (api_Span.D l0) _ hD0 (by rw [hfm]; rfl) (api_Span.srt_map l0 b1) ho0 hq
          have hP : P0_ g := ho0.1 g (by simp [Value.ownBlock])
          refine ⟨rfl, Kd.R_mono h1 (fun k hk => .inl hk), hB.grown h2 (below_size hB) (fun k hk => by injection hk with hk; subst hk; exact Kd.R_base ho0 _ (by simp [Value.ownBlock])), h2.size, fun k hk hs => h2.block k hk (fun he => hs (by injection he with he; subst he; exact hP))⟩
      · rw [if_neg b2] at h
        exact absurd h (by simp)
    · rw [if_neg b1] at h
      exact absurd h (by simp)
  · rw [if_neg b0] at h
    exact absurd h (by simp)

end Go.Proofs.Ytoanpgeijokgpaa.PSourceApart
