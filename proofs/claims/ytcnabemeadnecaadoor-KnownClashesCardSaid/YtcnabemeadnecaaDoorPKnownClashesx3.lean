-- written by prn.py, a program of this session, over the kit's printer
import Derived.Test.YtcnabemeadnecaaDoorPKnownClashesx0
import Derived.Test.YtcnabemeadnecaaDoorPKnownClashesx2
namespace Go.Proofs.YtcnabemeadnecaaDoor.PKnownClashes
open Go.RowKit Go.Proofs.YtcnabemeadnecaaDoorW.PrintWords Go.Proofs.YtcnabemeadnecaaDoorW.PrintLast Go.Proofs.YtcnabemeadnecaaDoorW.PrintMore Go.Proofs.YtcnabemeadnecaaDoorW.PrintMine
attribute [local go_sem] max2_int min2_int max_two min_two max_three min_three max_four min_four   -- for this text's walks alone
set_option linter.unusedVariables false
set_option linter.unusedSimpArgs false

/-! ### known_Text: function 19 -/
theorem fmtI (a : Int) (r : ByteArray) (w : World) (h0 : 0 ≤ a) (h1 : a < 100) (h : strconv_small.f a = some r) : Calls Tryd.prog 41 #[.int .i64 a, .int .i64 10] w fun e w' => e = .returned (.string r) ∧ Drawn0 w w' := by
  have H := Aside0.mk h
  have t0 : decide ((0 : Int) ≤ a) = true := decide_eq_true h0
  have t1 : decide (a < (100 : Int)) = true := decide_eq_true h1
  clear h
  go_enter Tryd.func41, Tryd.ntmps41
  go_wp2_with (go_at_call 44; refine (strconv_small.calls a r _ H.out).mono ?_; rintro e w2 ⟨rfl, nd, rfl⟩)
  go_ret
  exact ⟨rfl, nd, rfl⟩
theorem iItoa (a : Int) (r : ByteArray) (w : World) (h0 : 0 ≤ a) (h1 : a < 100) (h : strconv_small.f a = some r) : Calls Tryd.prog 35 #[.int .i64 a] w fun e w' => e = .returned (.string r) ∧ Drawn0 w w' := by
  have H := Aside0.mk h
  clear h
  go_enter Tryd.func35, Tryd.ntmps35
  go_wp2_with (go_at_call 41; refine (fmtI a r _ h0 h1 H.out).mono ?_; rintro e w2 ⟨rfl, nd, rfl⟩)
  go_ret
  exact ⟨rfl, nd, rfl⟩
theorem itoa (a : Int) (r : ByteArray) (w : World) (h0 : 0 ≤ a) (h1 : a < 100) (h : strconv_small.f a = some r) : Calls Tryd.prog 24 #[.int .i64 a] w fun e w' => e = .returned (.string r) ∧ Drawn0 w w' := by
  have H := Aside0.mk h
  clear h
  go_enter Tryd.func24, Tryd.ntmps24
  go_wp2_with (go_at_call 35; refine (iItoa a r _ h0 h1 H.out).mono ?_; rintro e w2 ⟨rfl, nd, rfl⟩)
  go_ret
  exact ⟨rfl, nd, rfl⟩
/-- strings.Builder's numbers. -/
def bren : Go.Shelf.Ren := ⟨fun | 166 => 23 | 169 => 26 | 240 => 34 | 276 => 40 | n => n, fun | 0 => 0 | 3 => 3 | 4 => 4 | 5 => 5 | 9 => 9 | 20 => 20 | 37 => 23 | 70 => 62 | 72 => 64 | 75 => 66 | 80 => 72 | 127 => 80 | 164 => 85 | n => n, fun n => n⟩
theorem lay166 : Go.Proofs.Lays.n166 Tryd.prog bren := { mixed := by kernel_rfl, f166 := Tryd.func23.trans (congrArg some (by kernel_rfl)), f240 := Tryd.func34.trans (congrArg some (by kernel_rfl)), f276 := Tryd.func40.trans (congrArg some (by kernel_rfl)), t0 := Tryd.underlying0, a0 := Tryd.isAgg0, z0 := Tryd.sizeOf0, v0 := Tryd.zeroValue0, t3 := Tryd.underlying3, a3 := Tryd.isAgg3, z3 := Tryd.sizeOf3, v3 := Tryd.zeroValue3, t4 := Tryd.underlying4, a4 := Tryd.isAgg4, z4 := Tryd.sizeOf4, v4 := Tryd.zeroValue4, t9 := Tryd.underlying9, a9 := Tryd.isAgg9, z9 := Tryd.sizeOf9, v9 := Tryd.zeroValue9, t20 := Tryd.underlying20, a20 := Tryd.isAgg20, z20 := Tryd.sizeOf20, v20 := Tryd.zeroValue20, t37 := Tryd.underlying23, a37 := Tryd.isAgg23, z37 := Tryd.sizeOf23, v37 := Tryd.zeroValue23, t70 := Tryd.underlying62, a70 := Tryd.isAgg62, z70 := Tryd.sizeOf62, v70 := Tryd.zeroValue62, t72 := Tryd.underlying64, a72 := Tryd.isAgg64, z72 := Tryd.sizeOf64, v72 := Tryd.zeroValue64, t75 := Tryd.underlying66, a75 := Tryd.isAgg66, z75 := Tryd.sizeOf66, v75 := Tryd.zeroValue66, t164 := Tryd.underlying85, a164 := Tryd.isAgg85, z164 := Tryd.sizeOf85, v164 := Tryd.zeroValue85 }
theorem lay169 : Go.Proofs.Lays.n169 Tryd.prog bren := { mixed := by kernel_rfl, f169 := Tryd.func26.trans (congrArg some (by kernel_rfl)), t0 := Tryd.underlying0, a0 := Tryd.isAgg0, z0 := Tryd.sizeOf0, v0 := Tryd.zeroValue0, t3 := Tryd.underlying3, a3 := Tryd.isAgg3, z3 := Tryd.sizeOf3, v3 := Tryd.zeroValue3, t9 := Tryd.underlying9, a9 := Tryd.isAgg9, z9 := Tryd.sizeOf9, v9 := Tryd.zeroValue9, t37 := Tryd.underlying23, a37 := Tryd.isAgg23, z37 := Tryd.sizeOf23, v37 := Tryd.zeroValue23, t70 := Tryd.underlying62, a70 := Tryd.isAgg62, z70 := Tryd.sizeOf62, v70 := Tryd.zeroValue62, t72 := Tryd.underlying64, a72 := Tryd.isAgg64, z72 := Tryd.sizeOf64, v72 := Tryd.zeroValue64, t127 := Tryd.underlying80, a127 := Tryd.isAgg80, z127 := Tryd.sizeOf80, v127 := Tryd.zeroValue80 }
theorem layX : Go.Proofs.Builder.Extra Tryd.prog bren := { sizeBuilder := by kernel_rfl, liesBuilder := by kernel_rfl, t5 := Tryd.underlying5, a5 := Tryd.isAgg5, z5 := Tryd.sizeOf5, v5 := Tryd.zeroValue5, infoByte := by kernel_rfl, cellsByte := by kernel_rfl, sizeByte := by kernel_rfl, neB5 := by decide }
theorem wrs (B b : Nat) (bs : List Value) (s : ByteArray) (w : World) (h : Go.Lib.IsBuilder 64 5 B b bs w) (hlen : bs.length + s.size ≤ 140737488355328) (hBw : B ≤ w.heap.size) :
    Calls Tryd.prog 23 #[.pointer (some ⟨b, 0, none⟩), .string s] w fun e w' => e = .returned (.tuple #[.int .i64 s.size, .nilIface]) ∧ (Go.Lib.BuilderAt 64 5 B b (.pointer (some ⟨b, 0, none⟩)) (bs ++ Go.Lib.strCells s) w' ∧ Below B w w') :=
  Any.Builder_WriteString lay166 layX B b bs s w h hlen hBw
theorem bstr (B b : Nat) (l : List UInt8) (w : World) (h : Go.Lib.IsBuilder 64 5 B b (Go.Lib.byteCells l) w) (h0 : l ≠ []) :
    Calls Tryd.prog 26 #[.pointer (some ⟨b, 0, none⟩)] w fun e w' => e = .returned (.string ⟨l.toArray⟩) ∧ Below B w w' :=
  Any.Builder_String lay169 layX B b l w h h0
theorem small0 : strconv_small.f 0 = some ⟨#[48]⟩ := by decide +kernel
theorem small1 : strconv_small.f 1 = some ⟨#[49]⟩ := by decide +kernel
theorem small2 : strconv_small.f 2 = some ⟨#[50]⟩ := by decide +kernel
theorem small3 : strconv_small.f 3 = some ⟨#[51]⟩ := by decide +kernel
def txt0 : ByteArray := ⟨#[98, 108, 111, 99, 107, 115, 32]⟩ ++ ⟨#[51]⟩ ++ ⟨#[10]⟩
def txt1 : ByteArray := ⟨#[48]⟩ ++ ⟨#[32]⟩ ++ ⟨#[50]⟩ ++ ⟨#[32]⟩ ++ ⟨#[103, 111, 111, 100]⟩ ++ ⟨#[10]⟩
def txt2 : ByteArray := ⟨#[50]⟩ ++ ⟨#[32]⟩ ++ ⟨#[49]⟩ ++ ⟨#[32]⟩ ++ ⟨#[102, 97, 105, 108, 101, 100]⟩ ++ ⟨#[10]⟩
theorem strl (s : ByteArray) : (Go.Lib.strCells s).length = s.size := Go.Lib.strCells_length s
theorem bld_below {B b : Nat} {p : Value} {bs : List Value} {w W : World} (h : Go.Lib.BuilderAt 64 5 B b p bs w) (hb : Below w.heap.size w W) : Go.Lib.BuilderAt 64 5 B b p bs W := by
  obtain ⟨h1, v, h2, ⟨h3, h3b⟩, h4⟩ := h
  exact ⟨h1, v, blk_below h2 hb, ⟨h3, h3b.imp id (fun ⟨g, cap, cur, e1, e2, e3, r⟩ => ⟨g, cap, cur, e1, e2, blk_below e3 hb, r⟩)⟩, h4⟩
theorem bld_is {B b : Nat} {bs : List Value} {w : World} (h : Go.Lib.BuilderAt 64 5 B b (.pointer (some ⟨b, 0, none⟩)) bs w) : Go.Lib.IsBuilder 64 5 B b bs w := Or.inr h
set_option maxHeartbeats 4000000 in
set_option maxRecDepth 100000 in
/-- known.Text of two good blocks and a failed one. -/
theorem textC {base : Nat} {ok : Nat → Prop} (gs cS : Nat) (w : World) (hr0 : (Kd.int .i64).R 3 w base ok (.slice (some ⟨gs, 0, none⟩) 3 cS) [1, 1, 2]) :
    Calls Tryd.prog 19 #[.slice (some ⟨gs, 0, none⟩) 3 cS] w fun e w' => e = .returned (.tuple #[.string ⟨#[98, 108, 111, 99, 107, 115, 32, 51, 10, 48, 32, 50, 32, 103, 111, 111, 100, 10, 50, 32, 49, 32, 102, 97, 105, 108, 101, 100, 10]⟩, .int .i64 0]) ∧ Below w.heap.size w w' := by
  have hcells : ∀ w', Below w.heap.size w w' → w'.cell? ⟨gs, 0, none⟩ = some (.int .i64 1) ∧ w'.cell? ⟨gs, 1, none⟩ = some (.int .i64 1) ∧ w'.cell? ⟨gs, 2, none⟩ = some (.int .i64 2) := fun w' hb =>
    ⟨(Kd.R_celln 0 (Kd.R_below hr0 hb) 0 (by omega) (by omega)).1, (Kd.R_celln 0 (Kd.R_below hr0 hb) 1 (by omega) (by omega)).1, (Kd.R_celln 0 (Kd.R_below hr0 hb) 2 (by omega) (by omega)).1⟩
  have HC := Aside0.mk hcells
  clear hcells hr0
  go_enter Tryd.func19, Tryd.ntmps19
  go_upto_region 4 with ((with_reducible refine gate_dst (N := 4) rfl ?_); refine box_event ?hg (N := 4) ?hd (cs := #[.pointer none, .slice none 0 0]) (t := 64) ?hr ?_; (case hd => rfl); (case hg => rfl); (case hr => first | (go_simp; done) | (go_simp; rfl)); intro b hg W1 hbox hb; have GE := Aside0.mk (by rw [hg]; exact Nat.le_refl _ : w.heap.size ≤ b); have BK1 := Aside0.mk hbox; have HB1 := Aside0.mk hb; clear hb hbox hg)
  have B1 : Aside0 (Go.Lib.BuilderAt 64 5 w.heap.size b (.pointer none) [] W1) := ⟨⟨GE.out, _, BK1.out, ⟨rfl, .inl ⟨rfl, rfl⟩⟩, by simp [Value.ownBlock]⟩⟩
  go_upto_region 6 with (first | (go_at_call 24; refine (itoa 3 _ _ (by omega) (by omega) small3).mono ?_; rintro e w2 ⟨rfl, nd, rfl⟩; have HB2 := Aside0.mk (pw_below_drewN HB1.out nd)) | (go_at_call 23; refine (wrs w.heap.size b [] txt0 _ (Or.inl (show Go.Lib.BuilderAt 64 5 w.heap.size b (.pointer none) [] (W1.drewN nd) from B1.out)) (by decide) HB2.out.size).mono ?_; rintro e w3 ⟨rfl, hB3, hb3⟩; have B3 := Aside0.mk hB3; have HB3 := Aside0.mk (HB2.out.trans hb3); clear hB3 hb3))
  go_loopw [5] (fun i wr => ∃ (x : Nat) (bs : List Value), ((x = 0 ∧ bs = Go.Lib.strCells txt0) ∨ (x = 2 ∧ bs = Go.Lib.strCells txt0 ++ Go.Lib.strCells txt1) ∨ (x = 3 ∧ bs = Go.Lib.strCells txt0 ++ Go.Lib.strCells txt1 ++ Go.Lib.strCells txt2)) ∧ i = .int .i64 x ∧ Aside0 (Go.Lib.BuilderAt 64 5 w.heap.size b (.pointer (some ⟨b, 0, none⟩)) bs wr) ∧ Aside0 (Below w.heap.size w wr)) (fun i _ => 3 - (intOf i).toNat)
  case atStart => exact ⟨0, _, Or.inl ⟨rfl, rfl⟩, rfl, B3, HB3⟩
  case round =>
    obtain ⟨x, bs, hx, rfl, HBl, HBr⟩ := hrel
    clear B3 HB3
    rcases hx with ⟨rfl, rfl⟩ | ⟨rfl, rfl⟩ | ⟨rfl, rfl⟩
    · obtain ⟨l0, l1, l2⟩ := HC.out wr HBr.out
      go_upto_block 2 with (fail)
      go_cut [5, 6] (fun p q wx => p = .int .i64 0 ∧ q = .int .i64 2 ∧ Aside0 (Go.Lib.BuilderAt 64 5 w.heap.size b (.pointer (some ⟨b, 0, none⟩)) (Go.Lib.strCells txt0) wx) ∧ Aside0 (Below w.heap.size w wx))
      case first =>
        go_wp2_with fail
        go_loopw [6] (fun i wr' => ∃ (m : Nat), (m = 1 ∨ m = 2) ∧ i = .int .i64 m ∧ Aside0 (Go.Lib.BuilderAt 64 5 w.heap.size b (.pointer (some ⟨b, 0, none⟩)) (Go.Lib.strCells txt0) wr') ∧ Aside0 (Below w.heap.size w wr')) (fun i _ => 3 - (intOf i).toNat)
        case atStart => exact ⟨1, Or.inl rfl, rfl, HBl, HBr⟩
        case round =>
          obtain ⟨m, hm, rfl, HBm, HWm⟩ := hrel
          obtain ⟨l0, l1, l2⟩ := HC.out wr HWm.out
          rcases hm with rfl | rfl
          · have hdr := pw_below_drewN (Below.refl wr.heap.size wr)
            go_upto_region 10 with (fail)
            go_quiet (fail)
            have B4 := Aside0.mk (bld_below HBm.out (hdr nq))
            have W4 := Aside0.mk (HWm.out.trans ((hdr nq).mono HWm.out.size))
            generalize wr.drewN nq = w4 at B4 W4 ⊢
            clear hdr
            go_wp2
            go_roundw
            case rel => exact ⟨2, Or.inr rfl, by first | rfl | go_num, B4, W4⟩
            case measure => first | (simp [intOf]; done) | (simp [intOf]; omega)
          · have hdr := pw_below_drewN (Below.refl wr.heap.size wr)
            go_upto_region 10 with (fail)
            go_quiet (fail)
            have B4 := Aside0.mk (bld_below HBm.out (hdr nq))
            have W4 := Aside0.mk (HWm.out.trans ((hdr nq).mono HWm.out.size))
            generalize wr.drewN nq = w4 at B4 W4 ⊢
            clear hdr
            go_wp2
            go_meet
            case rel => exact ⟨rfl, rfl, B4, W4⟩
      case rest =>
        obtain ⟨rfl, rfl, HBm, HWm⟩ := hcut
        generalize wc = wm at HBm HWm ⊢
        have HLX : Aside0 (∀ w', Below wm.heap.size wm w' → w'.cell? ⟨gs, 0, none⟩ = some (.int .i64 1) ∧ w'.cell? ⟨gs, 1, none⟩ = some (.int .i64 1) ∧ w'.cell? ⟨gs, 2, none⟩ = some (.int .i64 2) ∧ Below wm.heap.size wm w') := ⟨fun w' hb => by
          obtain ⟨c0, c1, c2⟩ := HC.out w' (below_step HWm.out hb)
          exact ⟨c0, c1, c2, hb⟩⟩
        go_upto_region 12 with (fail)
        refine start_ (n := 17) (S := fun w' => w'.cell? ⟨gs, 0, none⟩ = some (.int .i64 1) ∧ w'.cell? ⟨gs, 1, none⟩ = some (.int .i64 1) ∧ w'.cell? ⟨gs, 2, none⟩ = some (.int .i64 2) ∧ Below wm.heap.size wm w') (ds := [16]) #[false, false, false, false, false, false, false, false, false, false, false, false, false, false, false, false, false] (by kernel_rfl) rfl rfl ⟨(HLX.out _ (below_drew1 (Below.refl wm.heap.size wm))).1, (HLX.out _ (below_drew1 (Below.refl wm.heap.size wm))).2.1, (HLX.out _ (below_drew1 (Below.refl wm.heap.size wm))).2.2.1, (HLX.out _ (below_drew1 (Below.refl wm.heap.size wm))).2.2.2⟩ (fun hHeld => ?_)
        refine pure_ (i := 0) (N := some 53) (v := ?_) (a' := ?_) #[true, false, false, false, false, false, false, false, false, false, false, false, false, false, false, false, false] rfl rfl (by kernel_rfl) (fun _ _ _ h => h) (Or.inl ⟨by rfl, ?_⟩) ?_ ?_
        rotate_left
        · intro w'
          go_simp
          with_reducible rfl
        rotate_left
        · simp only [Act.put, List.setIfInBounds_toArray, List.set_cons_zero, List.set_cons_succ, i64_w, i32_w]
          rfl
        refine pure_ (i := 3) (N := some 56) (v := ?_) (a' := ?_) #[true, false, false, true, false, false, false, false, false, false, false, false, false, false, false, false, false] rfl rfl (by kernel_rfl) (fun _ _ _ h => h) (Or.inl ⟨by rfl, ?_⟩) ?_ ?_
        rotate_left
        · intro w'
          go_simp
          with_reducible rfl
        rotate_left
        · simp only [Act.put, List.setIfInBounds_toArray, List.set_cons_zero, List.set_cons_succ, i64_w, i32_w]
          rfl
        refine pure_ (i := 8) (N := some 61) (v := ?_) (a' := ?_) #[true, false, false, true, false, false, false, false, true, false, false, false, false, false, false, false, false] rfl rfl (by kernel_rfl) (fun _ _ _ h => h) (Or.inl ⟨by rfl, ?_⟩) ?_ ?_
        rotate_left
        · intro w'
          go_simp
          with_reducible rfl
        rotate_left
        · simp only [Act.put, List.setIfInBounds_toArray, List.set_cons_zero, List.set_cons_succ, i64_w, i32_w]
          rfl
        refine pure_ (i := 9) (N := some 62) (v := ?_) (a' := ?_) #[true, false, false, true, false, false, false, false, true, true, false, false, false, false, false, false, false] rfl rfl (by kernel_rfl) (fun _ _ _ h => h) (Or.inl ⟨by rfl, ?_⟩) ?_ ?_
        rotate_left
        · intro w'
          go_simp
          with_reducible rfl
        rotate_left
        · simp only [Act.put, List.setIfInBounds_toArray, List.set_cons_zero, List.set_cons_succ, i64_w, i32_w]
          rfl
        refine pure_ (i := 10) (N := some 63) (v := ?_) (a' := ?_) #[true, false, false, true, false, false, false, false, true, true, true, false, false, false, false, false, false] rfl rfl (by kernel_rfl) (fun _ _ _ h => h) (Or.inl ⟨by rfl, ?_⟩) ?_ ?_
        rotate_left
        · intro w'
          go_simp
          with_reducible rfl
        rotate_left
        · simp only [Act.put, List.setIfInBounds_toArray, List.set_cons_zero, List.set_cons_succ, i64_w, i32_w]
          rfl
        refine take_ (i := 11) (N := some 64) (v := ?_) (a' := ?_) #[true, false, false, true, false, false, false, false, true, true, true, true, false, false, false, false, false] rfl rfl (by kernel_rfl) (fun _ _ _ h => h) (Or.inl ⟨by rfl, ?_⟩) hHeld ?_ ?_
        rotate_left
        · rintro w' ⟨s0, s1, s2, s3⟩
          go_simp
          with_reducible rfl
        rotate_left
        · simp only [Act.put, List.setIfInBounds_toArray, List.set_cons_zero, List.set_cons_succ, i64_w, i32_w]
          rfl
        refine one_ (i := 1) (N := some 54) #[true, true, false, true, false, false, false, false, true, true, true, true, false, false, false, false, false] rfl rfl (by kernel_rfl) (by decide) (fun K hK => ?_)
        refine goes_ Tryd.func24 (by kernel_rfl) rfl #[.int .i64 0] (by rfl) rfl rfl (by simp only [List.map_toArray, List.map_cons, List.map_nil]; rfl) ?_
        with_reducible refine (itoa 0 _ _ (by omega) (by omega) small0).mono ?_
        rintro e w7 ⟨rfl, nd, rfl⟩
        refine ⟨_, rfl, ?_⟩
        have h8 := HLX.out _ (pw_below_drewN hHeld.2.2.2 nd)
        refine hK.out _ _ ⟨h8.1, h8.2.1, h8.2.2.1, h8.2.2.2⟩ (fun hHeld => ?_)
        clear hK K
        refine norm_ (a' := ?_) ?_ ?_
        rotate_left
        · show Act.put _ (some 54) _ = _
          simp only [Act.put, List.setIfInBounds_toArray, List.set_cons_zero, List.set_cons_succ, i64_w, i32_w]
          rfl
        refine pure_ (i := 2) (N := some 55) (v := ?_) (a' := ?_) #[true, true, true, true, false, false, false, false, true, true, true, true, false, false, false, false, false] rfl rfl (by kernel_rfl) (fun _ _ _ h => h) (Or.inl ⟨by rfl, ?_⟩) ?_ ?_
        rotate_left
        · intro w'
          go_simp
          with_reducible rfl
        rotate_left
        · simp only [Act.put, List.setIfInBounds_toArray, List.set_cons_zero, List.set_cons_succ, i64_w, i32_w]
          rfl
        refine one_ (i := 4) (N := some 57) #[true, true, true, true, true, false, false, false, true, true, true, true, false, false, false, false, false] rfl rfl (by kernel_rfl) (by decide) (fun K hK => ?_)
        refine goes_ Tryd.func24 (by kernel_rfl) rfl #[.int .i64 2] (by rfl) rfl rfl (by simp only [List.map_toArray, List.map_cons, List.map_nil]; rfl) ?_
        with_reducible refine (itoa 2 _ _ (by omega) (by omega) small2).mono ?_
        rintro e w7 ⟨rfl, nd, rfl⟩
        refine ⟨_, rfl, ?_⟩
        have h8 := HLX.out _ (pw_below_drewN hHeld.2.2.2 nd)
        refine hK.out _ _ ⟨h8.1, h8.2.1, h8.2.2.1, h8.2.2.2⟩ (fun hHeld => ?_)
        clear hK K
        refine norm_ (a' := ?_) ?_ ?_
        rotate_left
        · show Act.put _ (some 57) _ = _
          simp only [Act.put, List.setIfInBounds_toArray, List.set_cons_zero, List.set_cons_succ, i64_w, i32_w]
          rfl
        refine pure_ (i := 5) (N := some 58) (v := ?_) (a' := ?_) #[true, true, true, true, true, true, false, false, true, true, true, true, false, false, false, false, false] rfl rfl (by kernel_rfl) (fun _ _ _ h => h) (Or.inl ⟨by rfl, ?_⟩) ?_ ?_
        rotate_left
        · intro w'
          go_simp
          with_reducible rfl
        rotate_left
        · simp only [Act.put, List.setIfInBounds_toArray, List.set_cons_zero, List.set_cons_succ, i64_w, i32_w]
          rfl
        refine pure_ (i := 6) (N := some 59) (v := ?_) (a' := ?_) #[true, true, true, true, true, true, true, false, true, true, true, true, false, false, false, false, false] rfl rfl (by kernel_rfl) (fun _ _ _ h => h) (Or.inl ⟨by rfl, ?_⟩) ?_ ?_
        rotate_left
        · intro w'
          go_simp
          with_reducible rfl
        rotate_left
        · simp only [Act.put, List.setIfInBounds_toArray, List.set_cons_zero, List.set_cons_succ, i64_w, i32_w]
          rfl
        refine one_ (i := 7) (N := some 60) #[true, true, true, true, true, true, true, true, true, true, true, true, false, false, false, false, false] rfl rfl (by kernel_rfl) (by decide) (fun K hK => ?_)
        refine goes_ Tryd.func25 (by kernel_rfl) rfl #[] (by rfl) rfl rfl (by simp) ?_
        with_reducible refine (known_words.calls _ _ rfl).mono ?_
        rintro e w8 ⟨v8, rfl, hR, hb⟩
        refine ⟨_, rfl, ?_⟩
        obtain ⟨gw, cw, ew, -⟩ := Kd.R_form hR (by decide)
        subst ew
        have hcw : w8.cell? ⟨gw, 1, none⟩ = some (.string ⟨#[103, 111, 111, 100]⟩) := (Kd.R_celln (⟨#[]⟩ : ByteArray) hR 1 (by decide) (by decide)).1
        have h8 := HLX.out _ (held_step hHeld.2.2.2 hb)
        refine hK.out _ _ ⟨h8.1, h8.2.1, h8.2.2.1, h8.2.2.2⟩ (fun hHeld => ?_)
        clear hK K
        refine norm_ (a' := ?_) ?_ ?_
        rotate_left
        · show Act.put _ (some 60) _ = _
          simp only [Act.put, List.setIfInBounds_toArray, List.set_cons_zero, List.set_cons_succ, i64_w, i32_w]
          rfl
        refine pure_ (i := 12) (N := some 65) (v := ?_) (a' := ?_) #[true, true, true, true, true, true, true, true, true, true, true, true, true, false, false, false, false] rfl rfl (by kernel_rfl) (fun _ _ _ h => h) (Or.inl ⟨by rfl, ?_⟩) ?_ ?_
        rotate_left
        · intro w'
          go_simp
          with_reducible rfl
        rotate_left
        · simp only [Act.put, List.setIfInBounds_toArray, List.set_cons_zero, List.set_cons_succ, i64_w, i32_w]
          rfl
        refine one_ (i := 13) (N := some 66) #[true, true, true, true, true, true, true, true, true, true, true, true, true, true, false, false, false] rfl rfl (by kernel_rfl) (by decide) (fun K hK => ?_)
        refine value_ (w1 := ?_) (v := ?_) (by rfl) rfl ?_ ?_
        rotate_left 2
        · go_simp
          constructor
          · rfl
          · rfl
        refine hK.out _ _ ⟨hHeld.1, hHeld.2.1, hHeld.2.2.1, hHeld.2.2.2⟩ (fun hHeld => ?_)
        clear hK K
        refine norm_ (a' := ?_) ?_ ?_
        rotate_left
        · show Act.put _ (some 66) _ = _
          simp only [Act.put, List.setIfInBounds_toArray, List.set_cons_zero, List.set_cons_succ, i64_w, i32_w]
          rfl
        refine pure_ (i := 14) (N := some 67) (v := ?_) (a' := ?_) #[true, true, true, true, true, true, true, true, true, true, true, true, true, true, true, false, false] rfl rfl (by kernel_rfl) (fun _ _ _ h => h) (Or.inl ⟨by rfl, ?_⟩) ?_ ?_
        rotate_left
        · intro w'
          go_simp
          with_reducible rfl
        rotate_left
        · simp only [Act.put, List.setIfInBounds_toArray, List.set_cons_zero, List.set_cons_succ, i64_w, i32_w]
          rfl
        refine pure_ (i := 15) (N := some 68) (v := ?_) (a' := ?_) #[true, true, true, true, true, true, true, true, true, true, true, true, true, true, true, true, false] rfl rfl (by kernel_rfl) (fun _ _ _ h => h) (Or.inl ⟨by rfl, ?_⟩) ?_ ?_
        rotate_left
        · intro w'
          go_simp
          with_reducible rfl
        rotate_left
        · simp only [Act.put, List.setIfInBounds_toArray, List.set_cons_zero, List.set_cons_succ, i64_w, i32_w]
          rfl
        refine last_ (i := 16) (N := some 69) #[true, true, true, true, true, true, true, true, true, true, true, true, true, true, true, true, true] rfl rfl (by kernel_rfl) (by decide) (fun K hK => ?_)
        refine goes_ Tryd.func23 (by kernel_rfl) rfl #[.pointer (some ⟨b, 0, none⟩), .string txt1] (by rfl) rfl rfl (by simp only [List.map_toArray, List.map_cons, List.map_nil]; rfl) ?_
        refine (wrs w.heap.size b (Go.Lib.strCells txt0) txt1 _ (bld_is (bld_below HBm.out hHeld.2.2.2)) (by simp only [List.length_append, strl]; decide) (Nat.le_trans HWm.out.size (hHeld.2.2.2).size)).mono ?_
        rintro e w9 ⟨rfl, hB9, hb9⟩
        refine ⟨_, rfl, ?_⟩
        have hw9 := (HWm.out.trans (h8.2.2.2.mono HWm.out.size)).trans hb9
        refine hK.out _ _ ?_
        clear hK K
        refine norm_ (a' := ?_) ?_ ?_
        rotate_left
        · show Act.put _ (some 69) _ = _
          simp only [Act.put, List.setIfInBounds_toArray, List.set_cons_zero, List.set_cons_succ, i64_w, i32_w]
          rfl
        refine done_ (by kernel_rfl) ?_

        go_wp2
        go_roundw
        case rel => exact ⟨2, _, Or.inr (Or.inl ⟨rfl, rfl⟩), by first | rfl | go_num, ⟨hB9⟩, ⟨hw9⟩⟩
        case measure => first | (simp [intOf]; done) | (simp [intOf]; omega)
    · obtain ⟨l0, l1, l2⟩ := HC.out wr HBr.out
      go_upto_block 2 with (fail)
      go_cut [5, 6] (fun p q wx => p = .int .i64 2 ∧ q = .int .i64 1 ∧ Aside0 (Go.Lib.BuilderAt 64 5 w.heap.size b (.pointer (some ⟨b, 0, none⟩)) (Go.Lib.strCells txt0 ++ Go.Lib.strCells txt1) wx) ∧ Aside0 (Below w.heap.size w wx))
      case first =>
        go_wp2_with fail
        go_loopw [6] (fun i wr' => ∃ (m : Nat), (m = 1) ∧ i = .int .i64 m ∧ Aside0 (Go.Lib.BuilderAt 64 5 w.heap.size b (.pointer (some ⟨b, 0, none⟩)) (Go.Lib.strCells txt0 ++ Go.Lib.strCells txt1) wr') ∧ Aside0 (Below w.heap.size w wr')) (fun i _ => 3 - (intOf i).toNat)
        case atStart => exact ⟨1, rfl, rfl, HBl, HBr⟩
        case round =>
          obtain ⟨m, hm, rfl, HBm, HWm⟩ := hrel
          obtain ⟨l0, l1, l2⟩ := HC.out wr HWm.out
          subst hm
          have hdr := pw_below_drewN (Below.refl wr.heap.size wr)
          go_upto_region 10 with (fail)
          go_quiet (fail)
          have B4 := Aside0.mk (bld_below HBm.out (hdr nq))
          have W4 := Aside0.mk (HWm.out.trans ((hdr nq).mono HWm.out.size))
          generalize wr.drewN nq = w4 at B4 W4 ⊢
          clear hdr
          go_wp2
          go_meet
          case rel => exact ⟨rfl, rfl, B4, W4⟩
      case rest =>
        obtain ⟨rfl, rfl, HBm, HWm⟩ := hcut
        generalize wc = wm at HBm HWm ⊢
        have HLX : Aside0 (∀ w', Below wm.heap.size wm w' → w'.cell? ⟨gs, 0, none⟩ = some (.int .i64 1) ∧ w'.cell? ⟨gs, 1, none⟩ = some (.int .i64 1) ∧ w'.cell? ⟨gs, 2, none⟩ = some (.int .i64 2) ∧ Below wm.heap.size wm w') := ⟨fun w' hb => by
          obtain ⟨c0, c1, c2⟩ := HC.out w' (below_step HWm.out hb)
          exact ⟨c0, c1, c2, hb⟩⟩
        go_upto_region 12 with (fail)
        refine start_ (n := 17) (S := fun w' => w'.cell? ⟨gs, 0, none⟩ = some (.int .i64 1) ∧ w'.cell? ⟨gs, 1, none⟩ = some (.int .i64 1) ∧ w'.cell? ⟨gs, 2, none⟩ = some (.int .i64 2) ∧ Below wm.heap.size wm w') (ds := [16]) #[false, false, false, false, false, false, false, false, false, false, false, false, false, false, false, false, false] (by kernel_rfl) rfl rfl ⟨(HLX.out _ (below_drew1 (Below.refl wm.heap.size wm))).1, (HLX.out _ (below_drew1 (Below.refl wm.heap.size wm))).2.1, (HLX.out _ (below_drew1 (Below.refl wm.heap.size wm))).2.2.1, (HLX.out _ (below_drew1 (Below.refl wm.heap.size wm))).2.2.2⟩ (fun hHeld => ?_)
        refine pure_ (i := 0) (N := some 53) (v := ?_) (a' := ?_) #[true, false, false, false, false, false, false, false, false, false, false, false, false, false, false, false, false] rfl rfl (by kernel_rfl) (fun _ _ _ h => h) (Or.inl ⟨by rfl, ?_⟩) ?_ ?_
        rotate_left
        · intro w'
          go_simp
          with_reducible rfl
        rotate_left
        · simp only [Act.put, List.setIfInBounds_toArray, List.set_cons_zero, List.set_cons_succ, i64_w, i32_w]
          rfl
        refine pure_ (i := 3) (N := some 56) (v := ?_) (a' := ?_) #[true, false, false, true, false, false, false, false, false, false, false, false, false, false, false, false, false] rfl rfl (by kernel_rfl) (fun _ _ _ h => h) (Or.inl ⟨by rfl, ?_⟩) ?_ ?_
        rotate_left
        · intro w'
          go_simp
          with_reducible rfl
        rotate_left
        · simp only [Act.put, List.setIfInBounds_toArray, List.set_cons_zero, List.set_cons_succ, i64_w, i32_w]
          rfl
        refine pure_ (i := 8) (N := some 61) (v := ?_) (a' := ?_) #[true, false, false, true, false, false, false, false, true, false, false, false, false, false, false, false, false] rfl rfl (by kernel_rfl) (fun _ _ _ h => h) (Or.inl ⟨by rfl, ?_⟩) ?_ ?_
        rotate_left
        · intro w'
          go_simp
          with_reducible rfl
        rotate_left
        · simp only [Act.put, List.setIfInBounds_toArray, List.set_cons_zero, List.set_cons_succ, i64_w, i32_w]
          rfl
        refine pure_ (i := 9) (N := some 62) (v := ?_) (a' := ?_) #[true, false, false, true, false, false, false, false, true, true, false, false, false, false, false, false, false] rfl rfl (by kernel_rfl) (fun _ _ _ h => h) (Or.inl ⟨by rfl, ?_⟩) ?_ ?_
        rotate_left
        · intro w'
          go_simp
          with_reducible rfl
        rotate_left
        · simp only [Act.put, List.setIfInBounds_toArray, List.set_cons_zero, List.set_cons_succ, i64_w, i32_w]
          rfl
        refine pure_ (i := 10) (N := some 63) (v := ?_) (a' := ?_) #[true, false, false, true, false, false, false, false, true, true, true, false, false, false, false, false, false] rfl rfl (by kernel_rfl) (fun _ _ _ h => h) (Or.inl ⟨by rfl, ?_⟩) ?_ ?_
        rotate_left
        · intro w'
          go_simp
          with_reducible rfl
        rotate_left
        · simp only [Act.put, List.setIfInBounds_toArray, List.set_cons_zero, List.set_cons_succ, i64_w, i32_w]
          rfl
        refine take_ (i := 11) (N := some 64) (v := ?_) (a' := ?_) #[true, false, false, true, false, false, false, false, true, true, true, true, false, false, false, false, false] rfl rfl (by kernel_rfl) (fun _ _ _ h => h) (Or.inl ⟨by rfl, ?_⟩) hHeld ?_ ?_
        rotate_left
        · rintro w' ⟨s0, s1, s2, s3⟩
          go_simp
          with_reducible rfl
        rotate_left
        · simp only [Act.put, List.setIfInBounds_toArray, List.set_cons_zero, List.set_cons_succ, i64_w, i32_w]
          rfl
        refine one_ (i := 1) (N := some 54) #[true, true, false, true, false, false, false, false, true, true, true, true, false, false, false, false, false] rfl rfl (by kernel_rfl) (by decide) (fun K hK => ?_)
        refine goes_ Tryd.func24 (by kernel_rfl) rfl #[.int .i64 2] (by rfl) rfl rfl (by simp only [List.map_toArray, List.map_cons, List.map_nil]; rfl) ?_
        with_reducible refine (itoa 2 _ _ (by omega) (by omega) small2).mono ?_
        rintro e w7 ⟨rfl, nd, rfl⟩
        refine ⟨_, rfl, ?_⟩
        have h8 := HLX.out _ (pw_below_drewN hHeld.2.2.2 nd)
        refine hK.out _ _ ⟨h8.1, h8.2.1, h8.2.2.1, h8.2.2.2⟩ (fun hHeld => ?_)
        clear hK K
        refine norm_ (a' := ?_) ?_ ?_
        rotate_left
        · show Act.put _ (some 54) _ = _
          simp only [Act.put, List.setIfInBounds_toArray, List.set_cons_zero, List.set_cons_succ, i64_w, i32_w]
          rfl
        refine pure_ (i := 2) (N := some 55) (v := ?_) (a' := ?_) #[true, true, true, true, false, false, false, false, true, true, true, true, false, false, false, false, false] rfl rfl (by kernel_rfl) (fun _ _ _ h => h) (Or.inl ⟨by rfl, ?_⟩) ?_ ?_
        rotate_left
        · intro w'
          go_simp
          with_reducible rfl
        rotate_left
        · simp only [Act.put, List.setIfInBounds_toArray, List.set_cons_zero, List.set_cons_succ, i64_w, i32_w]
          rfl
        refine one_ (i := 4) (N := some 57) #[true, true, true, true, true, false, false, false, true, true, true, true, false, false, false, false, false] rfl rfl (by kernel_rfl) (by decide) (fun K hK => ?_)
        refine goes_ Tryd.func24 (by kernel_rfl) rfl #[.int .i64 1] (by rfl) rfl rfl (by simp only [List.map_toArray, List.map_cons, List.map_nil]; rfl) ?_
        with_reducible refine (itoa 1 _ _ (by omega) (by omega) small1).mono ?_
        rintro e w7 ⟨rfl, nd, rfl⟩
        refine ⟨_, rfl, ?_⟩
        have h8 := HLX.out _ (pw_below_drewN hHeld.2.2.2 nd)
        refine hK.out _ _ ⟨h8.1, h8.2.1, h8.2.2.1, h8.2.2.2⟩ (fun hHeld => ?_)
        clear hK K
        refine norm_ (a' := ?_) ?_ ?_
        rotate_left
        · show Act.put _ (some 57) _ = _
          simp only [Act.put, List.setIfInBounds_toArray, List.set_cons_zero, List.set_cons_succ, i64_w, i32_w]
          rfl
        refine pure_ (i := 5) (N := some 58) (v := ?_) (a' := ?_) #[true, true, true, true, true, true, false, false, true, true, true, true, false, false, false, false, false] rfl rfl (by kernel_rfl) (fun _ _ _ h => h) (Or.inl ⟨by rfl, ?_⟩) ?_ ?_
        rotate_left
        · intro w'
          go_simp
          with_reducible rfl
        rotate_left
        · simp only [Act.put, List.setIfInBounds_toArray, List.set_cons_zero, List.set_cons_succ, i64_w, i32_w]
          rfl
        refine pure_ (i := 6) (N := some 59) (v := ?_) (a' := ?_) #[true, true, true, true, true, true, true, false, true, true, true, true, false, false, false, false, false] rfl rfl (by kernel_rfl) (fun _ _ _ h => h) (Or.inl ⟨by rfl, ?_⟩) ?_ ?_
        rotate_left
        · intro w'
          go_simp
          with_reducible rfl
        rotate_left
        · simp only [Act.put, List.setIfInBounds_toArray, List.set_cons_zero, List.set_cons_succ, i64_w, i32_w]
          rfl
        refine one_ (i := 7) (N := some 60) #[true, true, true, true, true, true, true, true, true, true, true, true, false, false, false, false, false] rfl rfl (by kernel_rfl) (by decide) (fun K hK => ?_)
        refine goes_ Tryd.func25 (by kernel_rfl) rfl #[] (by rfl) rfl rfl (by simp) ?_
        with_reducible refine (known_words.calls _ _ rfl).mono ?_
        rintro e w8 ⟨v8, rfl, hR, hb⟩
        refine ⟨_, rfl, ?_⟩
        obtain ⟨gw, cw, ew, -⟩ := Kd.R_form hR (by decide)
        subst ew
        have hcw : w8.cell? ⟨gw, 2, none⟩ = some (.string ⟨#[102, 97, 105, 108, 101, 100]⟩) := (Kd.R_celln (⟨#[]⟩ : ByteArray) hR 2 (by decide) (by decide)).1
        have h8 := HLX.out _ (held_step hHeld.2.2.2 hb)
        refine hK.out _ _ ⟨h8.1, h8.2.1, h8.2.2.1, h8.2.2.2⟩ (fun hHeld => ?_)
        clear hK K
        refine norm_ (a' := ?_) ?_ ?_
        rotate_left
        · show Act.put _ (some 60) _ = _
          simp only [Act.put, List.setIfInBounds_toArray, List.set_cons_zero, List.set_cons_succ, i64_w, i32_w]
          rfl
        refine pure_ (i := 12) (N := some 65) (v := ?_) (a' := ?_) #[true, true, true, true, true, true, true, true, true, true, true, true, true, false, false, false, false] rfl rfl (by kernel_rfl) (fun _ _ _ h => h) (Or.inl ⟨by rfl, ?_⟩) ?_ ?_
        rotate_left
        · intro w'
          go_simp
          with_reducible rfl
        rotate_left
        · simp only [Act.put, List.setIfInBounds_toArray, List.set_cons_zero, List.set_cons_succ, i64_w, i32_w]
          rfl
        refine one_ (i := 13) (N := some 66) #[true, true, true, true, true, true, true, true, true, true, true, true, true, true, false, false, false] rfl rfl (by kernel_rfl) (by decide) (fun K hK => ?_)
        refine value_ (w1 := ?_) (v := ?_) (by rfl) rfl ?_ ?_
        rotate_left 2
        · go_simp
          constructor
          · rfl
          · rfl
        refine hK.out _ _ ⟨hHeld.1, hHeld.2.1, hHeld.2.2.1, hHeld.2.2.2⟩ (fun hHeld => ?_)
        clear hK K
        refine norm_ (a' := ?_) ?_ ?_
        rotate_left
        · show Act.put _ (some 66) _ = _
          simp only [Act.put, List.setIfInBounds_toArray, List.set_cons_zero, List.set_cons_succ, i64_w, i32_w]
          rfl
        refine pure_ (i := 14) (N := some 67) (v := ?_) (a' := ?_) #[true, true, true, true, true, true, true, true, true, true, true, true, true, true, true, false, false] rfl rfl (by kernel_rfl) (fun _ _ _ h => h) (Or.inl ⟨by rfl, ?_⟩) ?_ ?_
        rotate_left
        · intro w'
          go_simp
          with_reducible rfl
        rotate_left
        · simp only [Act.put, List.setIfInBounds_toArray, List.set_cons_zero, List.set_cons_succ, i64_w, i32_w]
          rfl
        refine pure_ (i := 15) (N := some 68) (v := ?_) (a' := ?_) #[true, true, true, true, true, true, true, true, true, true, true, true, true, true, true, true, false] rfl rfl (by kernel_rfl) (fun _ _ _ h => h) (Or.inl ⟨by rfl, ?_⟩) ?_ ?_
        rotate_left
        · intro w'
          go_simp
          with_reducible rfl
        rotate_left
        · simp only [Act.put, List.setIfInBounds_toArray, List.set_cons_zero, List.set_cons_succ, i64_w, i32_w]
          rfl
        refine last_ (i := 16) (N := some 69) #[true, true, true, true, true, true, true, true, true, true, true, true, true, true, true, true, true] rfl rfl (by kernel_rfl) (by decide) (fun K hK => ?_)
        refine goes_ Tryd.func23 (by kernel_rfl) rfl #[.pointer (some ⟨b, 0, none⟩), .string txt2] (by rfl) rfl rfl (by simp only [List.map_toArray, List.map_cons, List.map_nil]; rfl) ?_
        refine (wrs w.heap.size b (Go.Lib.strCells txt0 ++ Go.Lib.strCells txt1) txt2 _ (bld_is (bld_below HBm.out hHeld.2.2.2)) (by simp only [List.length_append, strl]; decide) (Nat.le_trans HWm.out.size (hHeld.2.2.2).size)).mono ?_
        rintro e w9 ⟨rfl, hB9, hb9⟩
        refine ⟨_, rfl, ?_⟩
        have hw9 := (HWm.out.trans (h8.2.2.2.mono HWm.out.size)).trans hb9
        refine hK.out _ _ ?_
        clear hK K
        refine norm_ (a' := ?_) ?_ ?_
        rotate_left
        · show Act.put _ (some 69) _ = _
          simp only [Act.put, List.setIfInBounds_toArray, List.set_cons_zero, List.set_cons_succ, i64_w, i32_w]
          rfl
        refine done_ (by kernel_rfl) ?_

        go_wp2
        go_roundw
        case rel => exact ⟨3, _, Or.inr (Or.inr ⟨rfl, rfl⟩), by first | rfl | go_num, ⟨hB9⟩, ⟨hw9⟩⟩
        case measure => first | (simp [intOf]; done) | (simp [intOf]; omega)
    · have hcl : Go.Lib.strCells txt0 ++ Go.Lib.strCells txt1 ++ Go.Lib.strCells txt2 = Go.Lib.byteCells [98, 108, 111, 99, 107, 115, 32, 51, 10, 48, 32, 50, 32, 103, 111, 111, 100, 10, 50, 32, 49, 32, 102, 97, 105, 108, 101, 100, 10] := by
        have e0 : txt0.data.toList = [98, 108, 111, 99, 107, 115, 32, 51, 10] := by decide +kernel
        have e1 : txt1.data.toList = [48, 32, 50, 32, 103, 111, 111, 100, 10] := by decide +kernel
        have e2 : txt2.data.toList = [50, 32, 49, 32, 102, 97, 105, 108, 101, 100, 10] := by decide +kernel
        unfold Go.Lib.strCells Go.Lib.byteCells
        rw [e0, e1, e2]
        rfl
      rw [hcl] at HBl
      clear hcl
      go_wp2_with (go_at_call 26; refine (bstr w.heap.size b _ _ (bld_is HBl.out) (by simp)).mono ?_; rintro e w9 ⟨rfl, hb9⟩)
      go_ret2
      exact ⟨rfl, HBr.out.trans hb9⟩

/-! ### wrackkeep1_mapped: function 9 -/
set_option maxHeartbeats 4000000 in
set_option maxRecDepth 100000 in
theorem wrackkeep1_mapped.calls (w : World) : Calls Tryd.prog 9 #[] w fun e w' => e = .returned (.bool true) ∧ Below w.heap.size w w' := by
  go_enter Tryd.func9, Tryd.ntmps9
  go_upto_region 2 with (first | ((with_reducible refine gate_dst (N := 4) rfl ?_); refine Kd.R_lit (Kd.int .i64) _ 3 ?hg (N := 4) ?hd (xs := ([1, 1, 2] : List Int)) (inner := [.int .i64 1, .int .i64 1, .int .i64 2]) (ok := fun _ => True) (okp := fun _ => True) ?hr ?hp (fun _ hk => hk) trivial (Below.refl _ _) (Nat.le_refl _) (by simp) ?_; (case hd => rfl); (case hg => rfl); (case hr => first | (go_simp; done) | (go_simp; rfl)); (case hp => exact (Reps.one (show Kd.M (Kd.int .i64) _ _ _ 1 [.int .i64 1] from rfl) (Reps.one (show Kd.M (Kd.int .i64) _ _ _ 1 [.int .i64 1] from rfl) (Reps.one (show Kd.M (Kd.int .i64) _ _ _ 2 [.int .i64 2] from rfl) (Reps.none _ _))))); intro v2 w2 ho hb hg_ hnew_; clear hg_ hnew_; obtain ⟨gq, cq, eq, -⟩ := Kd.R_form ho (by decide); subst eq; have HQ2 := Aside0.mk ho; have HB2 := Aside0.mk hb; clear hb ho) | (go_at_call 19; refine (textC gq cq _ HQ2.out).mono ?_; rintro e w3 ⟨rfl, hb⟩; have HB3 := Aside0.mk (below_step HB2.out hb); clear hb))
  go_wp2
  go_ret
  exact ⟨by first | rfl | simp, HB3.out⟩

/-! ### slices_Equal_int_int: function 10 -/
def slices_Equal_int_int.l0 : Nat → List Int → List Int → Int → Int → Option (Bool)
  | 0, _, _, _, _ => none
  | k + 1, x0, x1, x12, x13 => if x13 < x12 then (if 0 ≤ x13 then (if x13 < (x0.length : Int) then (if x13 < (x1.length : Int) then (if (rd x0 x13) = (rd x1 x13) then (slices_Equal_int_int.l0 k x0 x1 x12 (wrap64 (x13 + 1))) else (some false)) else (none)) else (none)) else (none)) else (some true)
def slices_Equal_int_int.f (k : Nat) (l0 : List Int) (l1 : List Int) : Option (Bool) := if (l0.length : Int) = (l1.length : Int) then (slices_Equal_int_int.l0 k l0 l1 (l0.length : Int) 0) else (some false)
theorem slices_Equal_int_int.mono_l : ∀ k, (∀ y0 y1 y2 y3, LeO (slices_Equal_int_int.l0 k y0 y1 y2 y3) (slices_Equal_int_int.l0 (k + 1) y0 y1 y2 y3))
  | 0 => fun _ _ _ _ r h => by simp [slices_Equal_int_int.l0] at h
  | k + 1 => by
    have ih0 := slices_Equal_int_int.mono_l k
    · intro y0 y1 y2 y3
      unfold slices_Equal_int_int.l0
      repeat' first
      | (with_reducible exact ih0 _ _ _ _)
      | (with_reducible exact LeO.refl _)
      | (with_reducible exact LeO.none _)
      | (with_reducible refine LeO.ite ?_ ?_)
      | (with_reducible refine LeO.bind ?_ (fun _ => ?_))
      | exact ih0 _ _ _ _
      | exact LeO.none _
      | refine LeO.ite ?_ ?_
      | refine LeO.bind ?_ (fun _ => ?_)
theorem slices_Equal_int_int.mono : ∀ a0 a1 k, LeO (slices_Equal_int_int.f k a0 a1) (slices_Equal_int_int.f (k + 1) a0 a1) := by
  intro a0 a1 k
  have ih0 := slices_Equal_int_int.mono_l k
  unfold slices_Equal_int_int.f
  repeat' first
      | (with_reducible exact ih0 _ _ _ _)
      | (with_reducible exact LeO.refl _)
      | (with_reducible exact LeO.none _)
      | (with_reducible refine LeO.ite ?_ ?_)
      | (with_reducible refine LeO.bind ?_ (fun _ => ?_))
      | exact ih0 _ _ _ _
      | exact LeO.none _
      | refine LeO.ite ?_ ?_
      | refine LeO.bind ?_ (fun _ => ?_)
set_option maxHeartbeats 8000000 in
set_option maxRecDepth 100000 in
theorem slices_Equal_int_int.calls (k : Nat) (A0 : Option Addr) (c0 : Nat) (l0 : List Int) (A1 : Option Addr) (c1 : Nat) (l1 : List Int) (r : Bool) (w : World) (hr0 : Kd.C (Kd.int .i64) w A0 l0.length l0) (hc0 : l0.length ≤ c0) (hr1 : Kd.C (Kd.int .i64) w A1 l1.length l1) (hc1 : l1.length ≤ c1) (h : slices_Equal_int_int.f k l0 l1 = some r) :
    Calls Tryd.prog 10 #[.slice A0 l0.length c0, .slice A1 l1.length c1] w fun e w' => e = .returned (.bool r) ∧ Drawn0 w w' := by
  have HR0 := Aside0.mk hr0
  have HC0 := Aside0.mk hc0
  clear hr0 hc0
  have HR1 := Aside0.mk hr1
  have HC1 := Aside0.mk hc1
  clear hr1 hc1
  have H : (if (l0.length : Int) = (l1.length : Int) then (slices_Equal_int_int.l0 k l0 l1 (l0.length : Int) 0) else (some false)) = some r := h
  clear h
  by_cases c3 : (l0.length : Int) = (l1.length : Int)
  · rw [if_pos c3] at H
    have c3b0 : ((l0.length : Int) == (l1.length : Int)) = true := beq_iff_eq.mpr c3
    have c3b1 : ((l0.length : Int) != (l1.length : Int)) = false := bne_eq_false_iff_eq.mpr c3
    have c3b2 : (l0.length == l1.length) = true := by first | simpa using c3 | (simp at c3 ⊢; omega)
    clear c3
    have H' := Aside0.mk H
    clear H
    go_enter Tryd.func10, Tryd.ntmps10
    go_wp2
    repeat (go_quiet (fail); try go_wp2)
    go_loopg [13] k (fun kq v13 w' => ∃ (x13_1 : Int), v13 = .int .i64 x13_1 ∧ Aside0 (slices_Equal_int_int.l0 kq l0 l1 (l0.length : Int) x13_1 = some r) ∧ Aside0 (kq ≤ k) ∧ Drawn0 w w')
    case atStart => exact ⟨(0), (by first | rfl | (simp; done) | (simp [*]; done)), H', ⟨Nat.le_refl _⟩, by repeat (first | exact Drawn0.refl _ | apply Drawn0.step)⟩
    case round =>
      clear H'
      try clear c1
      try clear p2
      try clear c3
      try clear c3b0
      try clear c3b1
      try clear c3b2
      obtain ⟨x13_1, rfl, HA, HK1, ⟨m1, rfl⟩⟩ := hrel
      cases gk with
      | zero => exact absurd HA.out (by simp [slices_Equal_int_int.l0])
      | succ k1 =>
        have H := HA.out
        clear HA
        simp only [slices_Equal_int_int.l0] at H
        by_cases c4 : x13_1 < (l0.length : Int)
        · rw [if_pos c4] at H
          have c4b0 : decide (x13_1 < (l0.length : Int)) = true := decide_eq_true c4
          clear c4
          by_cases c5 : 0 ≤ x13_1
          · rw [if_pos c5] at H
            have c5b0 : decide (0 ≤ x13_1) = true := decide_eq_true c5
            clear c5
            by_cases c6 : x13_1 < (l0.length : Int)
            · rw [if_pos c6] at H
              have c6b0 : decide (x13_1 < (l0.length : Int)) = true := decide_eq_true c6
              clear c6
              by_cases c7 : x13_1 < (l1.length : Int)
              · rw [if_pos c7] at H
                have c7b0 : decide (x13_1 < (l1.length : Int)) = true := decide_eq_true c7
                clear c7
                by_cases c8 : (rd l0 x13_1) = (rd l1 x13_1)
                · rw [if_pos c8] at H
                  have c8b0 : ((rd l0 x13_1) == (rd l1 x13_1)) = true := beq_iff_eq.mpr c8
                  have c8b1 : ((rd l0 x13_1) != (rd l1 x13_1)) = false := bne_eq_false_iff_eq.mpr c8
                  clear c8
                  have H' := Aside0.mk H
                  clear H
                  have p140 : 0 ≤ (x13_1 : Int) := of_decide_eq_true (by first | (with_reducible assumption) | assumption)
                  have q140 : x13_1 < (l0.length : Int) := of_decide_eq_true (by first | (with_reducible assumption) | assumption)
                  obtain ⟨ad140, e140, hx140_0⟩ := Kd.at_int HR0.out x13_1 p140 q140
                  cases e140
                  replace p140 := eq_true p140
                  replace q140 := eq_true q140
                  have p141 : 0 ≤ (x13_1 : Int) := of_decide_eq_true (by first | (with_reducible assumption) | assumption)
                  have q141 : x13_1 < (l1.length : Int) := of_decide_eq_true (by first | (with_reducible assumption) | assumption)
                  obtain ⟨ad141, e141, hx141_0⟩ := Kd.at_int HR1.out x13_1 p141 q141
                  cases e141
                  replace p141 := eq_true p141
                  replace q141 := eq_true q141
                  go_wp2
                  repeat (go_quiet (fail); try go_wp2)
                  go_roundg k1
                  case measure => have := HK1.out; omega
                  case rel => exact ⟨(wrap64 (x13_1 + 1)), (by first | rfl | (simp; done) | (simp [*]; done)), H', ⟨by have := HK1.out; omega⟩, by repeat (first | exact Drawn0.refl _ | apply Drawn0.step)⟩
                · rw [if_neg c8] at H
                  have c8b0 : ((rd l0 x13_1) == (rd l1 x13_1)) = false := beq_eq_false_iff_ne.mpr c8
                  have c8b1 : ((rd l0 x13_1) != (rd l1 x13_1)) = true := bne_iff_ne.mpr c8
                  obtain rfl := Option.some.inj H
                  have p140 : 0 ≤ (x13_1 : Int) := of_decide_eq_true (by first | (with_reducible assumption) | assumption)
                  have q140 : x13_1 < (l0.length : Int) := of_decide_eq_true (by first | (with_reducible assumption) | assumption)
                  obtain ⟨ad140, e140, hx140_0⟩ := Kd.at_int HR0.out x13_1 p140 q140
                  cases e140
                  replace p140 := eq_true p140
                  replace q140 := eq_true q140
                  have p141 : 0 ≤ (x13_1 : Int) := of_decide_eq_true (by first | (with_reducible assumption) | assumption)
                  have q141 : x13_1 < (l1.length : Int) := of_decide_eq_true (by first | (with_reducible assumption) | assumption)
                  obtain ⟨ad141, e141, hx141_0⟩ := Kd.at_int HR1.out x13_1 p141 q141
                  cases e141
                  replace p141 := eq_true p141
                  replace q141 := eq_true q141
                  go_wp2
                  repeat (go_quiet (fail); try go_wp2)
                  go_ret
                  exact ⟨by first | rfl | (simp; done) | (simp [*]; done), by repeat (first | exact Drawn0.refl _ | apply Drawn0.step)⟩
              · rw [if_neg c7] at H
                exact absurd H (by simp)
            · rw [if_neg c6] at H
              exact absurd H (by simp)
          · rw [if_neg c5] at H
            exact absurd H (by simp)
        · rw [if_neg c4] at H
          have c4b0 : decide (x13_1 < (l0.length : Int)) = false := decide_eq_false c4
          clear c4
          obtain rfl := Option.some.inj H
          go_wp2
          repeat (go_quiet (fail); try go_wp2)
          go_ret
          exact ⟨by first | rfl | (simp; done) | (simp [*]; done), by repeat (first | exact Drawn0.refl _ | apply Drawn0.step)⟩
  · rw [if_neg c3] at H
    have c3b0 : ((l0.length : Int) == (l1.length : Int)) = false := beq_eq_false_iff_ne.mpr c3
    have c3b1 : ((l0.length : Int) != (l1.length : Int)) = true := bne_iff_ne.mpr c3
    have c3b2 : (l0.length == l1.length) = false := by first | simpa using c3 | (simp at c3 ⊢; omega)
    obtain rfl := Option.some.inj H
    go_enter Tryd.func10, Tryd.ntmps10
    go_wp2
    repeat (go_quiet (fail); try go_wp2)
    go_ret
    exact ⟨by first | rfl | (simp; done) | (simp [*]; done), by repeat (first | exact Drawn0.refl _ | apply Drawn0.step)⟩

/-! ### slices_Equal_byte_byte: function 11 -/
def slices_Equal_byte_byte.l0 : Nat → List Int → List Int → Int → Int → Option (Bool)
  | 0, _, _, _, _ => none
  | k + 1, x0, x1, x12, x13 => if x13 < x12 then (if 0 ≤ x13 then (if x13 < (x0.length : Int) then (if x13 < (x1.length : Int) then (if (rd x0 x13) = (rd x1 x13) then (slices_Equal_byte_byte.l0 k x0 x1 x12 (wrap64 (x13 + 1))) else (some false)) else (none)) else (none)) else (none)) else (some true)
def slices_Equal_byte_byte.f (k : Nat) (l0 : List Int) (l1 : List Int) : Option (Bool) := if (l0.length : Int) = (l1.length : Int) then (slices_Equal_byte_byte.l0 k l0 l1 (l0.length : Int) 0) else (some false)
theorem slices_Equal_byte_byte.mono_l : ∀ k, (∀ y0 y1 y2 y3, LeO (slices_Equal_byte_byte.l0 k y0 y1 y2 y3) (slices_Equal_byte_byte.l0 (k + 1) y0 y1 y2 y3))
  | 0 => fun _ _ _ _ r h => by simp [slices_Equal_byte_byte.l0] at h
  | k + 1 => by
    have ih0 := slices_Equal_byte_byte.mono_l k
    · intro y0 y1 y2 y3
      unfold slices_Equal_byte_byte.l0
      repeat' first
      | (with_reducible exact ih0 _ _ _ _)
      | (with_reducible exact LeO.refl _)
      | (with_reducible exact LeO.none _)
      | (with_reducible refine LeO.ite ?_ ?_)
      | (with_reducible refine LeO.bind ?_ (fun _ => ?_))
      | exact ih0 _ _ _ _
      | exact LeO.none _
      | refine LeO.ite ?_ ?_
      | refine LeO.bind ?_ (fun _ => ?_)
theorem slices_Equal_byte_byte.mono : ∀ a0 a1 k, LeO (slices_Equal_byte_byte.f k a0 a1) (slices_Equal_byte_byte.f (k + 1) a0 a1) := by
  intro a0 a1 k
  have ih0 := slices_Equal_byte_byte.mono_l k
  unfold slices_Equal_byte_byte.f
  repeat' first
      | (with_reducible exact ih0 _ _ _ _)
      | (with_reducible exact LeO.refl _)
      | (with_reducible exact LeO.none _)
      | (with_reducible refine LeO.ite ?_ ?_)
      | (with_reducible refine LeO.bind ?_ (fun _ => ?_))
      | exact ih0 _ _ _ _
      | exact LeO.none _
      | refine LeO.ite ?_ ?_
      | refine LeO.bind ?_ (fun _ => ?_)
set_option maxHeartbeats 8000000 in
set_option maxRecDepth 100000 in
theorem slices_Equal_byte_byte.calls (k : Nat) (A0 : Option Addr) (c0 : Nat) (l0 : List Int) (A1 : Option Addr) (c1 : Nat) (l1 : List Int) (r : Bool) (w : World) (hr0 : Kd.C (Kd.int .u8) w A0 l0.length l0) (hc0 : l0.length ≤ c0) (hr1 : Kd.C (Kd.int .u8) w A1 l1.length l1) (hc1 : l1.length ≤ c1) (h : slices_Equal_byte_byte.f k l0 l1 = some r) :
    Calls Tryd.prog 11 #[.slice A0 l0.length c0, .slice A1 l1.length c1] w fun e w' => e = .returned (.bool r) ∧ Drawn0 w w' := by
  have HR0 := Aside0.mk hr0
  have HC0 := Aside0.mk hc0
  clear hr0 hc0
  have HR1 := Aside0.mk hr1
  have HC1 := Aside0.mk hc1
  clear hr1 hc1
  have H : (if (l0.length : Int) = (l1.length : Int) then (slices_Equal_byte_byte.l0 k l0 l1 (l0.length : Int) 0) else (some false)) = some r := h
  clear h
  by_cases c3 : (l0.length : Int) = (l1.length : Int)
  · rw [if_pos c3] at H
    have c3b0 : ((l0.length : Int) == (l1.length : Int)) = true := beq_iff_eq.mpr c3
    have c3b1 : ((l0.length : Int) != (l1.length : Int)) = false := bne_eq_false_iff_eq.mpr c3
    have c3b2 : (l0.length == l1.length) = true := by first | simpa using c3 | (simp at c3 ⊢; omega)
    clear c3
    have H' := Aside0.mk H
    clear H
    go_enter Tryd.func11, Tryd.ntmps11
    go_wp2
    repeat (go_quiet (fail); try go_wp2)
    go_loopg [13] k (fun kq v13 w' => ∃ (x13_1 : Int), v13 = .int .i64 x13_1 ∧ Aside0 (slices_Equal_byte_byte.l0 kq l0 l1 (l0.length : Int) x13_1 = some r) ∧ Aside0 (kq ≤ k) ∧ Drawn0 w w')
    case atStart => exact ⟨(0), (by first | rfl | (simp; done) | (simp [*]; done)), H', ⟨Nat.le_refl _⟩, by repeat (first | exact Drawn0.refl _ | apply Drawn0.step)⟩
    case round =>
      clear H'
      try clear c1
      try clear p2
      try clear c3
      try clear c3b0
      try clear c3b1
      try clear c3b2
      obtain ⟨x13_1, rfl, HA, HK1, ⟨m1, rfl⟩⟩ := hrel
      cases gk with
      | zero => exact absurd HA.out (by simp [slices_Equal_byte_byte.l0])
      | succ k1 =>
        have H := HA.out
        clear HA
        simp only [slices_Equal_byte_byte.l0] at H
        by_cases c4 : x13_1 < (l0.length : Int)
        · rw [if_pos c4] at H
          have c4b0 : decide (x13_1 < (l0.length : Int)) = true := decide_eq_true c4
          clear c4
          by_cases c5 : 0 ≤ x13_1
          · rw [if_pos c5] at H
            have c5b0 : decide (0 ≤ x13_1) = true := decide_eq_true c5
            clear c5
            by_cases c6 : x13_1 < (l0.length : Int)
            · rw [if_pos c6] at H
              have c6b0 : decide (x13_1 < (l0.length : Int)) = true := decide_eq_true c6
              clear c6
              by_cases c7 : x13_1 < (l1.length : Int)
              · rw [if_pos c7] at H
                have c7b0 : decide (x13_1 < (l1.length : Int)) = true := decide_eq_true c7
                clear c7
                by_cases c8 : (rd l0 x13_1) = (rd l1 x13_1)
                · rw [if_pos c8] at H
                  have c8b0 : ((rd l0 x13_1) == (rd l1 x13_1)) = true := beq_iff_eq.mpr c8
                  have c8b1 : ((rd l0 x13_1) != (rd l1 x13_1)) = false := bne_eq_false_iff_eq.mpr c8
                  clear c8
                  have H' := Aside0.mk H
                  clear H
                  have p142 : 0 ≤ (x13_1 : Int) := of_decide_eq_true (by first | (with_reducible assumption) | assumption)
                  have q142 : x13_1 < (l0.length : Int) := of_decide_eq_true (by first | (with_reducible assumption) | assumption)
                  obtain ⟨ad142, e142, hx142_0⟩ := Kd.at_int HR0.out x13_1 p142 q142
                  cases e142
                  replace p142 := eq_true p142
                  replace q142 := eq_true q142
                  have p143 : 0 ≤ (x13_1 : Int) := of_decide_eq_true (by first | (with_reducible assumption) | assumption)
                  have q143 : x13_1 < (l1.length : Int) := of_decide_eq_true (by first | (with_reducible assumption) | assumption)
                  obtain ⟨ad143, e143, hx143_0⟩ := Kd.at_int HR1.out x13_1 p143 q143
                  cases e143
                  replace p143 := eq_true p143
                  replace q143 := eq_true q143
                  go_wp2
                  repeat (go_quiet (fail); try go_wp2)
                  go_roundg k1
                  case measure => have := HK1.out; omega
                  case rel => exact ⟨(wrap64 (x13_1 + 1)), (by first | rfl | (simp; done) | (simp [*]; done)), H', ⟨by have := HK1.out; omega⟩, by repeat (first | exact Drawn0.refl _ | apply Drawn0.step)⟩
                · rw [if_neg c8] at H
                  have c8b0 : ((rd l0 x13_1) == (rd l1 x13_1)) = false := beq_eq_false_iff_ne.mpr c8
                  have c8b1 : ((rd l0 x13_1) != (rd l1 x13_1)) = true := bne_iff_ne.mpr c8
                  obtain rfl := Option.some.inj H
                  have p142 : 0 ≤ (x13_1 : Int) := of_decide_eq_true (by first | (with_reducible assumption) | assumption)
                  have q142 : x13_1 < (l0.length : Int) := of_decide_eq_true (by first | (with_reducible assumption) | assumption)
                  obtain ⟨ad142, e142, hx142_0⟩ := Kd.at_int HR0.out x13_1 p142 q142
                  cases e142
                  replace p142 := eq_true p142
                  replace q142 := eq_true q142
                  have p143 : 0 ≤ (x13_1 : Int) := of_decide_eq_true (by first | (with_reducible assumption) | assumption)
                  have q143 : x13_1 < (l1.length : Int) := of_decide_eq_true (by first | (with_reducible assumption) | assumption)
                  obtain ⟨ad143, e143, hx143_0⟩ := Kd.at_int HR1.out x13_1 p143 q143
                  cases e143
                  replace p143 := eq_true p143
                  replace q143 := eq_true q143
                  go_wp2
                  repeat (go_quiet (fail); try go_wp2)
                  go_ret
                  exact ⟨by first | rfl | (simp; done) | (simp [*]; done), by repeat (first | exact Drawn0.refl _ | apply Drawn0.step)⟩
              · rw [if_neg c7] at H
                exact absurd H (by simp)
            · rw [if_neg c6] at H
              exact absurd H (by simp)
          · rw [if_neg c5] at H
            exact absurd H (by simp)
        · rw [if_neg c4] at H
          have c4b0 : decide (x13_1 < (l0.length : Int)) = false := decide_eq_false c4
          clear c4
          obtain rfl := Option.some.inj H
          go_wp2
          repeat (go_quiet (fail); try go_wp2)
          go_ret
          exact ⟨by first | rfl | (simp; done) | (simp [*]; done), by repeat (first | exact Drawn0.refl _ | apply Drawn0.step)⟩
  · rw [if_neg c3] at H
    have c3b0 : ((l0.length : Int) == (l1.length : Int)) = false := beq_eq_false_iff_ne.mpr c3
    have c3b1 : ((l0.length : Int) != (l1.length : Int)) = true := bne_iff_ne.mpr c3
    have c3b2 : (l0.length == l1.length) = false := by first | simpa using c3 | (simp at c3 ⊢; omega)
    obtain rfl := Option.some.inj H
    go_enter Tryd.func11, Tryd.ntmps11
    go_wp2
    repeat (go_quiet (fail); try go_wp2)
    go_ret
    exact ⟨by first | rfl | (simp; done) | (simp [*]; done), by repeat (first | exact Drawn0.refl _ | apply Drawn0.step)⟩

end Go.Proofs.YtcnabemeadnecaaDoor.PKnownClashes
