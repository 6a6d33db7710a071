-- written by prn.py, a program of this session, over the kit's printer
import Derived.Test.YtppbkljdeiegjaaPArrayRoadsx0
import Derived.Test.YtppbkljdeiegjaaPArrayRoadsx3
import Derived.Test.YtppbkljdeiegjaaPArrayRoadsx4
import Derived.Test.YtppbkljdeiegjaaPArrayRoadsx5
namespace Go.Proofs.Ytppbkljdeiegjaa.PArrayRoads
open Go.RowKit Go.Proofs.YtppbkljdeiegjaaW.PrintWords Go.Proofs.YtppbkljdeiegjaaW.PrintLast Go.Proofs.YtppbkljdeiegjaaW.PrintMore Go.Proofs.YtppbkljdeiegjaaW.PrintMine
attribute [local go_sem] max2_int min2_int max_two min_two max_three min_three max_four min_four   -- for this text's walks alone
set_option linter.unusedVariables false
set_option linter.unusedSimpArgs false

/-! ### array_Split: function 7 -/
set_option maxHeartbeats 4000000 in
set_option maxRecDepth 100000 in
/-- xor at a cut of a row of the call's own. -/
theorem xor_cut (g n cap at_ c0 c1 base : Nat) (ok : Nat → Prop) (A1 : Option Addr) (xs ys : List Int) (w : World) (hR : Kd.R (Kd.int .u8) 5 w base ok (.slice (some ⟨g, 0, none⟩) n cap) xs) (hy : ∀ W, w.grownBy W (some g) → Kd.C (Kd.int .u8) W A1 ys.length ys) (hc1 : ys.length ≤ c1) (hl : at_ + ys.length ≤ n) :
    Calls Try.prog 25 #[.slice (some ⟨g, at_, none⟩) ys.length c0, .slice A1 ys.length c1] w fun e w' => e = .returned (.tuple #[]) ∧ Kd.R (Kd.int .u8) 5 w' base ok (.slice (some ⟨g, 0, none⟩) n cap) (xorAt xs at_ ys) ∧ w.grownBy w' (some g) := by
  obtain ⟨hn, hnc, hC⟩ := Kd.R_reads' hR
  subst hn
  have HY := Aside0.mk hy
  have hyb : ys.length ≤ 9223372036854775807 := (hy w (World.grownBy.refl w _)).2.1
  have HR0 : Aside0 (Kd.R (Kd.int .u8) 5 w base ok (.slice (some ⟨g, 0, none⟩) xs.length cap) (xorAt xs at_ (ys.take 0))) := ⟨by rw [List.take_zero, xorAt_nil _ _ (by omega)]; exact hR⟩
  have hxb : xs.length ≤ 9223372036854775807 := hC.2.1
  clear hR hy hC
  go_enter Try.func25, Try.ntmps25
  go_wp2
  go_loopg [8] ys.length (fun gg s8 wr => ∃ kk : Nat, kk ≤ ys.length ∧ ys.length - kk ≤ gg ∧ s8 = .int .i64 kk ∧ Aside0 (Kd.R (Kd.int .u8) 5 wr base ok (.slice (some ⟨g, 0, none⟩) xs.length cap) (xorAt xs at_ (ys.take kk))) ∧ Aside0 (w.grownBy wr (some g)))
  case atStart => exact ⟨0, Nat.zero_le _, by omega, rfl, HR0, ⟨World.grownBy.refl w _⟩⟩
  case round =>
    obtain ⟨kk, hkk, hg, rfl, HR, HG⟩ := hrel
    by_cases hlt : kk < ys.length
    · have hltz : (kk : Int) < (ys.length : Int) := by omega
      have h0 : (0 : Int) ≤ (kk : Int) := by omega
      obtain ⟨ad, e0, z0⟩ := Kd.at_int (HY.out wr HG.out) (kk : Int) h0 hltz
      subst e0
      rw [Int.toNat_natCast] at z0
      have hrd : rd ys (kk : Int) = ys.getD kk 0 := by unfold rd; rw [Int.toNat_natCast]
      rw [hrd] at z0
      have hst := xorAt_succ xs at_ ys kk hlt hl
      obtain ⟨y0, f0⟩ := Kd.R_celln 0 HR.out ((at_ + kk : Nat) : Int) (by omega) (by omega)
      have hrd2 : rdOf 0 (xorAt xs at_ (ys.take kk)) ((at_ + kk : Nat) : Int) = (xorAt xs at_ (ys.take kk)).getD (at_ + kk) 0 := by unfold rdOf; rw [Int.toNat_natCast]
      rw [hrd2, Int.toNat_natCast] at y0
      rw [Int.toNat_natCast] at f0
      obtain ⟨p1, p2⟩ := Kd.R_putg HR.out ((at_ + kk : Nat) : Int) (bx ((xorAt xs at_ (ys.take kk)).getD (at_ + kk) 0) (ys.getD kk 0))
      rw [Int.toNat_natCast, ← hst] at p1
      rw [Int.toNat_natCast] at p2
      have HP1 := Aside0.mk p1
      have HP2 := Aside0.mk (HG.out.trans p2)
      have hbx : ∀ x y : Int, Go.bits .xor .u8 x y = bx x y := fun _ _ => rfl
      clear hrd hrd2 hst p1 p2
      generalize (xorAt xs at_ (ys.take kk)).getD (at_ + kk) 0 = vx at *
      generalize ys.getD kk 0 = vy at *
      go_wp2
      go_roundg (ys.length - (kk + 1))
      case measure => omega
      case rel => exact ⟨kk + 1, by omega, by omega, by go_num, HP1, HP2⟩
    · have hltz : ¬ (kk : Int) < (ys.length : Int) := by omega
      have hk : kk = ys.length := by omega
      have HZ : Aside0 (Kd.R (Kd.int .u8) 5 wr base ok (.slice (some ⟨g, 0, none⟩) xs.length cap) (xorAt xs at_ ys)) := ⟨by have h := HR.out; rwa [hk, List.take_length] at h⟩
      clear hlt hk
      go_wp2
      go_end0
      exact ⟨rfl, HZ.out, HG.out⟩
set_option maxHeartbeats 4000000 in
set_option maxRecDepth 100000 in
theorem array_Split.calls (rows : Nat) (a : Ar) (ha : a.Ok) (A1 : Option Addr) (c1 : Nat) (b : List Int) (w : World) (hr : Kd.C (Kd.int .u8) w A1 b.length b) (hc : b.length ≤ c1) (hb : b.length = rows * a.w * a.c) (hr1 : 1 ≤ rows) (hr4 : rows ≤ 4) :
    Calls Try.prog 7 #[.slice A1 b.length c1, .agg a.cs] w fun e w' => ∃ (g : Nat) (vs : List Value), e = .returned (.tuple #[.slice (some ⟨g, 0, none⟩) a.m a.m, .int .i64 0]) ∧ Mems w.heap.size w' g vs (splitL a b (rows * a.c) (rows * a.w)) ∧ Below w.heap.size w w' := by
  have HR := Aside0.mk hr
  have HC := Aside0.mk hc
  have HA := Aside0.mk ha
  obtain ⟨w1, w2⟩ := ha.w_le4
  obtain ⟨c1', c2'⟩ := ha.c_le
  obtain ⟨m1, m2⟩ := ha.m
  have hk3 := ha.k
  have hS1 : rows * a.c ≤ 4 * 128 := Nat.mul_le_mul hr4 c2'
  have hS0 : 1 * 64 ≤ rows * a.c := Nat.mul_le_mul hr1 c1'
  have hbw : b.length = rows * a.c * a.w := by rw [hb, Nat.mul_assoc, Nat.mul_comm a.w, ← Nat.mul_assoc]
  have hb2 : b.length ≤ 512 * 4 := by rw [hbw]; exact Nat.mul_le_mul hS1 w2
  have hcw : a.c * a.w ≤ 128 * 4 := Nat.mul_le_mul c2' w2
  have hcw0 : 1 * 1 ≤ a.c * a.w := Nat.mul_le_mul (by omega) w1
  have hSm : rows * a.c * a.m ≤ 512 * 4 := Nat.mul_le_mul hS1 m2
  have E1 : Aside0 (IntKind.i64.wrap ((a.c : Int) * (a.w : Int)) = ((a.c * a.w : Nat) : Int)) := ⟨by rw [i64_w, ← Int.natCast_mul, wrap_nat (by omega)]⟩
  have E2 : Aside0 (Int.tmod (b.length : Int) ((a.c * a.w : Nat) : Int) = 0) := ⟨by rw [tmod_nat, hbw, Nat.mul_assoc, Nat.mul_mod_left]; rfl⟩
  have E3 : Aside0 (Int.tdiv (b.length : Int) (a.w : Int) = ((rows * a.c : Nat) : Int)) := ⟨by rw [tdiv_nat, hbw, Nat.mul_div_cancel _ (by omega)]⟩
  have E4 : Aside0 (IntKind.i64.wrap (((rows * a.c : Nat) : Int) * (a.m : Int)) = ((rows * a.c * a.m : Nat) : Int)) := ⟨by rw [i64_w, ← Int.natCast_mul, wrap_nat (by omega)]⟩
  have hmm := print_make_of (P := Try.prog) 28 26 (.slice none 0 0) 24 Try.underlying28 info26b rfl (by decide) a.m (by omega)
  have hmS := print_make (P := Try.prog) 26 5 .u8 1 Try.underlying26 info5 (by decide) (rows * a.c) (by omega)
  have HCK : Aside0 (∀ W, Calls Try.prog 20 #[.agg #[.int .i64 a.k, .int .i64 a.m, .int .i64 a.ch, .bool a.lf]] W fun e w' => e = .returned (.int .i64 0) ∧ Below W.heap.size W w') := ⟨fun W => Ar.check_calls ha W⟩
  have HCH : Aside0 (∀ W, Calls Try.prog 21 #[.agg #[.int .i64 a.k, .int .i64 a.m, .int .i64 a.ch, .bool a.lf]] W fun e w' => e = .returned (.int .i64 a.c) ∧ Below W.heap.size W w') := ⟨fun W => Ar.chunk_calls ha W⟩
  have HWD : Aside0 (∀ W, Calls Try.prog 22 #[.agg #[.int .i64 a.k, .int .i64 a.m, .int .i64 a.ch, .bool a.lf]] W fun e w' => e = .returned (.int .i64 a.w) ∧ Below W.heap.size W w') := ⟨fun W => Ar.width_calls ha W⟩
  have HHB := Aside0.mk hb
  have HHW := Aside0.mk hbw
  obtain ⟨S, hS⟩ : ∃ S, rows * a.c = S := ⟨_, rfl⟩
  rw [hS] at E3 E4 hmS hS0 hS1 hSm
  obtain ⟨RW, hRW⟩ : ∃ R, a.c * a.w = R := ⟨_, rfl⟩
  rw [hRW] at E1 E2 hcw hcw0
  obtain ⟨SM, hSM⟩ : ∃ R, S * a.m = R := ⟨_, rfl⟩
  rw [hSM] at E4 hSm
  have hrwz : (1 : Int) ≤ (RW : Int) := by omega
  have E5 : Aside0 ((b.length : Int) % (RW : Int) = 0) := ⟨by have := E2.out; rwa [Int.tmod_eq_emod_of_nonneg (by omega)] at this⟩
  have HSE := Aside0.mk hS
  generalize hMM : madeCells #[.slice none 0 0] a.m = MM at hmm
  generalize hMS : madeCells #[.int .u8 0] S = MS at hmS
  have HMM := Aside0.mk hMM
  have HMS := Aside0.mk hMS
  clear hr hc ha hb hbw hS hMM hMS hRW hSM
  unfold Ar.cs
  go_enter Try.func7, Try.ntmps7
  go_upto_region 1 with (fail)
  obtain ⟨W0, hW0⟩ : ∃ W, W = w.alloc (.cells #[.int .i64 a.k, .int .i64 a.m, .int .i64 a.ch, .bool a.lf] 24) := ⟨_, rfl⟩
  obtain ⟨gx, hgx⟩ : ∃ g, g = w.heap.size := ⟨_, rfl⟩
  have BKX : Aside0 (W0.heap[gx]? = some (.cells #[.int .i64 a.k, .int .i64 a.m, .int .i64 a.ch, .bool a.lf] 24 (0, 0))) := ⟨by rw [hW0, hgx]; exact blk_new w _⟩
  have HB0 : Aside0 (Below w.heap.size w W0) := ⟨by rw [hW0]; exact below_alloc (Below.refl _ _) _⟩
  rw [← hW0, ← hgx]
  clear hW0 hgx
  obtain ⟨x0, x1, x2, x3⟩ := boxc BKX.out
  go_upto_region 4 with (go_at_call 20; refine (HCK.out _).mono ?_; rintro e w1 ⟨rfl, hb1⟩; have BK1 := Aside0.mk (blk_below BKX.out hb1); obtain ⟨y0, y1, y2, y3⟩ := boxc BK1.out; have HB1 := Aside0.mk (below_step HB0.out hb1); clear hb1)
  clear x0 x1 x2 x3 BKX HB0
  have e1 := E1.out
  have HKS : Aside0 (∀ w', Below w1.heap.size w1 w' → w'.cell? ⟨gx, 0, none⟩ = some (.int .i64 a.k) ∧ w'.cell? ⟨gx, 1, none⟩ = some (.int .i64 a.m) ∧ w'.cell? ⟨gx, 2, none⟩ = some (.int .i64 a.ch) ∧ w'.cell? ⟨gx, 3, none⟩ = some (.bool a.lf) ∧ Below w1.heap.size w1 w') := ⟨fun w' h => by
    obtain ⟨z0, z1, z2, z3⟩ := boxc (blk_below BK1.out h)
    exact ⟨z0, z1, z2, z3, h⟩⟩
  go_cut [7] (fun v7 wx => v7 = .int .i64 (RW : Int) ∧ Aside0 (Below w1.heap.size w1 wx))
  case first =>
    go_region_held3 (fun w' => w'.cell? ⟨gx, 0, none⟩ = some (.int .i64 a.k) ∧ w'.cell? ⟨gx, 1, none⟩ = some (.int .i64 a.m) ∧ w'.cell? ⟨gx, 2, none⟩ = some (.int .i64 a.ch) ∧ w'.cell? ⟨gx, 3, none⟩ = some (.bool a.lf) ∧ Below w1.heap.size w1 w') (first | exact HKS.out _ (by (repeat (first | assumption | exact Below.refl _ _ | apply below_drew1)))) (first | (go_at_call 21; refine (HCH.out _).mono ?_; rintro e w5 ⟨rfl, hb⟩; have hb5 : Below w1.heap.size w1 w5 := below_step (by (repeat (first | assumption | exact Below.refl _ _ | apply below_drew1))) hb; clear hb) | (go_at_call 22; refine (HWD.out _).mono ?_; rintro e w6 ⟨rfl, hb⟩; have hb6 : Below w1.heap.size w1 w6 := below_step (by (repeat (first | assumption | exact Below.refl _ _ | apply below_drew1))) hb; clear hb))
    all_goals
      go_wp2_with fail
      go_meet
      case rel => first | exact ⟨rfl, ⟨hb5⟩⟩ | exact ⟨rfl, ⟨hb6⟩⟩ | exact ⟨by rw [e1], ⟨hb5⟩⟩ | exact ⟨by rw [e1], ⟨hb6⟩⟩
  case rest =>
    obtain ⟨rfl, HB2⟩ := hcut
    clear HKS e1 y0 y1 y2 y3
    have HB3 : Aside0 (Below w.heap.size w wc) := ⟨below_step HB1.out HB2.out⟩
    have BK2 := Aside0.mk (blk_below BK1.out HB2.out)
    have e2 := E2.out
    have e5 := E5.out
    have hbz : (b.length : Int) ≤ 2048 := by omega
    go_upto_region 9 with (fail)
    clear e2 e5
    have e3 := E3.out
    have e4 := E4.out
    have hwz : (1 : Int) ≤ (a.w : Int) := by omega
    have hwb : ((a.w : Int) == 0) = false := beq_eq_false_iff_ne.2 (by omega)
    have hwn : ¬ (a.w : Int) = 0 := by omega
    have hwN : ¬ a.w = 0 := by omega
    have e3a : IntKind.i64.wrap (Int.tdiv (b.length : Int) (a.w : Int)) = (S : Int) := by rw [e3, i64_w, wrap_nat (by omega)]
    have e3b : (b.length : Int) / (a.w : Int) = (S : Int) := by rwa [Int.tdiv_eq_ediv_of_nonneg (by omega)] at e3
    have e3c : IntKind.i64.wrap ((b.length : Int) / (a.w : Int)) = (S : Int) := by rw [e3b, i64_w, wrap_nat (by omega)]
    have e6 : IntKind.i64.wrap (S : Int) = (S : Int) := by rw [i64_w, wrap_nat (by omega)]
    have hsmz : (SM : Int) ≤ 65536 := by omega
    obtain ⟨y0, y1, y2, y3⟩ := boxc BK2.out
    have HKS : Aside0 (∀ w', Below wc.heap.size wc w' → w'.cell? ⟨gx, 0, none⟩ = some (.int .i64 a.k) ∧ w'.cell? ⟨gx, 1, none⟩ = some (.int .i64 a.m) ∧ w'.cell? ⟨gx, 2, none⟩ = some (.int .i64 a.ch) ∧ w'.cell? ⟨gx, 3, none⟩ = some (.bool a.lf) ∧ Below wc.heap.size wc w') := ⟨fun w' h => by
      obtain ⟨z0, z1, z2, z3⟩ := boxc (blk_below BK2.out h)
      exact ⟨z0, z1, z2, z3, h⟩⟩
    go_cut [36] (fun v36 wx => v36 = .bool false ∧ Aside0 (Below wc.heap.size wc wx))
    case first =>
      go_region_held3 (fun w' => w'.cell? ⟨gx, 0, none⟩ = some (.int .i64 a.k) ∧ w'.cell? ⟨gx, 1, none⟩ = some (.int .i64 a.m) ∧ w'.cell? ⟨gx, 2, none⟩ = some (.int .i64 a.ch) ∧ w'.cell? ⟨gx, 3, none⟩ = some (.bool a.lf) ∧ Below wc.heap.size wc w') (first | exact HKS.out _ (by (repeat (first | assumption | exact Below.refl _ _ | apply below_drew1)))) (first | (go_at_call 22; refine (HWD.out _).mono ?_; rintro e w6 ⟨rfl, hb⟩; have hb6 : Below wc.heap.size wc w6 := below_step (by (repeat (first | assumption | exact Below.refl _ _ | apply below_drew1))) hb; clear hb))
      all_goals
        go_wp2_with fail
        go_meet
        case rel => first | exact ⟨rfl, ⟨hb6⟩⟩ | exact ⟨by rw [decide_eq_false (by omega)], ⟨hb6⟩⟩
    case rest =>
      obtain ⟨rfl, HB4⟩ := hcut
      clear HKS e6 e3 e4 e3a e3b e3c hwz hwb hwn hwN y0 y1 y2 y3 hsmz
      go_upto_region 11 with (fail)
      have BK3 := Aside0.mk (blk_below BK2.out HB4.out)
      have HB5 : Aside0 (Below w.heap.size w wc) := ⟨below_step HB3.out HB4.out⟩
      obtain ⟨y0, y1, y2, y3⟩ := boxc BK3.out
      clear BK1 BK2 HB1 HB2 HB3 HB4 E1 E2 E4 E5
      go_upto_region 12 with (fail)
      obtain ⟨W9, hW9⟩ : ∃ W, W = wc.alloc (.cells MM 26) := ⟨_, rfl⟩
      obtain ⟨gO, hgO⟩ : ∃ g, g = wc.heap.size := ⟨_, rfl⟩
      have MEM0 : Aside0 (Mems w.heap.size W9 gO (List.replicate a.m (.slice none 0 0)) (List.replicate a.m [])) := ⟨by rw [hW9, hgO, ← HMM.out]; exact Mems.made wc _ a.m HB5.out.size⟩
      have BK9 : Aside0 (W9.heap[gx]? = some (.cells #[.int .i64 a.k, .int .i64 a.m, .int .i64 a.ch, .bool a.lf] 24 (0, 0))) := ⟨by rw [hW9]; exact blk_below BK3.out (below_alloc (Below.refl _ _) _)⟩
      have HB9 : Aside0 (Below w.heap.size w W9) := ⟨by rw [hW9]; exact below_alloc HB5.out _⟩
      rw [← hW9, ← hgO]
      clear hW9 hgO y0 y1 y2 y3 BK3 HB5 hmm HMM
      go_wp2
      go_loopg [51] a.m (fun gg s51 wr => ∃ (kk : Nat) (vs : List Value), kk ≤ a.m ∧ a.m - kk ≤ gg ∧ s51 = .int .i64 kk ∧ Aside0 (Mems w.heap.size wr gO vs (List.replicate kk (List.replicate S 0) ++ List.replicate (a.m - kk) [])) ∧ Aside0 (wr.heap[gx]? = some (.cells #[.int .i64 a.k, .int .i64 a.m, .int .i64 a.ch, .bool a.lf] 24 (0, 0))) ∧ Aside0 (Below w.heap.size w wr))
      case atStart => exact ⟨0, _, Nat.zero_le _, by omega, rfl, by simpa using MEM0, BK9, HB9⟩
      case round =>
        obtain ⟨kk, vs, hkk, hg, rfl, MEM, BKX, HBW⟩ := hrel
        clear MEM0 BK9 HB9
        obtain ⟨y0, y1, y2, y3⟩ := boxc BKX.out
        by_cases hlt : kk < a.m
        · have hltz : (kk : Int) < (a.m : Int) := by omega
          have h0 : (0 : Int) ≤ (kk : Int) := by omega
          have hwn : ¬ (a.w : Int) = 0 := by omega
          have hwN : ¬ a.w = 0 := by omega
          have hwz : (1 : Int) ≤ (a.w : Int) := by omega
          have e3b : (b.length : Int) / (a.w : Int) = (S : Int) := by have := E3.out; rwa [Int.tdiv_eq_ediv_of_nonneg (by omega)] at this
          have hil : kk < (List.replicate kk (List.replicate S (0 : Int)) ++ List.replicate (a.m - kk) []).length := by rw [List.length_append, List.length_replicate, List.length_replicate]; omega
          have HPUT : Aside0 (∀ W, Below wr.heap.size wr W → (W.alloc (.cells MS 5)).cell? ⟨gO, kk, none⟩ = some (vs.getD kk (.bool false)) ∧ (W.alloc (.cells MS 5)).frozen? ⟨gO, kk, none⟩ = false ∧ Mems w.heap.size ((W.alloc (.cells MS 5)).setCell ⟨gO, kk, none⟩ (.slice (some ⟨W.heap.size, 0, none⟩) S S)) gO (vs.set kk (.slice (some ⟨W.heap.size, 0, none⟩) S S)) (List.replicate (kk + 1) (List.replicate S 0) ++ List.replicate (a.m - (kk + 1)) []) ∧ ((W.alloc (.cells MS 5)).setCell ⟨gO, kk, none⟩ (.slice (some ⟨W.heap.size, 0, none⟩) S S)).heap[gx]? = some (.cells #[.int .i64 a.k, .int .i64 a.m, .int .i64 a.ch, .bool a.lf] 24 (0, 0)) ∧ Below w.heap.size w ((W.alloc (.cells MS 5)).setCell ⟨gO, kk, none⟩ (.slice (some ⟨W.heap.size, 0, none⟩) S S))) := ⟨fun W hb => by
            have hM := MEM.out.below hb
            have hA := hM.below (below_alloc (Below.refl W.heap.size W) (.cells MS 5))
            obtain ⟨c1, c2⟩ := hA.cell hil
            have hF := hM.fresh hil (S := S) (by omega) (Nat.le_trans HBW.out.size hb.size)
            rw [HMS.out, rep_set _ _ _ _ hlt] at hF
            have hX := blk_below (blk_below BKX.out hb) (below_alloc (Below.refl W.heap.size W) (.cells MS 5))
            exact ⟨c1, c2, hF, (blk_far hX (fun (e : gx = gO) => by have h1 := hA.1; rw [← e, hX] at h1; simp at h1) _).trans rfl, (below_alloc (below_step HBW.out hb) _).setCell (by exact hM.2.1) _⟩⟩
          go_wp2_with (go_at_call 22; refine (HWD.out _).mono ?_; rintro e w5 ⟨rfl, hb⟩; obtain ⟨q1, q2, q3, q4, q5⟩ := HPUT.out _ hb; have HQ3 := Aside0.mk q3; have HQ4 := Aside0.mk q4; have HQ5 := Aside0.mk q5; clear q3 q4 q5 hb)
          go_roundg (a.m - (kk + 1))
          case measure => omega
          case rel => exact ⟨kk + 1, _, by omega, by omega, by go_num, HQ3, HQ4, HQ5⟩
        · have hk : kk = a.m := by omega
          have hltz : ¬ (kk : Int) < (a.m : Int) := by omega
          have MEM2 : Aside0 (Mems w.heap.size wr gO vs (splitL a b S 0)) := ⟨by have h := MEM.out; rw [hk, Nat.sub_self, List.replicate_zero, List.append_nil] at h; exact h⟩
          clear hlt hk MEM hmS HMS E3
          have hRowC : rows * a.w * a.c = b.length := by rw [HHB.out]
          go_wp2
          go_loopg [10] (rows * a.w) (fun gg s10 wr => ∃ q : Nat, q ≤ rows * a.w ∧ rows * a.w - q ≤ gg ∧ s10 = .int .i64 ((q * a.c : Nat) : Int) ∧ Aside0 (Mems w.heap.size wr gO vs (splitL a b S q)) ∧ Aside0 (wr.heap[gx]? = some (.cells #[.int .i64 a.k, .int .i64 a.m, .int .i64 a.ch, .bool a.lf] 24 (0, 0))) ∧ Aside0 (Below w.heap.size w wr))
          case atStart => exact ⟨0, Nat.zero_le _, by omega, by rw [Nat.zero_mul]; rfl, MEM2, BKX, HBW⟩
          case round =>
            obtain ⟨q, hqq, hg, rfl, MEM, BKX, HBW⟩ := hrel
            clear MEM2
            obtain ⟨y0, y1, y2, y3⟩ := boxc BKX.out
            by_cases hlt : q < rows * a.w
            · obtain ⟨hsl, hsi⟩ := split_get HA.out b rows HHB.out q hqq
              rw [HSE.out] at hsl hsi
              have hqw : q / a.w < rows := (Nat.div_lt_iff_lt_mul (by omega)).2 hlt
              have hat : (q / a.w + 1) * a.c ≤ rows * a.c := Nat.mul_le_mul_right _ hqw
              have hof : (q + 1) * a.c ≤ rows * a.w * a.c := Nat.mul_le_mul_right _ hlt
              rw [Nat.add_mul, Nat.one_mul] at hat hof
              rw [HSE.out] at hat
              rw [hRowC] at hof
              have hml := Ar.mem_lt HA.out q
              have hq5 : q ≤ 100000 := by
                have : rows * a.w ≤ 4 * 4 := Nat.mul_le_mul hr4 w2
                omega
              have HPL : Aside0 (∀ W, Calls Try.prog 23 #[.agg #[.int .i64 a.k, .int .i64 a.m, .int .i64 a.ch, .bool a.lf], .int .i64 ((q * a.c : Nat) : Int)] W fun e w' => e = .returned (.tuple #[.int .i64 (a.mem q), .int .i64 ((q / a.w * a.c : Nat) : Int)]) ∧ Below W.heap.size W w') := ⟨fun W => Ar.place_calls HA.out q 0 (by omega) hq5 W⟩
              have hdiv : q / a.w * a.c / a.c = q / a.w := Nat.mul_div_cancel _ (by omega)
              have hor := Ar.odd_calls HA.out (q / a.w) (by omega)
              have HSP : Aside0 (splitL a b S (q + 1) = stepS a b (splitL a b S q) q) := ⟨rfl⟩
              have HNX : Aside0 (((q * a.c : Nat) : Int) + (a.c : Int) = (((q + 1) * a.c : Nat) : Int)) := ⟨by rw [Nat.add_mul, Nat.one_mul, Int.natCast_add]⟩
              have hSM := fun (h : a.k = 1) => stepS_mirror b (splitL a b S q) q h
              have hSN := fun (h : a.k ≠ 1) (ho : a.odd (q / a.w) = none) => stepS_none b (splitL a b S q) q h ho
              have hSS := fun (h : a.k ≠ 1) (p : Nat) (ho : a.odd (q / a.w) = some p) => stepS_some b (splitL a b S q) q p h ho
              have hodd : ∀ p, a.odd (q / a.w) = some p → p < a.m := fun p e => Ar.odd_lt HA.out e
              have hk1 : a.k = 1 → a.odd (q / a.w) = none := fun e => by unfold Ar.odd; rw [if_neg (by omega)]
              have hnm : a.odd (q / a.w) ≠ some (a.mem q) := Ar.mem_odd q
              generalize hmem : splitL a b S q = mem at *
              clear hmem
              obtain ⟨off, hoff⟩ : ∃ o, q * a.c = o := ⟨_, rfl⟩
              obtain ⟨at_, hatt⟩ : ∃ o, q / a.w * a.c = o := ⟨_, rfl⟩
              obtain ⟨mm, hmm⟩ : ∃ o, a.mem q = o := ⟨_, rfl⟩
              have HOFF := Aside0.mk hoff
              rw [hoff] at HPL HNX hSM hSN hSS hof
              rw [hatt] at HPL hSM hSN hSS hat hdiv
              rw [hmm] at HPL hSM hSN hSS hml hnm
              have hod1 : a.oddI (q / a.w) = match a.odd (q / a.w) with | some p => (p : Int) | none => -1 := rfl
              obtain ⟨ox, hox⟩ : ∃ x, a.odd (q / a.w) = x := ⟨_, rfl⟩
              rw [hox] at hk1 hodd hnm hSN hSS hod1
              obtain ⟨OI, hOI⟩ : ∃ x, a.oddI (q / a.w) = x := ⟨_, rfl⟩
              rw [hOI] at hor hod1
              obtain ⟨qw, hqwe⟩ : ∃ x, q / a.w = x := ⟨_, rfl⟩
              rw [hqwe] at hor hdiv hqw
              have HOD : Aside0 (∀ W, Calls Try.prog 24 #[.agg #[.int .i64 a.k, .int .i64 a.m, .int .i64 a.ch, .bool a.lf], .int .i64 (qw : Int)] W fun e w' => e = .returned (.int .i64 OI) ∧ Below W.heap.size W w') := ⟨hor⟩
              clear hox hOI hqwe hor
              have hsp := HSP.out
              clear HSP
              generalize stepS a b mem q = mem' at *
              have HSP := Aside0.mk hsp
              clear hsp
              rw [hoff]
              clear hoff hatt hmm
              have hpl := part_len b off a.c hof
              obtain ⟨part, hpart⟩ : ∃ p, (b.drop off).take a.c = p := ⟨_, rfl⟩
              rw [hpart] at hSM hSN hSS hpl
              have HSMx := Aside0.mk hSM
              have HSNx := Aside0.mk hSN
              have HSSx := Aside0.mk hSS
              have HODD := Aside0.mk hodd
              have HK1 := Aside0.mk hk1
              have HNM := Aside0.mk hnm
              have HOD1 := Aside0.mk hod1
              clear hSM hSN hSS hodd hk1 hnm hod1
              have HPLN := Aside0.mk hpl
              have hoz : (off : Int) < (b.length : Int) := by omega
              -- the part
              obtain ⟨i5, hi5, _, hsz5, _⟩ := info_parts info5
              have hcm := cut_mid (P := Try.prog) 26 5 .i64 .i64 Try.underlying26 hi5 1 hsz5 A1 b.length c1 (off : Int) ((off : Int) + (a.c : Int)) (by omega) (by omega) (by omega) HC.out
              have hCP := Kd.C_mid (lo := off) (hi := off + a.c) (c := c1) HR.out (by omega) (by omega) HC.out
              rw [part_eq, hpart] at hCP
              obtain ⟨AP, hAP⟩ : ∃ A, (if c1 = (off : Int).toNat then A1 else A1.map (·.add ((off : Int).toNat * 1))) = A := ⟨_, rfl⟩
              rw [hAP] at hcm
              rw [show (if c1 = off then A1 else A1.map (·.add (off * (Kd.int .u8).sz))) = AP from hAP] at hCP
              rw [show ((off : Int) + (a.c : Int)).toNat - (off : Int).toNat = a.c by omega] at hcm
              rw [hpl] at hCP
              obtain ⟨cP, hcP⟩ : ∃ z, c1 - (off : Int).toNat = z := ⟨_, rfl⟩
              rw [hcP] at hcm
              have HCP := Aside0.mk hCP
              have HCPc : Aside0 (a.c ≤ cP) := ⟨by have := HC.out; omega⟩
              clear hCP hAP hcP hpart hi5 hsz5
              -- the member
              have hmi : mm < mem.length := by omega
              obtain ⟨cc0, ff0⟩ := MEM.out.cell hmi
              have HVS : Aside0 (∀ j, j < a.m → ∃ g c, vs.getD j (.bool false) = .slice (some ⟨g, 0, none⟩) S c ∧ S ≤ c) := ⟨fun j hj => by
                have hR := MEM.out.2.2.2.1 j (by omega)
                have hlj := (hsi j hj).1
                obtain ⟨g, c, e, -, -, -⟩ := Kd.R_form hR (by omega)
                rw [hlj] at e
                refine ⟨g, c, e, ?_⟩
                rw [e] at hR
                exact (Kd.R_reads' hR).2.1⟩
              have HSL := Aside0.mk hsl
              have HSI : Aside0 (∀ j, j < a.m → (mem.getD j []).length = S) := ⟨fun j hj => (hsi j hj).1⟩
              obtain ⟨gm, cm, hvm, hcS⟩ := HVS.out mm hml
              have hltS : (at_ : Int) < (S : Int) := by omega
              obtain ⟨i5, hi5, _, hsz5, _⟩ := info_parts info5
              have hcf := cut_from (P := Try.prog) 26 5 .i64 Try.underlying26 hi5 1 hsz5 (some ⟨gm, 0, none⟩) S cm (at_ : Int) (by omega) (by omega)
              rw [if_neg (by omega), show ((some (⟨gm, 0, none⟩ : Addr)).map (·.add ((at_ : Int).toNat * 1))) = some ⟨gm, at_, none⟩ by
                rw [Option.map_some, Nat.mul_one, Int.toNat_natCast, add_plain], show S - (at_ : Int).toNat = S - at_ by omega, show cm - (at_ : Int).toNat = cm - at_ by omega] at hcf
              clear hi5 hsz5 hsi hsl
              rw [hvm] at cc0
              have hmmz : (mm : Int) < (a.m : Int) := by omega
              have hmm0 : (0 : Int) ≤ (mm : Int) := by omega
              have HRM : Aside0 (Kd.R (Kd.int .u8) 5 wr w.heap.size (fun _ => True) (.slice (some ⟨gm, 0, none⟩) S cm) (mem.getD mm [])) := ⟨by have := MEM.out.2.2.2.1 mm hmi; rwa [hvm] at this⟩
              have HOWN : Aside0 ((vs.getD mm (.bool false)).ownBlock = some gm) := ⟨by rw [hvm]; rfl⟩
              have HVM := Aside0.mk hvm
              clear hvm
              go_upto_region 22 with (first | (go_at_call 23; refine (HPL.out _).mono ?_; rintro e w3 ⟨rfl, hb⟩; have BK3 := Aside0.mk (blk_below BKX.out hb); have HB3 := Aside0.mk hb; obtain ⟨v0, v1, v2, v3⟩ := boxc BK3.out; clear hb) | (go_at_call 21; refine (HCH.out _).mono ?_; rintro e w4 ⟨rfl, hb⟩; have BK4 := Aside0.mk (blk_below BK3.out hb); have HB4 := Aside0.mk (below_step HB3.out hb); clear hb))
              have MEM4 := Aside0.mk (MEM.out.below HB4.out)
              have HRM4 := Aside0.mk (Kd.R_below HRM.out HB4.out)
              have HBW4 : Aside0 (Below w.heap.size w w4) := ⟨below_step HBW.out HB4.out⟩
              have HCP4 := Aside0.mk (Kd.C_below HCP.out HBW4.out)
              obtain ⟨dd0, -⟩ := MEM4.out.cell hmi
              rw [HVM.out] at dd0
              clear y0 y1 y2 y3 v0 v1 v2 v3 cc0 ff0 BKX BK3 HB3 hcm HRM MEM
              have HPT : Aside0 (copyAt (mem.getD mm []) at_ part = putAt (mem.getD mm []) at_ part) := ⟨copyAt_put _ _ _ (by rw [HSI.out mm hml]; omega)⟩
              go_upto_region 23 with ((with_reducible refine gate_builtin (b := .copy) (xs := #[.tmp 90, .tmp 91]) rfl ?_); refine copy_at (h1 := fun _ => rfl) (enc := Value.int .u8) (0 : Int) (w0 := w) w.heap.size rfl (.tmp 90) (.tmp 91) 26 26 5 rfl Try.underlying26 size5b (n := S) (c := cm) (k := at_) (A0 := some ⟨gm, 0, none⟩) (ok := fun _ => True) (xs := mem.getD mm []) (ys := part) rfl rfl ?hA ?hnd ?hk HRM4.out HCP4.out HBW4.out HBW4.out.size ?_; (case hA => rw [if_neg (by omega), Option.map_some, Nat.mul_one, add_plain]); (case hnd => rfl); (case hk => omega); intro w5 ho hb5 hg5; rw [HPT.out] at ho; have MEM5 := Aside0.mk (MEM4.out.step hmi HOWN.out hg5 (by rw [HVM.out]; exact ho)); have BK5 := Aside0.mk (box_kept BK4.out HRM4.out (show (Value.slice (some ⟨gm, 0, none⟩) S cm).ownBlock = some gm from rfl) hg5); have HB5 := Aside0.mk hb5; have HCP5 := Aside0.mk (Kd.C_below HCP.out hb5); clear ho hb5 hg5)
              obtain ⟨v0, v1, v2, v3⟩ := boxc BK5.out
              have hml1 : (mem.set mm (putAt (mem.getD mm []) at_ part)).length = a.m := by rw [List.length_set, HSL.out]
              have HSI1 : Aside0 (∀ j, j < a.m → ((mem.set mm (putAt (mem.getD mm []) at_ part)).getD j []).length = S) := ⟨fun j hj => by
                rw [getD_set]
                split
                · rw [putAt_len _ _ _ (by rw [HSI.out mm hml]; omega), HSI.out mm hml]
                · exact HSI.out j hj⟩
              have HMP : Aside0 (∀ p, p ≠ mm → (mem.set mm (putAt (mem.getD mm []) at_ part)).getD p [] = mem.getD p []) := ⟨fun p hp => by rw [getD_set, if_neg (fun e => hp e.1.symm)]⟩
              have HKI1 := Aside0.mk hk3
              have HAT := Aside0.mk hat
              have hcz : (1 : Int) ≤ (a.c : Int) := by omega
              have hcN : ¬ a.c = 0 := by omega
              have hcn : ¬ (a.c : Int) = 0 := by omega
              have hd1 : Int.tdiv (at_ : Int) (a.c : Int) = (qw : Int) := by rw [tdiv_nat, hdiv]
              have hd2 : (at_ : Int) / (a.c : Int) = (qw : Int) := by rwa [Int.tdiv_eq_ediv_of_nonneg (by omega)] at hd1
              have hd5 : IntKind.i64.wrap (qw : Int) = (qw : Int) := by rw [i64_w, wrap_nat (by omega)]
              have hd3 : IntKind.i64.wrap (Int.tdiv (at_ : Int) (a.c : Int)) = (qw : Int) := by rw [hd1, i64_w, wrap_nat (by omega)]
              have hd4 : IntKind.i64.wrap ((at_ : Int) / (a.c : Int)) = (qw : Int) := by rw [hd2, i64_w, wrap_nat (by omega)]
              clear dd0 hcf hat hdiv MEM4 HRM4 HPT BK4
              generalize mem.set mm (putAt (mem.getD mm []) at_ part) = mem1 at *
              by_cases hk : a.k = 1
              · have hkz : ((a.k : Int) == 1) = true := by rw [hk]; rfl
                have hox : ox = none := HK1.out hk
                have HKK := Aside0.mk hk
                clear hk
                subst hox
                have hOI : OI = -1 := HOD1.out
                subst hOI
                have hML0 : Aside0 (Mems w.heap.size w5 gO vs ((mem1.take 0).map (fun x => putAt x at_ part) ++ mem1.drop 0)) := ⟨by simpa using MEM5.out⟩
                go_upto_region 24 with (fail)
                clear hkz
                clear v0 v1 v2 v3
                go_wp2
                go_loopg [98] a.m (fun gg s98 wr => ∃ jj : Nat, jj ≤ a.m ∧ a.m - jj ≤ gg ∧ s98 = .int .i64 jj ∧ Aside0 (Mems w.heap.size wr gO vs ((mem1.take jj).map (fun x => putAt x at_ part) ++ mem1.drop jj)) ∧ Aside0 (wr.heap[gx]? = some (.cells #[.int .i64 a.k, .int .i64 a.m, .int .i64 a.ch, .bool a.lf] 24 (0, 0))) ∧ Aside0 (Below w.heap.size w wr))
                case atStart => exact ⟨0, Nat.zero_le _, by omega, rfl, hML0, BK5, HB5⟩
                case round =>
                  obtain ⟨jj, hjj, hgj, rfl, MEMj, BKj, HBj⟩ := hrel
                  clear hML0
                  by_cases hltj : jj < a.m
                  · have hjz : (jj : Int) < (a.m : Int) := by omega
                    have hj0 : (0 : Int) ≤ (jj : Int) := by omega
                    have hj1 : jj < mem1.length := by omega
                    obtain ⟨ma1, ma2⟩ := map_at (fun x => putAt x at_ part) mem1 jj hj1
                    have mst := map_step (fun x => putAt x at_ part) mem1 jj hj1
                    have hj2 : jj < ((mem1.take jj).map (fun x => putAt x at_ part) ++ mem1.drop jj).length := by omega
                    obtain ⟨gj, cj, hvj, hcj⟩ := HVS.out jj hltj
                    obtain ⟨dj, -⟩ := MEMj.out.cell hj2
                    rw [hvj] at dj
                    have hRj : Kd.R (Kd.int .u8) 5 wr w.heap.size (fun _ => True) (.slice (some ⟨gj, 0, none⟩) S cj) (mem1.getD jj []) := by have := MEMj.out.2.2.2.1 jj hj2; rwa [hvj, ma1] at this
                    have HRJ := Aside0.mk hRj
                    have HOJ : Aside0 ((vs.getD jj (.bool false)).ownBlock = some gj) := ⟨by rw [hvj]; rfl⟩
                    have HVJ := Aside0.mk hvj
                    have HMA := Aside0.mk mst
                    have HCPj := Aside0.mk (Kd.C_below HCP.out HBj.out)
                    have HPTj : Aside0 (copyAt (mem1.getD jj []) at_ part = putAt (mem1.getD jj []) at_ part) := ⟨copyAt_put _ _ _ (by rw [HSI1.out jj hltj, HPLN.out]; have := HAT.out; omega)⟩
                    obtain ⟨i5, hi5, _, hsz5, _⟩ := info_parts info5
                    have hcf := cut_from (P := Try.prog) 26 5 .i64 Try.underlying26 hi5 1 hsz5 (some ⟨gj, 0, none⟩) S cj (at_ : Int) (by omega) (by omega)
                    rw [if_neg (by omega), show ((some (⟨gj, 0, none⟩ : Addr)).map (·.add ((at_ : Int).toNat * 1))) = some ⟨gj, at_, none⟩ by
                      rw [Option.map_some, Nat.mul_one, Int.toNat_natCast, add_plain], show S - (at_ : Int).toNat = S - at_ by omega, show cj - (at_ : Int).toNat = cj - at_ by omega] at hcf
                    have HJ2 := Aside0.mk hj2
                    clear hi5 hsz5 hvj hRj ma1 ma2 mst hj2
                    go_wp2_with ((with_reducible refine gate_builtin (b := .copy) (xs := #[.tmp 106, .tmp 107]) rfl ?_); refine copy_at (h1 := fun _ => rfl) (enc := Value.int .u8) (0 : Int) (w0 := w) w.heap.size rfl (.tmp 106) (.tmp 107) 26 26 5 rfl Try.underlying26 size5b (n := S) (c := cj) (k := at_) (A0 := some ⟨gj, 0, none⟩) (ok := fun _ => True) (xs := mem1.getD jj []) (ys := part) rfl rfl ?hA ?hnd ?hk HRJ.out HCPj.out HBj.out HBj.out.size ?_; (case hA => rw [if_neg (by omega), Option.map_some, Nat.mul_one, add_plain]); (case hnd => rfl); (case hk => omega); intro w6 ho hb6 hg6; rw [HPTj.out] at ho; have hM6 := MEMj.out.step HJ2.out HOJ.out hg6 (by rw [HVJ.out]; exact ho); rw [HMA.out] at hM6; have MEM6 := Aside0.mk hM6; have BK6 := Aside0.mk (box_kept BKj.out HRJ.out (show (Value.slice (some ⟨gj, 0, none⟩) S cj).ownBlock = some gj from rfl) hg6); have HB6 := Aside0.mk hb6; clear ho hM6 hb6 hg6)
                    go_roundg (a.m - (jj + 1))
                    case measure => omega
                    case rel => exact ⟨jj + 1, by omega, by omega, by go_num, MEM6, BK6, HB6⟩
                  · have hjz : ¬ (jj : Int) < (a.m : Int) := by omega
                    have hj : jj = a.m := by omega
                    have MEM7 : Aside0 (Mems w.heap.size wr gO vs (splitL a b S (q + 1))) := ⟨by have h := MEMj.out; rw [hj, List.take_of_length_le (by omega), List.drop_of_length_le (by omega), List.append_nil] at h; rw [HSP.out, HSMx.out HKK.out]; exact h⟩
                    clear MEMj hltj hj
                    obtain ⟨W7, hW7⟩ : ∃ W, W = wr := ⟨_, rfl⟩
                    subst hW7
                    go_upto_region 29 with (fail)
                    have HKS : Aside0 (∀ w', Below W7.heap.size W7 w' → w'.cell? ⟨gx, 0, none⟩ = some (.int .i64 a.k) ∧ w'.cell? ⟨gx, 1, none⟩ = some (.int .i64 a.m) ∧ w'.cell? ⟨gx, 2, none⟩ = some (.int .i64 a.ch) ∧ w'.cell? ⟨gx, 3, none⟩ = some (.bool a.lf) ∧ Below W7.heap.size W7 w') := ⟨fun w' h => by
                      obtain ⟨z0, z1, z2, z3⟩ := boxc (blk_below BKj.out h)
                      exact ⟨z0, z1, z2, z3, h⟩⟩
                    obtain ⟨y0, y1, y2, y3⟩ := boxc BKj.out
                    go_upto_region 29 with (fail)
                    go_cut [15] (fun v15 wx => v15 = .int .i64 (-1) ∧ Aside0 (Below W7.heap.size W7 wx))
                    case first =>
                      go_region_held3 (fun w' => w'.cell? ⟨gx, 0, none⟩ = some (.int .i64 a.k) ∧ w'.cell? ⟨gx, 1, none⟩ = some (.int .i64 a.m) ∧ w'.cell? ⟨gx, 2, none⟩ = some (.int .i64 a.ch) ∧ w'.cell? ⟨gx, 3, none⟩ = some (.bool a.lf) ∧ Below W7.heap.size W7 w') (first | exact HKS.out _ (by (repeat (first | assumption | exact Below.refl _ _ | apply below_drew1)))) (first | (go_at_call 21; (with_reducible refine (HCH.out _).mono ?_); rintro e wA ⟨rfl, hb⟩; have hb5 : Below W7.heap.size W7 wA := below_step (by (repeat (first | assumption | exact Below.refl _ _ | apply below_drew1))) hb; clear hb) | (go_at_call 24; (with_reducible refine (HOD.out _).mono ?_); rintro e wB ⟨rfl, hb⟩; have hb6 : Below W7.heap.size W7 wB := below_step (by (repeat (first | assumption | exact Below.refl _ _ | apply below_drew1))) hb; clear hb))
                      all_goals
                        go_wp2_with fail
                        go_meet
                        case rel => exact ⟨rfl, ⟨hb6⟩⟩
                    case rest =>
                      obtain ⟨rfl, HB29⟩ := hcut
                      have BK29 := Aside0.mk (blk_below BKj.out HB29.out)
                      clear HKS y0 y1 y2 y3
                      have MEM8 := Aside0.mk (MEM7.out.below HB29.out)
                      have BW8 : Aside0 (Below w.heap.size w wc) := ⟨below_step HBj.out HB29.out⟩
                      clear hd1 hd2 hd3 hd4 hd5
                      go_upto_region 19 with (fail)
                      obtain ⟨y0, y1, y2, y3⟩ := boxc BK29.out
                      go_wp2_with (go_at_call 21; refine (HCH.out _).mono ?_; rintro e w9 ⟨rfl, hb⟩; have MEM9 := Aside0.mk (MEM8.out.below hb); have BK9 := Aside0.mk (blk_below BK29.out hb); have BW9 := Aside0.mk (below_step BW8.out hb); clear hb)
                      go_roundg (rows * a.w - (q + 1))
                      case measure => omega
                      case rel => exact ⟨q + 1, by omega, by omega, by rw [HNX.out], MEM9, BK9, BW9⟩
              · have hkz : ((a.k : Int) == 1) = false := by simp; omega
                have hkN : ¬ (a.k : Int) = 1 := by omega
                cases ox with
                | none =>
                  have hOI : OI = -1 := HOD1.out
                  subst hOI
                  go_upto_region 29 with (fail)
                  have HKS : Aside0 (∀ w', Below w5.heap.size w5 w' → w'.cell? ⟨gx, 0, none⟩ = some (.int .i64 a.k) ∧ w'.cell? ⟨gx, 1, none⟩ = some (.int .i64 a.m) ∧ w'.cell? ⟨gx, 2, none⟩ = some (.int .i64 a.ch) ∧ w'.cell? ⟨gx, 3, none⟩ = some (.bool a.lf) ∧ Below w5.heap.size w5 w') := ⟨fun w' h => by
                    obtain ⟨z0, z1, z2, z3⟩ := boxc (blk_below BK5.out h)
                    exact ⟨z0, z1, z2, z3, h⟩⟩
                  obtain ⟨y0, y1, y2, y3⟩ := boxc BK5.out
                  go_upto_region 29 with (fail)
                  go_cut [15] (fun v15 wx => v15 = .int .i64 (-1) ∧ Aside0 (Below w5.heap.size w5 wx))
                  case first =>
                    go_region_held3 (fun w' => w'.cell? ⟨gx, 0, none⟩ = some (.int .i64 a.k) ∧ w'.cell? ⟨gx, 1, none⟩ = some (.int .i64 a.m) ∧ w'.cell? ⟨gx, 2, none⟩ = some (.int .i64 a.ch) ∧ w'.cell? ⟨gx, 3, none⟩ = some (.bool a.lf) ∧ Below w5.heap.size w5 w') (first | exact HKS.out _ (by (repeat (first | assumption | exact Below.refl _ _ | apply below_drew1)))) (first | (go_at_call 21; (with_reducible refine (HCH.out _).mono ?_); rintro e wA ⟨rfl, hb⟩; have hb5 : Below w5.heap.size w5 wA := below_step (by (repeat (first | assumption | exact Below.refl _ _ | apply below_drew1))) hb; clear hb) | (go_at_call 24; (with_reducible refine (HOD.out _).mono ?_); rintro e wB ⟨rfl, hb⟩; have hb6 : Below w5.heap.size w5 wB := below_step (by (repeat (first | assumption | exact Below.refl _ _ | apply below_drew1))) hb; clear hb))
                    all_goals
                      go_wp2_with fail
                      go_meet
                      case rel => exact ⟨rfl, ⟨hb6⟩⟩
                  case rest =>
                    obtain ⟨rfl, HB29⟩ := hcut
                    have BK29 := Aside0.mk (blk_below BK5.out HB29.out)
                    clear HKS y0 y1 y2 y3
                    have MEM6 : Aside0 (Mems w.heap.size wc gO vs (splitL a b S (q + 1))) := ⟨by rw [HSP.out, HSNx.out hk rfl]; exact MEM5.out.below HB29.out⟩
                    have BW6 : Aside0 (Below w.heap.size w wc) := ⟨below_step HB5.out HB29.out⟩
                    clear hd1 hd2 hd3 hd4 hd5 v0 v1 v2 v3
                    go_upto_region 19 with (fail)
                    obtain ⟨y0, y1, y2, y3⟩ := boxc BK29.out
                    go_wp2_with (go_at_call 21; refine (HCH.out _).mono ?_; rintro e w9 ⟨rfl, hb⟩; have MEM9 := Aside0.mk (MEM6.out.below hb); have BK9 := Aside0.mk (blk_below BK29.out hb); have BW9 := Aside0.mk (below_step BW6.out hb); clear hb)
                    go_roundg (rows * a.w - (q + 1))
                    case measure => omega
                    case rel => exact ⟨q + 1, by omega, by omega, by rw [HNX.out], MEM9, BK9, BW9⟩
                | some p =>
                  have hpm := HODD.out p rfl
                  have hpn : p ≠ mm := fun e => HNM.out (by rw [e])
                  have hOI : OI = (p : Int) := HOD1.out
                  subst hOI
                  go_upto_region 29 with (fail)
                  have HKS : Aside0 (∀ w', Below w5.heap.size w5 w' → w'.cell? ⟨gx, 0, none⟩ = some (.int .i64 a.k) ∧ w'.cell? ⟨gx, 1, none⟩ = some (.int .i64 a.m) ∧ w'.cell? ⟨gx, 2, none⟩ = some (.int .i64 a.ch) ∧ w'.cell? ⟨gx, 3, none⟩ = some (.bool a.lf) ∧ Below w5.heap.size w5 w') := ⟨fun w' h => by
                    obtain ⟨z0, z1, z2, z3⟩ := boxc (blk_below BK5.out h)
                    exact ⟨z0, z1, z2, z3, h⟩⟩
                  obtain ⟨y0, y1, y2, y3⟩ := boxc BK5.out
                  go_upto_region 29 with (fail)
                  go_cut [15] (fun v15 wx => v15 = .int .i64 (p : Int) ∧ Aside0 (Below w5.heap.size w5 wx))
                  case first =>
                    go_region_held3 (fun w' => w'.cell? ⟨gx, 0, none⟩ = some (.int .i64 a.k) ∧ w'.cell? ⟨gx, 1, none⟩ = some (.int .i64 a.m) ∧ w'.cell? ⟨gx, 2, none⟩ = some (.int .i64 a.ch) ∧ w'.cell? ⟨gx, 3, none⟩ = some (.bool a.lf) ∧ Below w5.heap.size w5 w') (first | exact HKS.out _ (by (repeat (first | assumption | exact Below.refl _ _ | apply below_drew1)))) (first | (go_at_call 21; (with_reducible refine (HCH.out _).mono ?_); rintro e wA ⟨rfl, hb⟩; have hb5 : Below w5.heap.size w5 wA := below_step (by (repeat (first | assumption | exact Below.refl _ _ | apply below_drew1))) hb; clear hb) | (go_at_call 24; (with_reducible refine (HOD.out _).mono ?_); rintro e wB ⟨rfl, hb⟩; have hb6 : Below w5.heap.size w5 wB := below_step (by (repeat (first | assumption | exact Below.refl _ _ | apply below_drew1))) hb; clear hb))
                    all_goals
                      go_wp2_with fail
                      go_meet
                      case rel => exact ⟨rfl, ⟨hb6⟩⟩
                  case rest =>
                    obtain ⟨rfl, HB29⟩ := hcut
                    have BK29 := Aside0.mk (blk_below BK5.out HB29.out)
                    clear HKS y0 y1 y2 y3
                    have MEM6 := Aside0.mk (MEM5.out.below HB29.out)
                    have BW6 : Aside0 (Below w.heap.size w wc) := ⟨below_step HB5.out HB29.out⟩
                    clear hd1 hd2 hd3 hd4 hd5 v0 v1 v2 v3 MEM5 HB5 BK5 HCP5
                    obtain ⟨gp, cp, hvp, hcp⟩ := HVS.out p hpm
                    have hpl1 : p < mem1.length := by omega
                    have hpz : (p : Int) < (a.m : Int) := by omega
                    have hp0 : (0 : Int) ≤ (p : Int) := by omega
                    have hRp : Kd.R (Kd.int .u8) 5 wc w.heap.size (fun _ => True) (.slice (some ⟨gp, 0, none⟩) S cp) (mem1.getD p []) := by have := MEM6.out.2.2.2.1 p hpl1; rwa [hvp] at this
                    have HRP := Aside0.mk hRp
                    have HOP : Aside0 ((vs.getD p (.bool false)).ownBlock = some gp) := ⟨by rw [hvp]; rfl⟩
                    have HPV := Aside0.mk hvp
                    obtain ⟨i5, hi5, _, hsz5, _⟩ := info_parts info5
                    have hcx := cut_mid (P := Try.prog) 26 5 .i64 .i64 Try.underlying26 hi5 1 hsz5 (some ⟨gp, 0, none⟩) S cp (at_ : Int) ((at_ : Int) + (a.c : Int)) (by omega) (by omega) (by have := HAT.out; omega) hcp
                    rw [if_neg (by have := HAT.out; omega), show ((some (⟨gp, 0, none⟩ : Addr)).map (·.add ((at_ : Int).toNat * 1))) = some ⟨gp, at_, none⟩ by
                      rw [Option.map_some, Nat.mul_one, Int.toNat_natCast, add_plain], show ((at_ : Int) + (a.c : Int)).toNat - (at_ : Int).toNat = a.c by omega, show cp - (at_ : Int).toNat = cp - at_ by omega] at hcx
                    have hs1 : IntKind.i64.wrap ((at_ : Int) + (a.c : Int)) = (at_ : Int) + (a.c : Int) := by have := HAT.out; rw [i64_w]; unfold wrap64; omega
                    have HCO : Aside0 (∀ W, Below wc.heap.size wc W → W.cell? ⟨gO, p, none⟩ = some (.slice (some ⟨gp, 0, none⟩) S cp)) := ⟨fun W hb => by have := ((MEM6.out.below hb).cell hpl1).1; rwa [HPV.out] at this⟩
                    have HXO : Aside0 (∀ W, Below wc.heap.size wc W → Calls Try.prog 25 #[.slice (some ⟨gp, at_, none⟩) a.c (cp - at_), .slice AP a.c cP] W fun e w' => e = .returned (.tuple #[]) ∧ Mems w.heap.size w' gO vs (splitL a b S (q + 1)) ∧ w'.heap[gx]? = some (.cells #[.int .i64 a.k, .int .i64 a.m, .int .i64 a.ch, .bool a.lf] 24 (0, 0)) ∧ Below w.heap.size w w') := ⟨fun W hb => by
                      have hbw := below_step BW6.out hb
                      have hR := Kd.R_below HRP.out hb
                      have hkp : (Value.slice (some ⟨gp, 0, none⟩) S cp).ownBlock = some gp := rfl
                      have hge := Kd.R_base hR gp rfl
                      have h := xor_cut gp S cp at_ (cp - at_) cP w.heap.size (fun _ => True) AP (mem1.getD p []) part W hR (fun W' hg => by
                        rw [HPLN.out]
                        exact Kd.C_below HCP.out (hbw.grown hg hbw.size (fun k hk => by injection hk with hk; omega))) (by rw [HPLN.out]; exact HCPc.out) (by rw [HPLN.out]; exact HAT.out)
                      rw [HPLN.out] at h
                      refine h.mono fun e w' ⟨h1, h2, h3⟩ => ⟨h1, ?_, box_kept (blk_below BK29.out hb) hR hkp h3, hbw.grown h3 hbw.size (fun k hk => by injection hk with hk; omega)⟩
                      have hM := (MEM6.out.below hb).step hpl1 HOP.out h3 (by rw [HPV.out]; exact h2)
                      rw [HSP.out, HSSx.out hk p rfl, ← HMP.out p hpn]
                      exact hM⟩
                    obtain ⟨y0, y1, y2, y3⟩ := boxc BK29.out
                    have cO := HCO.out wc (Below.refl _ _)
                    clear hvp hRp hi5 hsz5
                    go_upto_region 31 with (fail)
                    go_region_with (first | (go_at_call 21; (with_reducible refine (HCH.out _).mono ?_); rintro e wA ⟨rfl, hb⟩; have hbA : Below wc.heap.size wc wA := below_step (by (repeat (first | assumption | exact Below.refl _ _ | apply below_drew1))) hb; have cOA := HCO.out wA hbA; clear hb) | (go_at_call 25; (with_reducible refine (HXO.out _ ?hbx).mono ?_); (case hbx => (repeat (first | assumption | apply below_drew1))); rintro e w9 ⟨rfl, hm, hbx9, hw9⟩; have MEM9 := Aside0.mk hm; have BK9' := Aside0.mk hbx9; have BW9' := Aside0.mk hw9; clear hm hbx9 hw9))
                    all_goals
                      clear y0 y1 y2 y3 cO cOA hcx hs1
                      obtain ⟨y0, y1, y2, y3⟩ := boxc BK9'.out
                      go_wp2_with (go_at_call 21; refine (HCH.out _).mono ?_; rintro e wz ⟨rfl, hb⟩; have MEMz := Aside0.mk (MEM9.out.below hb); have BKz := Aside0.mk (blk_below BK9'.out hb); have BWz := Aside0.mk (below_step BW9'.out hb); clear hb)
                      go_roundg (rows * a.w - (q + 1))
                      case measure => omega
                      case rel => exact ⟨q + 1, by omega, by omega, by rw [HNX.out], MEMz, BKz, BWz⟩
            · have hq : q = rows * a.w := by omega
              have hnz : ¬ ((q * a.c : Nat) : Int) < (b.length : Int) := by rw [← hRowC, hq]; exact Int.lt_irrefl _
              have MEMf : Aside0 (Mems w.heap.size wr gO vs (splitL a b (rows * a.c) (rows * a.w))) := ⟨by have h := MEM.out; rwa [hq, ← HSE.out] at h⟩
              clear hlt hq MEM
              generalize q * a.c = off at *
              go_wp2
              go_ret2
              first | exact ⟨gO, rfl, ⟨vs, MEMf.out⟩, HBW.out⟩ | exact ⟨gO, rfl, vs, MEMf.out, HBW.out⟩ | exact ⟨gO, ⟨rfl, rfl⟩, ⟨vs, MEMf.out⟩, HBW.out⟩


/-! ### array_Place: function 17 -/
def array_Place.f (k : Nat) (a0_0 : Int) (a0_1 : Int) (a0_2 : Int) (a0_3 : Bool) (a1 : Int) : Option (Int × Int × Int) := (array_Check.f k a0_0 a0_1 a0_2 a0_3).bind fun t150 => (if t150 = 0 then (if a1 < 0 then (some (0, 0, 4)) else (if a1 ≥ 65536 then (some (0, 0, 4)) else ((array_place.f a0_0 a0_1 a0_2 a0_3 a1).bind fun bt151 => (some (bt151.1, bt151.2, 0))))) else (some (0, 0, t150)))
theorem array_Place.mono : ∀ a0 a1 a2 a3 a4 k, LeO (array_Place.f k a0 a1 a2 a3 a4) (array_Place.f (k + 1) a0 a1 a2 a3 a4) := by
  intro a0 a1 a2 a3 a4 k
  unfold array_Place.f
  repeat' first
      | (with_reducible exact array_Check.mono _ _ _ _ _)
      | (with_reducible exact LeO.refl _)
      | (with_reducible exact LeO.none _)
      | (with_reducible refine LeO.ite ?_ ?_)
      | (with_reducible refine LeO.bind ?_ (fun _ => ?_))
      | exact array_Check.mono _ _ _ _ _
      | exact LeO.none _
      | refine LeO.ite ?_ ?_
      | refine LeO.bind ?_ (fun _ => ?_)
set_option maxHeartbeats 8000000 in
set_option maxRecDepth 100000 in
theorem array_Place.calls (k : Nat) (a0_0 : Int) (a0_1 : Int) (a0_2 : Int) (a0_3 : Bool) (a1 : Int) (r1 : Int) (r2 : Int) (r3 : Int) (w : World) (h : array_Place.f k a0_0 a0_1 a0_2 a0_3 a1 = some (r1, r2, r3)) :
    Calls Try.prog 17 #[.agg #[.int .i64 a0_0, .int .i64 a0_1, .int .i64 a0_2, .bool a0_3], .int .i64 a1] w fun e w' => e = .returned (.tuple #[.int .i64 r1, .int .i64 r2, .int .i64 r3]) ∧ Below w.heap.size w w' := by
  have hu24 := Try.underlying24
  have HB := Aside0.mk (Below.refl w.heap.size w)
  have H : ((array_Check.f k a0_0 a0_1 a0_2 a0_3).bind fun t150 => (if t150 = 0 then (if a1 < 0 then (some (0, 0, 4)) else (if a1 ≥ 65536 then (some (0, 0, 4)) else ((array_place.f a0_0 a0_1 a0_2 a0_3 a1).bind fun bt151 => (some (bt151.1, bt151.2, 0))))) else (some (0, 0, t150)))) = some (r1, r2, r3) := h
  clear h
  replace H := Option.bind_eq_some_iff.mp H
  obtain ⟨t150, A30, H⟩ := H
  replace H : (if t150 = 0 then (if a1 < 0 then (some (0, 0, 4)) else (if a1 ≥ 65536 then (some (0, 0, 4)) else ((array_place.f a0_0 a0_1 a0_2 a0_3 a1).bind fun bt151 => (some (bt151.1, bt151.2, 0))))) else (some (0, 0, t150))) = some (r1, r2, r3) := H
  have A3 := Aside0.mk A30
  clear A30
  by_cases c4 : t150 = 0
  · rw [if_pos c4] at H
    have c4b0 : (t150 == 0) = true := beq_iff_eq.mpr c4
    have c4b1 : (t150 != 0) = false := bne_eq_false_iff_eq.mpr c4
    clear c4
    by_cases c5 : a1 < 0
    · rw [if_pos c5] at H
      have c5b0 : decide (a1 < 0) = true := decide_eq_true c5
      clear c5
      simp only [Option.some.injEq, Prod.mk.injEq] at H
      obtain ⟨rfl, rfl, rfl⟩ := H
      go_enter Try.func17, Try.ntmps17
      go_wp2_with (first | ((with_reducible refine gate_dst (N := 2) rfl ?_); refine box_event ?hg (N := 2) ?hd (cs := #[.int .i64 a0_0, .int .i64 a0_1, .int .i64 a0_2, .bool a0_3]) (t := 24) ?hr ?_; (case hd => rfl); (case hg => rfl); (case hr => first | (go_simp; done) | (go_simp; rfl)); intro gb149 hg w6 hbox hb; have n0_ := Aside0.mk (below_step (by repeat (first | (with_reducible first | exact HB.out | apply below_alloc | apply pw_below_drewN | apply below_drew1) | exact HB.out)) hb); have n1_ := Aside0.mk (hbox); have n2_ := Aside0.mk ((by rw [hg]; exact (below_size (by repeat (first | (with_reducible first | exact HB.out | apply below_alloc | apply pw_below_drewN | apply below_drew1) | exact HB.out))) : w.heap.size ≤ gb149)); have n3_ := Aside0.mk ((by rw [hg]; exact (below_size (by repeat (first | (with_reducible first | exact HB.out | apply below_alloc | apply pw_below_drewN | apply below_drew1) | exact HB.out))) : w.heap.size ≤ gb149)); clear HB; have HB := n0_; have BK149 := n1_; have GW149 := n2_; have GE149 := n3_; clear n0_ n1_ n2_ n3_; clear hb hbox hg; have hcz7_0 : w6.cell? ⟨gb149, 0, none⟩ = some (.int .i64 a0_0) := (blk_cell BK149.out 0).trans rfl; have hcz7_1 : w6.cell? ⟨gb149, 1, none⟩ = some (.int .i64 a0_1) := (blk_cell BK149.out 1).trans rfl; have hcz7_2 : w6.cell? ⟨gb149, 2, none⟩ = some (.int .i64 a0_2) := (blk_cell BK149.out 2).trans rfl; have hcz7_3 : w6.cell? ⟨gb149, 3, none⟩ = some (.bool a0_3) := (blk_cell BK149.out 3).trans rfl; have hfz7_0 := blk_frozen BK149.out 0; have hfz7_1 := blk_frozen BK149.out 1; have hfz7_2 := blk_frozen BK149.out 2; have hfz7_3 := blk_frozen BK149.out 3) | ((with_reducible refine gate_callee (f := 20) rfl ?_); refine goesL_ (some 11) rfl rfl Try.func20 (by kernel_rfl) rfl #[.agg #[.int .i64 a0_0, .int .i64 a0_1, .int .i64 a0_2, .bool a0_3]] rfl (by (try simp only [List.map_toArray, List.map_cons, List.map_nil]); first | done | rfl | (simp only [List.length_drop, List.length_take]; rfl)) ?_; (with_reducible refine (array_Check.calls k a0_0 a0_1 a0_2 a0_3 t150 _ A3.out).mono ?_); rintro e w8 ⟨rfl, hb⟩; refine ⟨_, rfl, ?_⟩; have n0_ := Aside0.mk (blk_below (g := gb149) (o := .cells #[.int .i64 a0_0, .int .i64 a0_1, .int .i64 a0_2, .bool a0_3] 24 (0, 0)) (by (with_reducible repeat (first | refine blk_drewN ?_ _ | refine blk_drew ?_ | refine blk_alloc ?_ _)); exact BK149.out) hb); have n1_ := Aside0.mk (below_step (by repeat (first | (with_reducible first | exact HB.out | apply below_alloc | apply pw_below_drewN | apply below_drew1 | refine below_set ?_ GE149.out) | exact HB.out)) hb); clear BK149; clear HB; have BK149 := n0_; have HB := n1_; clear n0_ n1_; (try clear hb); (try clear hb2); (try clear hk); (try clear hi)))
      go_ret3
      exact ⟨by first | rfl | (simp [errW_none, errW_some] <;> rfl) | (simp [*, errW_none, errW_some] <;> rfl), by repeat (first | (with_reducible first | exact HB.out | apply below_alloc | apply pw_below_drewN | apply below_drew1 | refine below_set ?_ GE149.out) | exact HB.out)⟩
    · rw [if_neg c5] at H
      have c5b0 : decide (a1 < 0) = false := decide_eq_false c5
      clear c5
      by_cases c9 : a1 ≥ 65536
      · rw [if_pos c9] at H
        have c9b0 : decide (65536 ≤ a1) = true := decide_eq_true c9
        clear c9
        simp only [Option.some.injEq, Prod.mk.injEq] at H
        obtain ⟨rfl, rfl, rfl⟩ := H
        go_enter Try.func17, Try.ntmps17
        go_wp2_with (first | ((with_reducible refine gate_dst (N := 2) rfl ?_); refine box_event ?hg (N := 2) ?hd (cs := #[.int .i64 a0_0, .int .i64 a0_1, .int .i64 a0_2, .bool a0_3]) (t := 24) ?hr ?_; (case hd => rfl); (case hg => rfl); (case hr => first | (go_simp; done) | (go_simp; rfl)); intro gb149 hg w10 hbox hb; have n0_ := Aside0.mk (below_step (by repeat (first | (with_reducible first | exact HB.out | apply below_alloc | apply pw_below_drewN | apply below_drew1) | exact HB.out)) hb); have n1_ := Aside0.mk (hbox); have n2_ := Aside0.mk ((by rw [hg]; exact (below_size (by repeat (first | (with_reducible first | exact HB.out | apply below_alloc | apply pw_below_drewN | apply below_drew1) | exact HB.out))) : w.heap.size ≤ gb149)); have n3_ := Aside0.mk ((by rw [hg]; exact (below_size (by repeat (first | (with_reducible first | exact HB.out | apply below_alloc | apply pw_below_drewN | apply below_drew1) | exact HB.out))) : w.heap.size ≤ gb149)); clear HB; have HB := n0_; have BK149 := n1_; have GW149 := n2_; have GE149 := n3_; clear n0_ n1_ n2_ n3_; clear hb hbox hg; have hcz11_0 : w10.cell? ⟨gb149, 0, none⟩ = some (.int .i64 a0_0) := (blk_cell BK149.out 0).trans rfl; have hcz11_1 : w10.cell? ⟨gb149, 1, none⟩ = some (.int .i64 a0_1) := (blk_cell BK149.out 1).trans rfl; have hcz11_2 : w10.cell? ⟨gb149, 2, none⟩ = some (.int .i64 a0_2) := (blk_cell BK149.out 2).trans rfl; have hcz11_3 : w10.cell? ⟨gb149, 3, none⟩ = some (.bool a0_3) := (blk_cell BK149.out 3).trans rfl; have hfz11_0 := blk_frozen BK149.out 0; have hfz11_1 := blk_frozen BK149.out 1; have hfz11_2 := blk_frozen BK149.out 2; have hfz11_3 := blk_frozen BK149.out 3) | ((with_reducible refine gate_callee (f := 20) rfl ?_); refine goesL_ (some 11) rfl rfl Try.func20 (by kernel_rfl) rfl #[.agg #[.int .i64 a0_0, .int .i64 a0_1, .int .i64 a0_2, .bool a0_3]] rfl (by (try simp only [List.map_toArray, List.map_cons, List.map_nil]); first | done | rfl | (simp only [List.length_drop, List.length_take]; rfl)) ?_; (with_reducible refine (array_Check.calls k a0_0 a0_1 a0_2 a0_3 t150 _ A3.out).mono ?_); rintro e w12 ⟨rfl, hb⟩; refine ⟨_, rfl, ?_⟩; have n0_ := Aside0.mk (blk_below (g := gb149) (o := .cells #[.int .i64 a0_0, .int .i64 a0_1, .int .i64 a0_2, .bool a0_3] 24 (0, 0)) (by (with_reducible repeat (first | refine blk_drewN ?_ _ | refine blk_drew ?_ | refine blk_alloc ?_ _)); exact BK149.out) hb); have n1_ := Aside0.mk (below_step (by repeat (first | (with_reducible first | exact HB.out | apply below_alloc | apply pw_below_drewN | apply below_drew1 | refine below_set ?_ GE149.out) | exact HB.out)) hb); clear BK149; clear HB; have BK149 := n0_; have HB := n1_; clear n0_ n1_; (try clear hb); (try clear hb2); (try clear hk); (try clear hi)))
        go_ret3
        exact ⟨by first | rfl | (simp [errW_none, errW_some] <;> rfl) | (simp [*, errW_none, errW_some] <;> rfl), by repeat (first | (with_reducible first | exact HB.out | apply below_alloc | apply pw_below_drewN | apply below_drew1 | refine below_set ?_ GE149.out) | exact HB.out)⟩
      · rw [if_neg c9] at H
        have c9b0 : decide (65536 ≤ a1) = false := decide_eq_false c9
        clear c9
        replace H := Option.bind_eq_some_iff.mp H
        obtain ⟨⟨t151, t152⟩, A130, H⟩ := H
        replace H : (some (t151, t152, 0)) = some (r1, r2, r3) := H
        have A13 := Aside0.mk A130
        clear A130
        simp only [Option.some.injEq, Prod.mk.injEq] at H
        obtain ⟨rfl, rfl, rfl⟩ := H
        go_enter Try.func17, Try.ntmps17
        go_wp2_with (first | ((with_reducible refine gate_dst (N := 2) rfl ?_); refine box_event ?hg (N := 2) ?hd (cs := #[.int .i64 a0_0, .int .i64 a0_1, .int .i64 a0_2, .bool a0_3]) (t := 24) ?hr ?_; (case hd => rfl); (case hg => rfl); (case hr => first | (go_simp; done) | (go_simp; rfl)); intro gb149 hg w14 hbox hb; have n0_ := Aside0.mk (below_step (by repeat (first | (with_reducible first | exact HB.out | apply below_alloc | apply pw_below_drewN | apply below_drew1) | exact HB.out)) hb); have n1_ := Aside0.mk (hbox); have n2_ := Aside0.mk ((by rw [hg]; exact (below_size (by repeat (first | (with_reducible first | exact HB.out | apply below_alloc | apply pw_below_drewN | apply below_drew1) | exact HB.out))) : w.heap.size ≤ gb149)); have n3_ := Aside0.mk ((by rw [hg]; exact (below_size (by repeat (first | (with_reducible first | exact HB.out | apply below_alloc | apply pw_below_drewN | apply below_drew1) | exact HB.out))) : w.heap.size ≤ gb149)); clear HB; have HB := n0_; have BK149 := n1_; have GW149 := n2_; have GE149 := n3_; clear n0_ n1_ n2_ n3_; clear hb hbox hg; have hcz15_0 : w14.cell? ⟨gb149, 0, none⟩ = some (.int .i64 a0_0) := (blk_cell BK149.out 0).trans rfl; have hcz15_1 : w14.cell? ⟨gb149, 1, none⟩ = some (.int .i64 a0_1) := (blk_cell BK149.out 1).trans rfl; have hcz15_2 : w14.cell? ⟨gb149, 2, none⟩ = some (.int .i64 a0_2) := (blk_cell BK149.out 2).trans rfl; have hcz15_3 : w14.cell? ⟨gb149, 3, none⟩ = some (.bool a0_3) := (blk_cell BK149.out 3).trans rfl; have hfz15_0 := blk_frozen BK149.out 0; have hfz15_1 := blk_frozen BK149.out 1; have hfz15_2 := blk_frozen BK149.out 2; have hfz15_3 := blk_frozen BK149.out 3) | ((with_reducible refine gate_callee (f := 20) rfl ?_); refine goesL_ (some 11) rfl rfl Try.func20 (by kernel_rfl) rfl #[.agg #[.int .i64 a0_0, .int .i64 a0_1, .int .i64 a0_2, .bool a0_3]] rfl (by (try simp only [List.map_toArray, List.map_cons, List.map_nil]); first | done | rfl | (simp only [List.length_drop, List.length_take]; rfl)) ?_; (with_reducible refine (array_Check.calls k a0_0 a0_1 a0_2 a0_3 t150 _ A3.out).mono ?_); rintro e w16 ⟨rfl, hb⟩; refine ⟨_, rfl, ?_⟩; have n0_ := Aside0.mk (blk_below (g := gb149) (o := .cells #[.int .i64 a0_0, .int .i64 a0_1, .int .i64 a0_2, .bool a0_3] 24 (0, 0)) (by (with_reducible repeat (first | refine blk_drewN ?_ _ | refine blk_drew ?_ | refine blk_alloc ?_ _)); exact BK149.out) hb); have n1_ := Aside0.mk (below_step (by repeat (first | (with_reducible first | exact HB.out | apply below_alloc | apply pw_below_drewN | apply below_drew1 | refine below_set ?_ GE149.out) | exact HB.out)) hb); clear BK149; clear HB; have BK149 := n0_; have HB := n1_; clear n0_ n1_; (try clear hb); (try clear hb2); (try clear hk); (try clear hi); have hcz17_0 : w16.cell? ⟨gb149, 0, none⟩ = some (.int .i64 a0_0) := (blk_cell BK149.out 0).trans rfl; have hcz17_1 : w16.cell? ⟨gb149, 1, none⟩ = some (.int .i64 a0_1) := (blk_cell BK149.out 1).trans rfl; have hcz17_2 : w16.cell? ⟨gb149, 2, none⟩ = some (.int .i64 a0_2) := (blk_cell BK149.out 2).trans rfl; have hcz17_3 : w16.cell? ⟨gb149, 3, none⟩ = some (.bool a0_3) := (blk_cell BK149.out 3).trans rfl; have hfz17_0 := blk_frozen BK149.out 0; have hfz17_1 := blk_frozen BK149.out 1; have hfz17_2 := blk_frozen BK149.out 2; have hfz17_3 := blk_frozen BK149.out 3) | ((with_reducible refine gate_callee (f := 23) rfl ?_); refine goesL_ (some 24) rfl rfl Try.func23 (by kernel_rfl) rfl #[.agg #[.int .i64 a0_0, .int .i64 a0_1, .int .i64 a0_2, .bool a0_3], .int .i64 a1] rfl (by (try simp only [List.map_toArray, List.map_cons, List.map_nil]); first | done | rfl | (simp only [List.length_drop, List.length_take]; rfl)) ?_; (with_reducible refine (array_place.calls a0_0 a0_1 a0_2 a0_3 a1 t151 t152 _ A13.out).mono ?_); rintro e w18 ⟨rfl, hb⟩; refine ⟨_, rfl, ?_⟩; have n0_ := Aside0.mk (blk_below (g := gb149) (o := .cells #[.int .i64 a0_0, .int .i64 a0_1, .int .i64 a0_2, .bool a0_3] 24 (0, 0)) (by (with_reducible repeat (first | refine blk_drewN ?_ _ | refine blk_drew ?_ | refine blk_alloc ?_ _)); exact BK149.out) hb); have n1_ := Aside0.mk (below_step (by repeat (first | (with_reducible first | exact HB.out | apply below_alloc | apply pw_below_drewN | apply below_drew1 | refine below_set ?_ GE149.out) | exact HB.out)) hb); clear BK149; clear HB; have BK149 := n0_; have HB := n1_; clear n0_ n1_; (try clear hb); (try clear hb2); (try clear hk); (try clear hi)))
        go_ret3
        exact ⟨by first | rfl | (simp [errW_none, errW_some] <;> rfl) | (simp [*, errW_none, errW_some] <;> rfl), by repeat (first | (with_reducible first | exact HB.out | apply below_alloc | apply pw_below_drewN | apply below_drew1 | refine below_set ?_ GE149.out) | exact HB.out)⟩
  · rw [if_neg c4] at H
    have c4b0 : (t150 == 0) = false := beq_eq_false_iff_ne.mpr c4
    have c4b1 : (t150 != 0) = true := bne_iff_ne.mpr c4
    simp only [Option.some.injEq, Prod.mk.injEq] at H
    obtain ⟨rfl, rfl, rfl⟩ := H
    go_enter Try.func17, Try.ntmps17
    go_wp2_with (first | ((with_reducible refine gate_dst (N := 2) rfl ?_); refine box_event ?hg (N := 2) ?hd (cs := #[.int .i64 a0_0, .int .i64 a0_1, .int .i64 a0_2, .bool a0_3]) (t := 24) ?hr ?_; (case hd => rfl); (case hg => rfl); (case hr => first | (go_simp; done) | (go_simp; rfl)); intro gb149 hg w19 hbox hb; have n0_ := Aside0.mk (below_step (by repeat (first | (with_reducible first | exact HB.out | apply below_alloc | apply pw_below_drewN | apply below_drew1) | exact HB.out)) hb); have n1_ := Aside0.mk (hbox); have n2_ := Aside0.mk ((by rw [hg]; exact (below_size (by repeat (first | (with_reducible first | exact HB.out | apply below_alloc | apply pw_below_drewN | apply below_drew1) | exact HB.out))) : w.heap.size ≤ gb149)); have n3_ := Aside0.mk ((by rw [hg]; exact (below_size (by repeat (first | (with_reducible first | exact HB.out | apply below_alloc | apply pw_below_drewN | apply below_drew1) | exact HB.out))) : w.heap.size ≤ gb149)); clear HB; have HB := n0_; have BK149 := n1_; have GW149 := n2_; have GE149 := n3_; clear n0_ n1_ n2_ n3_; clear hb hbox hg; have hcz20_0 : w19.cell? ⟨gb149, 0, none⟩ = some (.int .i64 a0_0) := (blk_cell BK149.out 0).trans rfl; have hcz20_1 : w19.cell? ⟨gb149, 1, none⟩ = some (.int .i64 a0_1) := (blk_cell BK149.out 1).trans rfl; have hcz20_2 : w19.cell? ⟨gb149, 2, none⟩ = some (.int .i64 a0_2) := (blk_cell BK149.out 2).trans rfl; have hcz20_3 : w19.cell? ⟨gb149, 3, none⟩ = some (.bool a0_3) := (blk_cell BK149.out 3).trans rfl; have hfz20_0 := blk_frozen BK149.out 0; have hfz20_1 := blk_frozen BK149.out 1; have hfz20_2 := blk_frozen BK149.out 2; have hfz20_3 := blk_frozen BK149.out 3) | ((with_reducible refine gate_callee (f := 20) rfl ?_); refine goesL_ (some 11) rfl rfl Try.func20 (by kernel_rfl) rfl #[.agg #[.int .i64 a0_0, .int .i64 a0_1, .int .i64 a0_2, .bool a0_3]] rfl (by (try simp only [List.map_toArray, List.map_cons, List.map_nil]); first | done | rfl | (simp only [List.length_drop, List.length_take]; rfl)) ?_; (with_reducible refine (array_Check.calls k a0_0 a0_1 a0_2 a0_3 t150 _ A3.out).mono ?_); rintro e w21 ⟨rfl, hb⟩; refine ⟨_, rfl, ?_⟩; have n0_ := Aside0.mk (blk_below (g := gb149) (o := .cells #[.int .i64 a0_0, .int .i64 a0_1, .int .i64 a0_2, .bool a0_3] 24 (0, 0)) (by (with_reducible repeat (first | refine blk_drewN ?_ _ | refine blk_drew ?_ | refine blk_alloc ?_ _)); exact BK149.out) hb); have n1_ := Aside0.mk (below_step (by repeat (first | (with_reducible first | exact HB.out | apply below_alloc | apply pw_below_drewN | apply below_drew1 | refine below_set ?_ GE149.out) | exact HB.out)) hb); clear BK149; clear HB; have BK149 := n0_; have HB := n1_; clear n0_ n1_; (try clear hb); (try clear hb2); (try clear hk); (try clear hi)))
    go_ret3
    exact ⟨by first | rfl | (simp [errW_none, errW_some] <;> rfl) | (simp [*, errW_none, errW_some] <;> rfl), by repeat (first | (with_reducible first | exact HB.out | apply below_alloc | apply pw_below_drewN | apply below_drew1 | refine below_set ?_ GE149.out) | exact HB.out)⟩

/-! ### wrackkeep1_arrays: function 8 -/
def wrackkeep1_arrays.f (k : Nat)  : Option (Bool) := (array_Place.f k 0 2 1 false 64).bind fun bt153 => (if bt153.1 = 1 then (if bt153.2.1 = 0 then (some (bt153.2.2 == 0)) else (some false)) else (some false))
theorem wrackkeep1_arrays.mono : ∀ k, LeO (wrackkeep1_arrays.f k ) (wrackkeep1_arrays.f (k + 1) ) := by
  intro  k
  unfold wrackkeep1_arrays.f
  repeat' first
      | (with_reducible exact array_Place.mono _ _ _ _ _ _)
      | (with_reducible exact LeO.refl _)
      | (with_reducible exact LeO.none _)
      | (with_reducible refine LeO.ite ?_ ?_)
      | (with_reducible refine LeO.bind ?_ (fun _ => ?_))
      | exact array_Place.mono _ _ _ _ _ _
      | exact LeO.none _
      | refine LeO.ite ?_ ?_
      | refine LeO.bind ?_ (fun _ => ?_)
set_option maxHeartbeats 8000000 in
set_option maxRecDepth 100000 in
theorem wrackkeep1_arrays.calls (k : Nat)  (r : Bool) (w : World) (h : wrackkeep1_arrays.f k  = some r) :
    Calls Try.prog 8 #[] w fun e w' => e = .returned (.bool r) ∧ Below w.heap.size w w' := by
  have hu24 := Try.underlying24
  have HB := Aside0.mk (Below.refl w.heap.size w)
  have H : ((array_Place.f k 0 2 1 false 64).bind fun bt153 => (if bt153.1 = 1 then (if bt153.2.1 = 0 then (some (bt153.2.2 == 0)) else (some false)) else (some false))) = some r := h
  clear h
  replace H := Option.bind_eq_some_iff.mp H
  obtain ⟨⟨t153, t154, t155⟩, A10, H⟩ := H
  replace H : (if t153 = 1 then (if t154 = 0 then (some (t155 == 0)) else (some false)) else (some false)) = some r := H
  have A1 := Aside0.mk A10
  clear A10
  by_cases c2 : t153 = 1
  · rw [if_pos c2] at H
    have c2b0 : (t153 == 1) = true := beq_iff_eq.mpr c2
    have c2b1 : (t153 != 1) = false := bne_eq_false_iff_eq.mpr c2
    clear c2
    by_cases c3 : t154 = 0
    · rw [if_pos c3] at H
      have c3b0 : (t154 == 0) = true := beq_iff_eq.mpr c3
      have c3b1 : (t154 != 0) = false := bne_eq_false_iff_eq.mpr c3
      clear c3
      obtain rfl := Option.some.inj H
      go_enter Try.func8, Try.ntmps8
      go_wp2_with (first | ((with_reducible refine gate_callee (f := 17) rfl ?_); refine goesL_ (some 6) rfl rfl Try.func17 (by kernel_rfl) rfl #[.agg #[.int .i64 0, .int .i64 2, .int .i64 1, .bool false], .int .i64 64] rfl (by (try simp only [List.map_toArray, List.map_cons, List.map_nil]); first | done | rfl | (simp only [List.length_drop, List.length_take]; rfl)) ?_; (with_reducible refine (array_Place.calls k 0 2 1 false 64 t153 t154 t155 _ A1.out).mono ?_); rintro e w4 ⟨rfl, hb⟩; refine ⟨_, rfl, ?_⟩; have n0_ := Aside0.mk (below_step (by repeat (first | (with_reducible first | exact HB.out | apply below_alloc | apply pw_below_drewN | apply below_drew1) | exact HB.out)) hb); clear HB; have HB := n0_; clear n0_; (try clear hb); (try clear hb2); (try clear hk); (try clear hi)))
      go_ret
      exact ⟨by first | rfl | (simp [errW_none, errW_some] <;> rfl) | (simp [*, errW_none, errW_some] <;> rfl), by repeat (first | (with_reducible first | exact HB.out | apply below_alloc | apply pw_below_drewN | apply below_drew1) | exact HB.out)⟩
    · rw [if_neg c3] at H
      have c3b0 : (t154 == 0) = false := beq_eq_false_iff_ne.mpr c3
      have c3b1 : (t154 != 0) = true := bne_iff_ne.mpr c3
      obtain rfl := Option.some.inj H
      go_enter Try.func8, Try.ntmps8
      go_wp2_with (first | ((with_reducible refine gate_callee (f := 17) rfl ?_); refine goesL_ (some 6) rfl rfl Try.func17 (by kernel_rfl) rfl #[.agg #[.int .i64 0, .int .i64 2, .int .i64 1, .bool false], .int .i64 64] rfl (by (try simp only [List.map_toArray, List.map_cons, List.map_nil]); first | done | rfl | (simp only [List.length_drop, List.length_take]; rfl)) ?_; (with_reducible refine (array_Place.calls k 0 2 1 false 64 t153 t154 t155 _ A1.out).mono ?_); rintro e w5 ⟨rfl, hb⟩; refine ⟨_, rfl, ?_⟩; have n0_ := Aside0.mk (below_step (by repeat (first | (with_reducible first | exact HB.out | apply below_alloc | apply pw_below_drewN | apply below_drew1) | exact HB.out)) hb); clear HB; have HB := n0_; clear n0_; (try clear hb); (try clear hb2); (try clear hk); (try clear hi)))
      go_ret
      exact ⟨by first | rfl | (simp [errW_none, errW_some] <;> rfl) | (simp [*, errW_none, errW_some] <;> rfl), by repeat (first | (with_reducible first | exact HB.out | apply below_alloc | apply pw_below_drewN | apply below_drew1) | exact HB.out)⟩
  · rw [if_neg c2] at H
    have c2b0 : (t153 == 1) = false := beq_eq_false_iff_ne.mpr c2
    have c2b1 : (t153 != 1) = true := bne_iff_ne.mpr c2
    obtain rfl := Option.some.inj H
    go_enter Try.func8, Try.ntmps8
    go_wp2_with (first | ((with_reducible refine gate_callee (f := 17) rfl ?_); refine goesL_ (some 6) rfl rfl Try.func17 (by kernel_rfl) rfl #[.agg #[.int .i64 0, .int .i64 2, .int .i64 1, .bool false], .int .i64 64] rfl (by (try simp only [List.map_toArray, List.map_cons, List.map_nil]); first | done | rfl | (simp only [List.length_drop, List.length_take]; rfl)) ?_; (with_reducible refine (array_Place.calls k 0 2 1 false 64 t153 t154 t155 _ A1.out).mono ?_); rintro e w6 ⟨rfl, hb⟩; refine ⟨_, rfl, ?_⟩; have n0_ := Aside0.mk (below_step (by repeat (first | (with_reducible first | exact HB.out | apply below_alloc | apply pw_below_drewN | apply below_drew1) | exact HB.out)) hb); clear HB; have HB := n0_; clear n0_; (try clear hb); (try clear hb2); (try clear hk); (try clear hi)))
    go_ret
    exact ⟨by first | rfl | (simp [errW_none, errW_some] <;> rfl) | (simp [*, errW_none, errW_some] <;> rfl), by repeat (first | (with_reducible first | exact HB.out | apply below_alloc | apply pw_below_drewN | apply below_drew1) | exact HB.out)⟩

/-! ### span_Check: function 36 -/
def span_Check.f (a0_0 : Int) (a0_1 : Int) : Option (Int) := if a0_0 < 0 then (some 4) else (if a0_1 < 0 then (some 4) else (if a0_1 > 65536 then (some 4) else (if a0_0 > (wrap64 (65536 - a0_1)) then (some 4) else (some 0))))
set_option maxHeartbeats 8000000 in
set_option maxRecDepth 100000 in
theorem span_Check.calls (a0_0 : Int) (a0_1 : Int) (r : Int) (w : World) (h : span_Check.f a0_0 a0_1 = some r) :
    Calls Try.prog 36 #[.agg #[.int .i64 a0_0, .int .i64 a0_1]] w fun e w' => e = .returned (.int .i64 r) ∧ Below w.heap.size w w' := by
  have hu42 := Try.underlying42
  have HB := Aside0.mk (Below.refl w.heap.size w)
  have H : (if a0_0 < 0 then (some 4) else (if a0_1 < 0 then (some 4) else (if a0_1 > 65536 then (some 4) else (if a0_0 > (wrap64 (65536 - a0_1)) then (some 4) else (some 0))))) = some r := h
  clear h
  by_cases c2 : a0_0 < 0
  · rw [if_pos c2] at H
    have c2b0 : decide (a0_0 < 0) = true := decide_eq_true c2
    clear c2
    obtain rfl := Option.some.inj H
    go_enter Try.func36, Try.ntmps36
    go_wp2_with (first | ((with_reducible refine gate_dst (N := 1) rfl ?_); refine box_event ?hg (N := 1) ?hd (cs := #[.int .i64 a0_0, .int .i64 a0_1]) (t := 42) ?hr ?_; (case hd => rfl); (case hg => rfl); (case hr => first | (go_simp; done) | (go_simp; rfl)); intro gb156 hg w3 hbox hb; have n0_ := Aside0.mk (below_step (by repeat (first | (with_reducible first | exact HB.out | apply below_alloc | apply pw_below_drewN | apply below_drew1) | exact HB.out)) hb); have n1_ := Aside0.mk (hbox); have n2_ := Aside0.mk ((by rw [hg]; exact (below_size (by repeat (first | (with_reducible first | exact HB.out | apply below_alloc | apply pw_below_drewN | apply below_drew1) | exact HB.out))) : w.heap.size ≤ gb156)); have n3_ := Aside0.mk ((by rw [hg]; exact (below_size (by repeat (first | (with_reducible first | exact HB.out | apply below_alloc | apply pw_below_drewN | apply below_drew1) | exact HB.out))) : w.heap.size ≤ gb156)); clear HB; have HB := n0_; have BK156 := n1_; have GW156 := n2_; have GE156 := n3_; clear n0_ n1_ n2_ n3_; clear hb hbox hg; have hcz4_0 : w3.cell? ⟨gb156, 0, none⟩ = some (.int .i64 a0_0) := (blk_cell BK156.out 0).trans rfl; have hcz4_1 : w3.cell? ⟨gb156, 1, none⟩ = some (.int .i64 a0_1) := (blk_cell BK156.out 1).trans rfl; have hfz4_0 := blk_frozen BK156.out 0; have hfz4_1 := blk_frozen BK156.out 1))
    go_ret
    exact ⟨by first | rfl | (simp [errW_none, errW_some] <;> rfl) | (simp [*, errW_none, errW_some] <;> rfl), by repeat (first | (with_reducible first | exact HB.out | apply below_alloc | apply pw_below_drewN | apply below_drew1 | refine below_set ?_ GE156.out) | exact HB.out)⟩
  · rw [if_neg c2] at H
    have c2b0 : decide (a0_0 < 0) = false := decide_eq_false c2
    clear c2
    by_cases c5 : a0_1 < 0
    · rw [if_pos c5] at H
      have c5b0 : decide (a0_1 < 0) = true := decide_eq_true c5
      clear c5
      obtain rfl := Option.some.inj H
      go_enter Try.func36, Try.ntmps36
      go_wp2_with (first | ((with_reducible refine gate_dst (N := 1) rfl ?_); refine box_event ?hg (N := 1) ?hd (cs := #[.int .i64 a0_0, .int .i64 a0_1]) (t := 42) ?hr ?_; (case hd => rfl); (case hg => rfl); (case hr => first | (go_simp; done) | (go_simp; rfl)); intro gb156 hg w6 hbox hb; have n0_ := Aside0.mk (below_step (by repeat (first | (with_reducible first | exact HB.out | apply below_alloc | apply pw_below_drewN | apply below_drew1) | exact HB.out)) hb); have n1_ := Aside0.mk (hbox); have n2_ := Aside0.mk ((by rw [hg]; exact (below_size (by repeat (first | (with_reducible first | exact HB.out | apply below_alloc | apply pw_below_drewN | apply below_drew1) | exact HB.out))) : w.heap.size ≤ gb156)); have n3_ := Aside0.mk ((by rw [hg]; exact (below_size (by repeat (first | (with_reducible first | exact HB.out | apply below_alloc | apply pw_below_drewN | apply below_drew1) | exact HB.out))) : w.heap.size ≤ gb156)); clear HB; have HB := n0_; have BK156 := n1_; have GW156 := n2_; have GE156 := n3_; clear n0_ n1_ n2_ n3_; clear hb hbox hg; have hcz7_0 : w6.cell? ⟨gb156, 0, none⟩ = some (.int .i64 a0_0) := (blk_cell BK156.out 0).trans rfl; have hcz7_1 : w6.cell? ⟨gb156, 1, none⟩ = some (.int .i64 a0_1) := (blk_cell BK156.out 1).trans rfl; have hfz7_0 := blk_frozen BK156.out 0; have hfz7_1 := blk_frozen BK156.out 1))
      go_ret
      exact ⟨by first | rfl | (simp [errW_none, errW_some] <;> rfl) | (simp [*, errW_none, errW_some] <;> rfl), by repeat (first | (with_reducible first | exact HB.out | apply below_alloc | apply pw_below_drewN | apply below_drew1 | refine below_set ?_ GE156.out) | exact HB.out)⟩
    · rw [if_neg c5] at H
      have c5b0 : decide (a0_1 < 0) = false := decide_eq_false c5
      clear c5
      by_cases c8 : a0_1 > 65536
      · rw [if_pos c8] at H
        have c8b0 : decide (65536 < a0_1) = true := decide_eq_true c8
        clear c8
        obtain rfl := Option.some.inj H
        go_enter Try.func36, Try.ntmps36
        go_wp2_with (first | ((with_reducible refine gate_dst (N := 1) rfl ?_); refine box_event ?hg (N := 1) ?hd (cs := #[.int .i64 a0_0, .int .i64 a0_1]) (t := 42) ?hr ?_; (case hd => rfl); (case hg => rfl); (case hr => first | (go_simp; done) | (go_simp; rfl)); intro gb156 hg w9 hbox hb; have n0_ := Aside0.mk (below_step (by repeat (first | (with_reducible first | exact HB.out | apply below_alloc | apply pw_below_drewN | apply below_drew1) | exact HB.out)) hb); have n1_ := Aside0.mk (hbox); have n2_ := Aside0.mk ((by rw [hg]; exact (below_size (by repeat (first | (with_reducible first | exact HB.out | apply below_alloc | apply pw_below_drewN | apply below_drew1) | exact HB.out))) : w.heap.size ≤ gb156)); have n3_ := Aside0.mk ((by rw [hg]; exact (below_size (by repeat (first | (with_reducible first | exact HB.out | apply below_alloc | apply pw_below_drewN | apply below_drew1) | exact HB.out))) : w.heap.size ≤ gb156)); clear HB; have HB := n0_; have BK156 := n1_; have GW156 := n2_; have GE156 := n3_; clear n0_ n1_ n2_ n3_; clear hb hbox hg; have hcz10_0 : w9.cell? ⟨gb156, 0, none⟩ = some (.int .i64 a0_0) := (blk_cell BK156.out 0).trans rfl; have hcz10_1 : w9.cell? ⟨gb156, 1, none⟩ = some (.int .i64 a0_1) := (blk_cell BK156.out 1).trans rfl; have hfz10_0 := blk_frozen BK156.out 0; have hfz10_1 := blk_frozen BK156.out 1))
        go_ret
        exact ⟨by first | rfl | (simp [errW_none, errW_some] <;> rfl) | (simp [*, errW_none, errW_some] <;> rfl), by repeat (first | (with_reducible first | exact HB.out | apply below_alloc | apply pw_below_drewN | apply below_drew1 | refine below_set ?_ GE156.out) | exact HB.out)⟩
      · rw [if_neg c8] at H
        have c8b0 : decide (65536 < a0_1) = false := decide_eq_false c8
        clear c8
        by_cases c11 : a0_0 > (wrap64 (65536 - a0_1))
        · rw [if_pos c11] at H
          have c11b0 : decide ((wrap64 (65536 - a0_1)) < a0_0) = true := decide_eq_true c11
          clear c11
          obtain rfl := Option.some.inj H
          go_enter Try.func36, Try.ntmps36
          go_wp2_with (first | ((with_reducible refine gate_dst (N := 1) rfl ?_); refine box_event ?hg (N := 1) ?hd (cs := #[.int .i64 a0_0, .int .i64 a0_1]) (t := 42) ?hr ?_; (case hd => rfl); (case hg => rfl); (case hr => first | (go_simp; done) | (go_simp; rfl)); intro gb156 hg w12 hbox hb; have n0_ := Aside0.mk (below_step (by repeat (first | (with_reducible first | exact HB.out | apply below_alloc | apply pw_below_drewN | apply below_drew1) | exact HB.out)) hb); have n1_ := Aside0.mk (hbox); have n2_ := Aside0.mk ((by rw [hg]; exact (below_size (by repeat (first | (with_reducible first | exact HB.out | apply below_alloc | apply pw_below_drewN | apply below_drew1) | exact HB.out))) : w.heap.size ≤ gb156)); have n3_ := Aside0.mk ((by rw [hg]; exact (below_size (by repeat (first | (with_reducible first | exact HB.out | apply below_alloc | apply pw_below_drewN | apply below_drew1) | exact HB.out))) : w.heap.size ≤ gb156)); clear HB; have HB := n0_; have BK156 := n1_; have GW156 := n2_; have GE156 := n3_; clear n0_ n1_ n2_ n3_; clear hb hbox hg; have hcz13_0 : w12.cell? ⟨gb156, 0, none⟩ = some (.int .i64 a0_0) := (blk_cell BK156.out 0).trans rfl; have hcz13_1 : w12.cell? ⟨gb156, 1, none⟩ = some (.int .i64 a0_1) := (blk_cell BK156.out 1).trans rfl; have hfz13_0 := blk_frozen BK156.out 0; have hfz13_1 := blk_frozen BK156.out 1))
          go_ret
          exact ⟨by first | rfl | (simp [errW_none, errW_some] <;> rfl) | (simp [*, errW_none, errW_some] <;> rfl), by repeat (first | (with_reducible first | exact HB.out | apply below_alloc | apply pw_below_drewN | apply below_drew1 | refine below_set ?_ GE156.out) | exact HB.out)⟩
        · rw [if_neg c11] at H
          have c11b0 : decide ((wrap64 (65536 - a0_1)) < a0_0) = false := decide_eq_false c11
          clear c11
          obtain rfl := Option.some.inj H
          go_enter Try.func36, Try.ntmps36
          go_wp2_with (first | ((with_reducible refine gate_dst (N := 1) rfl ?_); refine box_event ?hg (N := 1) ?hd (cs := #[.int .i64 a0_0, .int .i64 a0_1]) (t := 42) ?hr ?_; (case hd => rfl); (case hg => rfl); (case hr => first | (go_simp; done) | (go_simp; rfl)); intro gb156 hg w14 hbox hb; have n0_ := Aside0.mk (below_step (by repeat (first | (with_reducible first | exact HB.out | apply below_alloc | apply pw_below_drewN | apply below_drew1) | exact HB.out)) hb); have n1_ := Aside0.mk (hbox); have n2_ := Aside0.mk ((by rw [hg]; exact (below_size (by repeat (first | (with_reducible first | exact HB.out | apply below_alloc | apply pw_below_drewN | apply below_drew1) | exact HB.out))) : w.heap.size ≤ gb156)); have n3_ := Aside0.mk ((by rw [hg]; exact (below_size (by repeat (first | (with_reducible first | exact HB.out | apply below_alloc | apply pw_below_drewN | apply below_drew1) | exact HB.out))) : w.heap.size ≤ gb156)); clear HB; have HB := n0_; have BK156 := n1_; have GW156 := n2_; have GE156 := n3_; clear n0_ n1_ n2_ n3_; clear hb hbox hg; have hcz15_0 : w14.cell? ⟨gb156, 0, none⟩ = some (.int .i64 a0_0) := (blk_cell BK156.out 0).trans rfl; have hcz15_1 : w14.cell? ⟨gb156, 1, none⟩ = some (.int .i64 a0_1) := (blk_cell BK156.out 1).trans rfl; have hfz15_0 := blk_frozen BK156.out 0; have hfz15_1 := blk_frozen BK156.out 1))
          go_ret
          exact ⟨by first | rfl | (simp [errW_none, errW_some] <;> rfl) | (simp [*, errW_none, errW_some] <;> rfl), by repeat (first | (with_reducible first | exact HB.out | apply below_alloc | apply pw_below_drewN | apply below_drew1 | refine below_set ?_ GE156.out) | exact HB.out)⟩

/-! ### span_good: function 29 -/
def span_good.f (a0_0 : Int) (a0_1 : Int) : Option (Bool) := (span_Check.f a0_0 a0_1).bind fun t158 => (if t158 = 0 then (some (decide (a0_1 > 0))) else (some false))
set_option maxHeartbeats 8000000 in
set_option maxRecDepth 100000 in
theorem span_good.calls (a0_0 : Int) (a0_1 : Int) (r : Bool) (w : World) (h : span_good.f a0_0 a0_1 = some r) :
    Calls Try.prog 29 #[.agg #[.int .i64 a0_0, .int .i64 a0_1]] w fun e w' => e = .returned (.bool r) ∧ Below w.heap.size w w' := by
  have hu42 := Try.underlying42
  have HB := Aside0.mk (Below.refl w.heap.size w)
  have H : ((span_Check.f a0_0 a0_1).bind fun t158 => (if t158 = 0 then (some (decide (a0_1 > 0))) else (some false))) = some r := h
  clear h
  replace H := Option.bind_eq_some_iff.mp H
  obtain ⟨t158, A20, H⟩ := H
  replace H : (if t158 = 0 then (some (decide (a0_1 > 0))) else (some false)) = some r := H
  have A2 := Aside0.mk A20
  clear A20
  by_cases c3 : t158 = 0
  · rw [if_pos c3] at H
    have c3b0 : (t158 == 0) = true := beq_iff_eq.mpr c3
    have c3b1 : (t158 != 0) = false := bne_eq_false_iff_eq.mpr c3
    clear c3
    obtain rfl := Option.some.inj H
    go_enter Try.func29, Try.ntmps29
    go_wp2_with (first | ((with_reducible refine gate_dst (N := 1) rfl ?_); refine box_event ?hg (N := 1) ?hd (cs := #[.int .i64 a0_0, .int .i64 a0_1]) (t := 42) ?hr ?_; (case hd => rfl); (case hg => rfl); (case hr => first | (go_simp; done) | (go_simp; rfl)); intro gb157 hg w4 hbox hb; have n0_ := Aside0.mk (below_step (by repeat (first | (with_reducible first | exact HB.out | apply below_alloc | apply pw_below_drewN | apply below_drew1) | exact HB.out)) hb); have n1_ := Aside0.mk (hbox); have n2_ := Aside0.mk ((by rw [hg]; exact (below_size (by repeat (first | (with_reducible first | exact HB.out | apply below_alloc | apply pw_below_drewN | apply below_drew1) | exact HB.out))) : w.heap.size ≤ gb157)); have n3_ := Aside0.mk ((by rw [hg]; exact (below_size (by repeat (first | (with_reducible first | exact HB.out | apply below_alloc | apply pw_below_drewN | apply below_drew1) | exact HB.out))) : w.heap.size ≤ gb157)); clear HB; have HB := n0_; have BK157 := n1_; have GW157 := n2_; have GE157 := n3_; clear n0_ n1_ n2_ n3_; clear hb hbox hg; have hcz5_0 : w4.cell? ⟨gb157, 0, none⟩ = some (.int .i64 a0_0) := (blk_cell BK157.out 0).trans rfl; have hcz5_1 : w4.cell? ⟨gb157, 1, none⟩ = some (.int .i64 a0_1) := (blk_cell BK157.out 1).trans rfl; have hfz5_0 := blk_frozen BK157.out 0; have hfz5_1 := blk_frozen BK157.out 1) | ((with_reducible refine gate_callee (f := 36) rfl ?_); refine goesL_ (some 4) rfl rfl Try.func36 (by kernel_rfl) rfl #[.agg #[.int .i64 a0_0, .int .i64 a0_1]] rfl (by (try simp only [List.map_toArray, List.map_cons, List.map_nil]); first | done | rfl | (simp only [List.length_drop, List.length_take]; rfl)) ?_; (with_reducible refine (span_Check.calls a0_0 a0_1 t158 _ A2.out).mono ?_); rintro e w6 ⟨rfl, hb⟩; refine ⟨_, rfl, ?_⟩; have n0_ := Aside0.mk (blk_below (g := gb157) (o := .cells #[.int .i64 a0_0, .int .i64 a0_1] 42 (0, 0)) (by (with_reducible repeat (first | refine blk_drewN ?_ _ | refine blk_drew ?_ | refine blk_alloc ?_ _)); exact BK157.out) hb); have n1_ := Aside0.mk (below_step (by repeat (first | (with_reducible first | exact HB.out | apply below_alloc | apply pw_below_drewN | apply below_drew1 | refine below_set ?_ GE157.out) | exact HB.out)) hb); clear BK157; clear HB; have BK157 := n0_; have HB := n1_; clear n0_ n1_; (try clear hb); (try clear hb2); (try clear hk); (try clear hi); have hcz7_0 : w6.cell? ⟨gb157, 0, none⟩ = some (.int .i64 a0_0) := (blk_cell BK157.out 0).trans rfl; have hcz7_1 : w6.cell? ⟨gb157, 1, none⟩ = some (.int .i64 a0_1) := (blk_cell BK157.out 1).trans rfl; have hfz7_0 := blk_frozen BK157.out 0; have hfz7_1 := blk_frozen BK157.out 1))
    go_ret
    exact ⟨by first | rfl | (simp [errW_none, errW_some] <;> rfl) | (simp [*, errW_none, errW_some] <;> rfl), by repeat (first | (with_reducible first | exact HB.out | apply below_alloc | apply pw_below_drewN | apply below_drew1 | refine below_set ?_ GE157.out) | exact HB.out)⟩
  · rw [if_neg c3] at H
    have c3b0 : (t158 == 0) = false := beq_eq_false_iff_ne.mpr c3
    have c3b1 : (t158 != 0) = true := bne_iff_ne.mpr c3
    obtain rfl := Option.some.inj H
    go_enter Try.func29, Try.ntmps29
    go_wp2_with (first | ((with_reducible refine gate_dst (N := 1) rfl ?_); refine box_event ?hg (N := 1) ?hd (cs := #[.int .i64 a0_0, .int .i64 a0_1]) (t := 42) ?hr ?_; (case hd => rfl); (case hg => rfl); (case hr => first | (go_simp; done) | (go_simp; rfl)); intro gb157 hg w8 hbox hb; have n0_ := Aside0.mk (below_step (by repeat (first | (with_reducible first | exact HB.out | apply below_alloc | apply pw_below_drewN | apply below_drew1) | exact HB.out)) hb); have n1_ := Aside0.mk (hbox); have n2_ := Aside0.mk ((by rw [hg]; exact (below_size (by repeat (first | (with_reducible first | exact HB.out | apply below_alloc | apply pw_below_drewN | apply below_drew1) | exact HB.out))) : w.heap.size ≤ gb157)); have n3_ := Aside0.mk ((by rw [hg]; exact (below_size (by repeat (first | (with_reducible first | exact HB.out | apply below_alloc | apply pw_below_drewN | apply below_drew1) | exact HB.out))) : w.heap.size ≤ gb157)); clear HB; have HB := n0_; have BK157 := n1_; have GW157 := n2_; have GE157 := n3_; clear n0_ n1_ n2_ n3_; clear hb hbox hg; have hcz9_0 : w8.cell? ⟨gb157, 0, none⟩ = some (.int .i64 a0_0) := (blk_cell BK157.out 0).trans rfl; have hcz9_1 : w8.cell? ⟨gb157, 1, none⟩ = some (.int .i64 a0_1) := (blk_cell BK157.out 1).trans rfl; have hfz9_0 := blk_frozen BK157.out 0; have hfz9_1 := blk_frozen BK157.out 1) | ((with_reducible refine gate_callee (f := 36) rfl ?_); refine goesL_ (some 4) rfl rfl Try.func36 (by kernel_rfl) rfl #[.agg #[.int .i64 a0_0, .int .i64 a0_1]] rfl (by (try simp only [List.map_toArray, List.map_cons, List.map_nil]); first | done | rfl | (simp only [List.length_drop, List.length_take]; rfl)) ?_; (with_reducible refine (span_Check.calls a0_0 a0_1 t158 _ A2.out).mono ?_); rintro e w10 ⟨rfl, hb⟩; refine ⟨_, rfl, ?_⟩; have n0_ := Aside0.mk (blk_below (g := gb157) (o := .cells #[.int .i64 a0_0, .int .i64 a0_1] 42 (0, 0)) (by (with_reducible repeat (first | refine blk_drewN ?_ _ | refine blk_drew ?_ | refine blk_alloc ?_ _)); exact BK157.out) hb); have n1_ := Aside0.mk (below_step (by repeat (first | (with_reducible first | exact HB.out | apply below_alloc | apply pw_below_drewN | apply below_drew1 | refine below_set ?_ GE157.out) | exact HB.out)) hb); clear BK157; clear HB; have BK157 := n0_; have HB := n1_; clear n0_ n1_; (try clear hb); (try clear hb2); (try clear hk); (try clear hi)))
    go_ret
    exact ⟨by first | rfl | (simp [errW_none, errW_some] <;> rfl) | (simp [*, errW_none, errW_some] <;> rfl), by repeat (first | (with_reducible first | exact HB.out | apply below_alloc | apply pw_below_drewN | apply below_drew1 | refine below_set ?_ GE157.out) | exact HB.out)⟩

/-! ### api_Span: function 33 -/
def api_Span.ren : Go.Shelf.Ren := ⟨fun | 6 => 33 | 15 => 39 | 14 => 38 | 28 => 48 | 29 => 49 | 20 => 40 | 21 => 41 | 22 => 42 | 23 => 43 | 24 => 44 | 25 => 45 | 26 => 46 | 27 => 47 | 46 => 50 | 47 => 51 | 48 => 52 | 49 => 53 | 50 => 54 | 57 => 55 | n => n, fun | 22 => 38 | 24 => 42 | 25 => 75 | 3 => 3 | 39 => 81 | 0 => 0 | 53 => 94 | 55 => 96 | 4 => 4 | 46 => 87 | 45 => 86 | 50 => 91 | 5 => 5 | 9 => 9 | 66 => 97 | 70 => 101 | 76 => 103 | 77 => 58 | n => n, fun n => n⟩
theorem api_Span.lay : Go.Proofs.SlLaysF0.n6 Try.prog api_Span.ren := { mixed := by kernel_rfl, f6 := ⟨Try.f33.name, by decide, Try.func33.trans (congrArg some (by kernel_rfl))⟩, f14 := ⟨Try.f38.name, by decide, Try.func38.trans (congrArg some (by kernel_rfl))⟩, f15 := Try.func39.trans (congrArg some (by kernel_rfl)), f20 := ⟨Try.f40.name, by decide, Try.func40.trans (congrArg some (by kernel_rfl))⟩, f21 := ⟨Try.f41.name, by decide, Try.func41.trans (congrArg some (by kernel_rfl))⟩, f22 := ⟨Try.f42.name, by decide, Try.func42.trans (congrArg some (by kernel_rfl))⟩, f23 := ⟨Try.f43.name, by decide, Try.func43.trans (congrArg some (by kernel_rfl))⟩, f24 := ⟨Try.f44.name, by decide, Try.func44.trans (congrArg some (by kernel_rfl))⟩, f25 := ⟨Try.f45.name, by decide, Try.func45.trans (congrArg some (by kernel_rfl))⟩, f26 := ⟨Try.f46.name, by decide, Try.func46.trans (congrArg some (by kernel_rfl))⟩, f27 := ⟨Try.f47.name, by decide, Try.func47.trans (congrArg some (by kernel_rfl))⟩, f28 := Try.func48.trans (congrArg some (by kernel_rfl)), f29 := Try.func49.trans (congrArg some (by kernel_rfl)), f46 := ⟨Try.f50.name, by decide, Try.func50.trans (congrArg some (by kernel_rfl))⟩, f47 := Try.func51.trans (congrArg some (by kernel_rfl)), f48 := Try.func52.trans (congrArg some (by kernel_rfl)), f49 := ⟨Try.f53.name, by decide, Try.func53.trans (congrArg some (by kernel_rfl))⟩, f50 := ⟨Try.f54.name, by decide, Try.func54.trans (congrArg some (by kernel_rfl))⟩, f57 := ⟨Try.f55.name, by decide, Try.func55.trans (congrArg some (by kernel_rfl))⟩, t0 := Try.underlying0, a0 := Try.isAgg0, z0 := Try.sizeOf0, v0 := Try.zeroValue0, t3 := Try.underlying3, a3 := Try.isAgg3, z3 := Try.sizeOf3, v3 := Try.zeroValue3, t4 := Try.underlying4, a4 := Try.isAgg4, z4 := Try.sizeOf4, v4 := Try.zeroValue4, t5 := Try.underlying5, a5 := Try.isAgg5, z5 := Try.sizeOf5, v5 := Try.zeroValue5, t9 := Try.underlying9, a9 := Try.isAgg9, z9 := Try.sizeOf9, v9 := Try.zeroValue9, t22 := Try.underlying38, a22 := Try.isAgg38, z22 := Try.sizeOf38, v22 := Try.zeroValue38, t25 := Try.underlying75, a25 := Try.isAgg75, z25 := Try.sizeOf75, v25 := Try.zeroValue75, t39 := Try.underlying81, a39 := Try.isAgg81, z39 := Try.sizeOf81, v39 := Try.zeroValue81, t45 := Try.underlying86, a45 := Try.isAgg86, z45 := Try.sizeOf86, v45 := Try.zeroValue86, t46 := Try.underlying87, a46 := Try.isAgg87, z46 := Try.sizeOf87, v46 := Try.zeroValue87, t50 := Try.underlying91, a50 := Try.isAgg91, z50 := Try.sizeOf91, v50 := Try.zeroValue91, t53 := Try.underlying94, a53 := Try.isAgg94, z53 := Try.sizeOf94, v53 := Try.zeroValue94, t55 := Try.underlying96, a55 := Try.isAgg96, z55 := Try.sizeOf96, v55 := Try.zeroValue96, t66 := Try.underlying97, a66 := Try.isAgg97, z66 := Try.sizeOf97, v66 := Try.zeroValue97, t70 := Try.underlying101, a70 := Try.isAgg101, z70 := Try.sizeOf101, v70 := Try.zeroValue101, t76 := Try.underlying103, a76 := Try.isAgg103, z76 := Try.sizeOf103, v76 := Try.zeroValue103, t77 := Try.underlying58, a77 := Try.isAgg58, z77 := Try.sizeOf58, v77 := Try.zeroValue58 }
/-- Does a span begin within an image? -/
def api_Span.ok (s : S42) : Bool := decide (0 ≤ s.f0) && decide (s.f0 ≤ 65536)
abbrev api_Span.T := { s : S42 // api_Span.ok s = true }
instance api_Span.inh : Inhabited api_Span.T := ⟨⟨⟨0, 0⟩, rfl⟩⟩
def api_Span.enc (s : S42) : List Value := [.int .i64 s.f0, .int .i64 s.f1]
def api_Span.encT (s : api_Span.T) : List Value := api_Span.enc s.1
def api_Span.cf (x y : api_Span.T) : Int := x.1.f0 - y.1.f0
def api_Span.D (l : List S42) : Array api_Span.T := (l.filterMap fun s => if h : api_Span.ok s = true then some ⟨s, h⟩ else none).toArray
/-- The spans in order of where they begin, as Go's library sorts them. -/
def api_Span.srt (l : List S42) : List S42 := (Go.Sort.pdq (Go.Proofs.ltOf api_Span.cf) (api_Span.D l) 0 (api_Span.D l).size (Go.Lib.bitLen (api_Span.D l).size) true true).toList.map (·.1)
def api_Span.f (l0 : List S42) (a1 : Nat) : Option (List S42) := if a1 = 34 then (if l0.all api_Span.ok = true then (if l0.length < 4611686018427387904 then (some (api_Span.srt l0)) else (none)) else (none)) else (none)
theorem api_Span.ok_iff (s : S42) : api_Span.ok s = true ↔ 0 ≤ s.f0 ∧ s.f0 ≤ 65536 := by unfold api_Span.ok; rw [Bool.and_eq_true, decide_eq_true_iff, decide_eq_true_iff]
theorem api_Span.D_list : ∀ l : List S42, l.all api_Span.ok = true → (api_Span.D l).toList.map (·.1) = l := by
  intro l
  unfold api_Span.D
  simp only
  induction l with
  | nil => intro _; rfl
  | cons s t ih =>
    intro h
    rw [List.all_cons, Bool.and_eq_true] at h
    rw [List.filterMap_cons]
    simp only [dif_pos h.1]
    rw [List.map_cons, ih h.2]
theorem api_Span.swo : Go.Sort.SWO (Go.Proofs.ltOf api_Span.cf) where
  irrefl x := by unfold Go.Proofs.ltOf api_Span.cf; simp
  trans x y z h1 h2 := by unfold Go.Proofs.ltOf api_Span.cf at *; simp at *; omega
  ntrans x y z h1 h2 := by unfold Go.Proofs.ltOf api_Span.cf at *; simp at *; omega
set_option maxHeartbeats 2000000 in
theorem api_Span.closure (x y : api_Span.T) (W : World) : Calls Try.prog 34 #[.agg #[.int .i64 x.1.f0, .int .i64 x.1.f1], .agg #[.int .i64 y.1.f0, .int .i64 y.1.f1]] W fun e w' => e = .returned (.int .i64 (api_Span.cf x y)) ∧ ∃ q os', w' = Go.Sort.grow (W.drewN q) os' := by
  obtain ⟨⟨x0, x1⟩, hx⟩ := x
  obtain ⟨⟨y0, y1⟩, hy⟩ := y
  have hx' := (api_Span.ok_iff _).1 hx
  have hy' := (api_Span.ok_iff _).1 hy
  show Calls Try.prog 34 #[.agg #[.int .i64 x0, .int .i64 x1], .agg #[.int .i64 y0, .int .i64 y1]] W fun e w' => e = .returned (.int .i64 (x0 - y0)) ∧ _
  obtain ⟨h1, h2⟩ : 0 ≤ x0 ∧ x0 ≤ 65536 := hx'
  obtain ⟨h3, h4⟩ : 0 ≤ y0 ∧ y0 ≤ 65536 := hy'
  clear hx hy
  go_enter Try.func34, Try.ntmps34
  go_wp2
  go_ret
  exact ⟨rfl, 0, _, by rw [Go.Sort.alloc_eq_grow, Go.Sort.alloc_eq_grow, Go.Sort.grow_grow]; rfl⟩
theorem api_Span.srt_sorts (l : List S42) (hl : l.all api_Span.ok = true) : (api_Span.srt l).Perm l ∧ (api_Span.srt l).Pairwise (fun x y => x.f0 ≤ y.f0) := by
  obtain ⟨⟨hs, _, hp⟩, hS⟩ := Go.Sort.pdq_sorts (Go.Proofs.ltOf api_Span.cf) api_Span.swo (api_Span.D l) 0 (api_Span.D l).size (Go.Lib.bitLen (api_Span.D l).size) true true (Nat.zero_le _) (Nat.le_refl _) (Or.inl rfl)
  unfold api_Span.srt
  generalize Go.Sort.pdq (Go.Proofs.ltOf api_Span.cf) (api_Span.D l) 0 (api_Span.D l).size (Go.Lib.bitLen (api_Span.D l).size) true true = d' at hs hp hS
  rw [Array.extract_size, ← hs, Array.extract_size] at hp
  refine ⟨?_, ?_⟩
  · have := hp.map (·.1)
    rwa [api_Span.D_list l hl] at this
  · rw [List.pairwise_map, List.pairwise_iff_getElem]
    intro i j hi hj hij
    have hi' : i < d'.size := by simpa using hi
    have hj' : j < d'.size := by simpa using hj
    have := hS i j (Nat.zero_le _) hij (by rw [← hs]; exact hj')
    unfold Go.Proofs.ltOf api_Span.cf at this
    simp [hi', hj'] at this
    simpa using this
theorem api_Span.srt_map (l : List S42) (hl : l.all api_Span.ok = true) : (api_Span.srt l).length = l.length := by
  have h := (Go.Sort.pdq_sorts (Go.Proofs.ltOf api_Span.cf) api_Span.swo (api_Span.D l) 0 (api_Span.D l).size (Go.Lib.bitLen (api_Span.D l).size) true true (Nat.zero_le _) (Nat.le_refl _) (Or.inl rfl)).1
  have h2 := congrArg List.length (api_Span.D_list l hl)
  rw [List.length_map] at h2
  unfold api_Span.srt
  rw [List.length_map, ← h2, Array.length_toList, Array.length_toList]
  exact h.1
set_option maxHeartbeats 8000000 in
set_option maxRecDepth 100000 in
theorem api_Span.calls (P0_ : Nat → Prop) (u9000_ : Value) (l0 : List S42) (a1 : Nat) (r : List S42) (w0 w : World) (hB : Below w0.heap.size w0 w) (ho0 : Kd.R k42 42 w w0.heap.size P0_ u9000_ l0) (h : api_Span.f l0 a1 = some r) :
    Calls Try.prog 33 #[u9000_, .func (.func a1) #[] #[]] w fun e w' => e = .returned (.tuple #[]) ∧ Kd.R k42 42 w' w0.heap.size (fun k_ => (P0_ k_ ∨ w.heap.size ≤ k_)) u9000_ r ∧ Below w0.heap.size w0 w' ∧ Kept w w' (fun k_ => P0_ k_) := by
  unfold api_Span.f at h
  by_cases b0 : a1 = 34
  · rw [if_pos b0] at h
    subst b0
    by_cases b1 : l0.all api_Span.ok = true
    · rw [if_pos b1] at h
      by_cases b2 : l0.length < 4611686018427387904
      · rw [if_pos b2] at h
        obtain rfl := Option.some.inj h
        clear h
        obtain ⟨A0, c0, rfl⟩ := Kd.R_slice ho0
        cases A0 with
        | none =>
          obtain rfl := R_noneK ho0
          have hcon := Go.Proofs.AnyF.slices_SortFunc_none api_Span.lay none c0 (.func (.func 34) #[] #[]) w
          change Calls Try.prog 33 _ _ _ at hcon
          refine hcon.mono ?_
          rintro e w' ⟨rfl, rfl⟩
          have e0 : api_Span.srt [] = [] := List.eq_nil_of_length_eq_zero (api_Span.srt_map [] b1)
          rw [e0]
          exact ⟨rfl, Kd.R_mono ho0 (fun k hk => .inl hk), hB, Kept.refl _ _⟩
        | some ad =>
          obtain ⟨g, rfl⟩ := Kd.R_head ho0
          have hDl := api_Span.D_list l0 b1
          have hDs : (api_Span.D l0).size = l0.length := by rw [← Array.length_toList, ← List.length_map (f := (·.1)), hDl]
          have hfm : ∀ l : List api_Span.T, l.flatMap api_Span.encT = (l.map (·.1)).flatMap api_Span.enc := fun l => by rw [List.flatMap_map]; rfl
          have hM : ∀ w b o x cs, (k42).M w b o x cs → cs = api_Span.enc x := fun w b o x cs hm => k42_openM hm
          have hM2 : ∀ w b o x, (k42).M w b o x (api_Span.enc x) := fun w b o x => k42_mkM w b o x
          have hD0 : (api_Span.D l0).toList.flatMap api_Span.encT = l0.flatMap api_Span.enc := by rw [hfm, hDl]
          have hH := R_holdsK hM (fun _ => rfl) (fun _ => rfl) (api_Span.D l0) hD0 ho0
          have eg : ∀ args w, (callFunc 34 args).run Try.prog w = .ok (.enter 34 args) w := Go.Proofs.enters_of Try.func34 (by kernel_rfl) rfl
          have hcon := Go.Proofs.AnyQ.slices_SortFunc_eq api_Span.lay 2 Try.isAgg42 Try.sizeOf42 api_Span.encT (fun _ => rfl) (fun x v hv => by simp [api_Span.encT, api_Span.enc] at hv; rcases hv with rfl | rfl <;> rfl) api_Span.cf api_Span.swo 34 #[] g 0 c0 (api_Span.D l0) w eg (fun _ _ _ _ x y => api_Span.closure x y _) hH (Kd.R_lt ho0 g (by simp [Value.ownBlock])) (by rw [hDs]; exact b2)
          change Calls Try.prog 33 _ _ _ at hcon
          rw [show (api_Span.D l0).size = l0.length from hDs] at hcon
          refine hcon.mono ?_
          rintro e w' ⟨rfl, q, os, hq⟩
          rw [← hDs] at hq
          obtain ⟨h1, h2⟩ := R_layK (ys := api_Span.srt l0) hM hM2 (fun _ => rfl) (fun _ => rfl) (api_Span.D l0) _ hD0 (by rw [hfm]; rfl) (api_Span.srt_map l0 b1) ho0 hq
          have hP : P0_ g := ho0.1 g (by simp [Value.ownBlock])
          refine ⟨rfl, Kd.R_mono h1 (fun k hk => .inl hk), hB.grown h2 (below_size hB) (fun k hk => by injection hk with hk; subst hk; exact Kd.R_base ho0 _ (by simp [Value.ownBlock])), h2.size, fun k hk hs => h2.block k hk (fun he => hs (by injection he with he; subst he; exact hP))⟩
      · rw [if_neg b2] at h
        exact absurd h (by simp)
    · rw [if_neg b1] at h
      exact absurd h (by simp)
  · rw [if_neg b0] at h
    exact absurd h (by simp)

/-! ### span_end: function 35 -/
def span_end.f (a0_0 : Int) (a0_1 : Int) : Option (Int) := some (wrap64 (a0_0 + a0_1))
set_option maxHeartbeats 8000000 in
set_option maxRecDepth 100000 in
theorem span_end.calls (a0_0 : Int) (a0_1 : Int) (r : Int) (w : World) (h : span_end.f a0_0 a0_1 = some r) :
    Calls Try.prog 35 #[.agg #[.int .i64 a0_0, .int .i64 a0_1]] w fun e w' => e = .returned (.int .i64 r) ∧ Below w.heap.size w w' := by
  have hu42 := Try.underlying42
  have HB := Aside0.mk (Below.refl w.heap.size w)
  have H : (some (wrap64 (a0_0 + a0_1))) = some r := h
  clear h
  obtain rfl := Option.some.inj H
  go_enter Try.func35, Try.ntmps35
  go_wp2_with (first | ((with_reducible refine gate_dst (N := 1) rfl ?_); refine box_event ?hg (N := 1) ?hd (cs := #[.int .i64 a0_0, .int .i64 a0_1]) (t := 42) ?hr ?_; (case hd => rfl); (case hg => rfl); (case hr => first | (go_simp; done) | (go_simp; rfl)); intro gb159 hg w2 hbox hb; have n0_ := Aside0.mk (below_step (by repeat (first | (with_reducible first | exact HB.out | apply below_alloc | apply pw_below_drewN | apply below_drew1) | exact HB.out)) hb); have n1_ := Aside0.mk (hbox); have n2_ := Aside0.mk ((by rw [hg]; exact (below_size (by repeat (first | (with_reducible first | exact HB.out | apply below_alloc | apply pw_below_drewN | apply below_drew1) | exact HB.out))) : w.heap.size ≤ gb159)); have n3_ := Aside0.mk ((by rw [hg]; exact (below_size (by repeat (first | (with_reducible first | exact HB.out | apply below_alloc | apply pw_below_drewN | apply below_drew1) | exact HB.out))) : w.heap.size ≤ gb159)); clear HB; have HB := n0_; have BK159 := n1_; have GW159 := n2_; have GE159 := n3_; clear n0_ n1_ n2_ n3_; clear hb hbox hg; have hcz3_0 : w2.cell? ⟨gb159, 0, none⟩ = some (.int .i64 a0_0) := (blk_cell BK159.out 0).trans rfl; have hcz3_1 : w2.cell? ⟨gb159, 1, none⟩ = some (.int .i64 a0_1) := (blk_cell BK159.out 1).trans rfl; have hfz3_0 := blk_frozen BK159.out 0; have hfz3_1 := blk_frozen BK159.out 1))
  go_ret
  exact ⟨by first | rfl | (simp [errW_none, errW_some] <;> rfl) | (simp [*, errW_none, errW_some] <;> rfl), by repeat (first | (with_reducible first | exact HB.out | apply below_alloc | apply pw_below_drewN | apply below_drew1 | refine below_set ?_ GE159.out) | exact HB.out)⟩

end Go.Proofs.Ytppbkljdeiegjaa.PArrayRoads
