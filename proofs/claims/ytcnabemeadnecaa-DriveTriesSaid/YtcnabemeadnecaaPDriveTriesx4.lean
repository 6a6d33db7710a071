-- written by prn.py, a program of this session, over the kit's printer
import Derived.Test.YtcnabemeadnecaaPDriveTriesx0
import Derived.Test.YtcnabemeadnecaaPDriveTriesx1
import Derived.Test.YtcnabemeadnecaaPDriveTriesx2
import Derived.Test.YtcnabemeadnecaaPDriveTriesx3
namespace Go.Proofs.Ytcnabemeadnecaa.PDriveTries
open Go.RowKit Go.Proofs.YtcnabemeadnecaaW.PrintWords Go.Proofs.YtcnabemeadnecaaW.PrintLast Go.Proofs.YtcnabemeadnecaaW.PrintMore Go.Proofs.YtcnabemeadnecaaW.PrintMine
attribute [local go_sem] max2_int min2_int max_two min_two max_three min_three max_four min_four   -- for this text's walks alone
set_option linter.unusedVariables false
set_option linter.unusedSimpArgs false

/-! ### slices_Equal_byte_byte: function 13 -/
def slices_Equal_byte_byte.l0 : Nat → List Int → List Int → Int → Int → Option (Bool)
  | 0, _, _, _, _ => none
  | k + 1, x0, x1, x12, x13 => if x13 < x12 then (if 0 ≤ x13 then (if x13 < (x0.length : Int) then (if x13 < (x1.length : Int) then (if (rd x0 x13) = (rd x1 x13) then (slices_Equal_byte_byte.l0 k x0 x1 x12 (wrap64 (x13 + 1))) else (some false)) else (none)) else (none)) else (none)) else (some true)
def slices_Equal_byte_byte.f (k : Nat) (l0 : List Int) (l1 : List Int) : Option (Bool) := if (l0.length : Int) = (l1.length : Int) then (slices_Equal_byte_byte.l0 k l0 l1 (l0.length : Int) 0) else (some false)
theorem slices_Equal_byte_byte.mono_l : ∀ k, (∀ y0 y1 y2 y3, LeO (slices_Equal_byte_byte.l0 k y0 y1 y2 y3) (slices_Equal_byte_byte.l0 (k + 1) y0 y1 y2 y3))
  | 0 => fun _ _ _ _ r h => by simp [slices_Equal_byte_byte.l0] at h
  | k + 1 => by
    have ih0 := slices_Equal_byte_byte.mono_l k
    · intro y0 y1 y2 y3
      unfold slices_Equal_byte_byte.l0
      repeat' first
      | (with_reducible exact ih0 _ _ _ _)
      | (with_reducible exact LeO.refl _)
      | (with_reducible exact LeO.none _)
      | (with_reducible refine LeO.ite ?_ ?_)
      | (with_reducible refine LeO.bind ?_ (fun _ => ?_))
      | exact ih0 _ _ _ _
      | exact LeO.none _
      | refine LeO.ite ?_ ?_
      | refine LeO.bind ?_ (fun _ => ?_)
theorem slices_Equal_byte_byte.mono : ∀ a0 a1 k, LeO (slices_Equal_byte_byte.f k a0 a1) (slices_Equal_byte_byte.f (k + 1) a0 a1) := by
  intro a0 a1 k
  have ih0 := slices_Equal_byte_byte.mono_l k
  unfold slices_Equal_byte_byte.f
  repeat' first
      | (with_reducible exact ih0 _ _ _ _)
      | (with_reducible exact LeO.refl _)
      | (with_reducible exact LeO.none _)
      | (with_reducible refine LeO.ite ?_ ?_)
      | (with_reducible refine LeO.bind ?_ (fun _ => ?_))
      | exact ih0 _ _ _ _
      | exact LeO.none _
      | refine LeO.ite ?_ ?_
      | refine LeO.bind ?_ (fun _ => ?_)
set_option maxHeartbeats 8000000 in
set_option maxRecDepth 100000 in
theorem slices_Equal_byte_byte.calls (k : Nat) (A0 : Option Addr) (c0 : Nat) (l0 : List Int) (A1 : Option Addr) (c1 : Nat) (l1 : List Int) (r : Bool) (w : World) (hr0 : Kd.C (Kd.int .u8) w A0 l0.length l0) (hc0 : l0.length ≤ c0) (hr1 : Kd.C (Kd.int .u8) w A1 l1.length l1) (hc1 : l1.length ≤ c1) (h : slices_Equal_byte_byte.f k l0 l1 = some r) :
    Calls Try.prog 13 #[.slice A0 l0.length c0, .slice A1 l1.length c1] w fun e w' => e = .returned (.bool r) ∧ Drawn0 w w' := by
  have HR0 := Aside0.mk hr0
  have HC0 := Aside0.mk hc0
  clear hr0 hc0
  have HR1 := Aside0.mk hr1
  have HC1 := Aside0.mk hc1
  clear hr1 hc1
  have H : (if (l0.length : Int) = (l1.length : Int) then (slices_Equal_byte_byte.l0 k l0 l1 (l0.length : Int) 0) else (some false)) = some r := h
  clear h
  by_cases c3 : (l0.length : Int) = (l1.length : Int)
  · rw [if_pos c3] at H
    have c3b0 : ((l0.length : Int) == (l1.length : Int)) = true := beq_iff_eq.mpr c3
    have c3b1 : ((l0.length : Int) != (l1.length : Int)) = false := bne_eq_false_iff_eq.mpr c3
    have c3b2 : (l0.length == l1.length) = true := by first | simpa using c3 | (simp at c3 ⊢; omega)
    clear c3
    have H' := Aside0.mk H
    clear H
    go_enter Try.func13, Try.ntmps13
    go_wp2
    repeat (go_quiet (fail); try go_wp2)
    go_loopg [13] k (fun kq v13 w' => ∃ (x13_1 : Int), v13 = .int .i64 x13_1 ∧ Aside0 (slices_Equal_byte_byte.l0 kq l0 l1 (l0.length : Int) x13_1 = some r) ∧ Aside0 (kq ≤ k) ∧ Drawn0 w w')
    case atStart => exact ⟨(0), (by first | rfl | (simp; done) | (simp [*]; done)), H', ⟨Nat.le_refl _⟩, by repeat (first | exact Drawn0.refl _ | apply Drawn0.step)⟩
    case round =>
      clear H'
      try clear c1
      try clear p2
      try clear c3
      try clear c3b0
      try clear c3b1
      try clear c3b2
      obtain ⟨x13_1, rfl, HA, HK1, ⟨m1, rfl⟩⟩ := hrel
      cases gk with
      | zero => exact absurd HA.out (by simp [slices_Equal_byte_byte.l0])
      | succ k1 =>
        have H := HA.out
        clear HA
        simp only [slices_Equal_byte_byte.l0] at H
        by_cases c4 : x13_1 < (l0.length : Int)
        · rw [if_pos c4] at H
          have c4b0 : decide (x13_1 < (l0.length : Int)) = true := decide_eq_true c4
          clear c4
          by_cases c5 : 0 ≤ x13_1
          · rw [if_pos c5] at H
            have c5b0 : decide (0 ≤ x13_1) = true := decide_eq_true c5
            clear c5
            by_cases c6 : x13_1 < (l0.length : Int)
            · rw [if_pos c6] at H
              have c6b0 : decide (x13_1 < (l0.length : Int)) = true := decide_eq_true c6
              clear c6
              by_cases c7 : x13_1 < (l1.length : Int)
              · rw [if_pos c7] at H
                have c7b0 : decide (x13_1 < (l1.length : Int)) = true := decide_eq_true c7
                clear c7
                by_cases c8 : (rd l0 x13_1) = (rd l1 x13_1)
                · rw [if_pos c8] at H
                  have c8b0 : ((rd l0 x13_1) == (rd l1 x13_1)) = true := beq_iff_eq.mpr c8
                  have c8b1 : ((rd l0 x13_1) != (rd l1 x13_1)) = false := bne_eq_false_iff_eq.mpr c8
                  clear c8
                  have H' := Aside0.mk H
                  clear H
                  have p156 : 0 ≤ (x13_1 : Int) := of_decide_eq_true (by first | (with_reducible assumption) | assumption)
                  have q156 : x13_1 < (l0.length : Int) := of_decide_eq_true (by first | (with_reducible assumption) | assumption)
                  obtain ⟨ad156, e156, hx156_0⟩ := Kd.at_int HR0.out x13_1 p156 q156
                  cases e156
                  replace p156 := eq_true p156
                  replace q156 := eq_true q156
                  have p157 : 0 ≤ (x13_1 : Int) := of_decide_eq_true (by first | (with_reducible assumption) | assumption)
                  have q157 : x13_1 < (l1.length : Int) := of_decide_eq_true (by first | (with_reducible assumption) | assumption)
                  obtain ⟨ad157, e157, hx157_0⟩ := Kd.at_int HR1.out x13_1 p157 q157
                  cases e157
                  replace p157 := eq_true p157
                  replace q157 := eq_true q157
                  go_wp2
                  repeat (go_quiet (fail); try go_wp2)
                  go_roundg k1
                  case measure => have := HK1.out; omega
                  case rel => exact ⟨(wrap64 (x13_1 + 1)), (by first | rfl | (simp; done) | (simp [*]; done)), H', ⟨by have := HK1.out; omega⟩, by repeat (first | exact Drawn0.refl _ | apply Drawn0.step)⟩
                · rw [if_neg c8] at H
                  have c8b0 : ((rd l0 x13_1) == (rd l1 x13_1)) = false := beq_eq_false_iff_ne.mpr c8
                  have c8b1 : ((rd l0 x13_1) != (rd l1 x13_1)) = true := bne_iff_ne.mpr c8
                  obtain rfl := Option.some.inj H
                  have p156 : 0 ≤ (x13_1 : Int) := of_decide_eq_true (by first | (with_reducible assumption) | assumption)
                  have q156 : x13_1 < (l0.length : Int) := of_decide_eq_true (by first | (with_reducible assumption) | assumption)
                  obtain ⟨ad156, e156, hx156_0⟩ := Kd.at_int HR0.out x13_1 p156 q156
                  cases e156
                  replace p156 := eq_true p156
                  replace q156 := eq_true q156
                  have p157 : 0 ≤ (x13_1 : Int) := of_decide_eq_true (by first | (with_reducible assumption) | assumption)
                  have q157 : x13_1 < (l1.length : Int) := of_decide_eq_true (by first | (with_reducible assumption) | assumption)
                  obtain ⟨ad157, e157, hx157_0⟩ := Kd.at_int HR1.out x13_1 p157 q157
                  cases e157
                  replace p157 := eq_true p157
                  replace q157 := eq_true q157
                  go_wp2
                  repeat (go_quiet (fail); try go_wp2)
                  go_ret
                  exact ⟨by first | rfl | (simp; done) | (simp [*]; done), by repeat (first | exact Drawn0.refl _ | apply Drawn0.step)⟩
              · rw [if_neg c7] at H
                exact absurd H (by simp)
            · rw [if_neg c6] at H
              exact absurd H (by simp)
          · rw [if_neg c5] at H
            exact absurd H (by simp)
        · rw [if_neg c4] at H
          have c4b0 : decide (x13_1 < (l0.length : Int)) = false := decide_eq_false c4
          clear c4
          obtain rfl := Option.some.inj H
          go_wp2
          repeat (go_quiet (fail); try go_wp2)
          go_ret
          exact ⟨by first | rfl | (simp; done) | (simp [*]; done), by repeat (first | exact Drawn0.refl _ | apply Drawn0.step)⟩
  · rw [if_neg c3] at H
    have c3b0 : ((l0.length : Int) == (l1.length : Int)) = false := beq_eq_false_iff_ne.mpr c3
    have c3b1 : ((l0.length : Int) != (l1.length : Int)) = true := bne_iff_ne.mpr c3
    have c3b2 : (l0.length == l1.length) = false := by first | simpa using c3 | (simp at c3 ⊢; omega)
    obtain rfl := Option.some.inj H
    go_enter Try.func13, Try.ntmps13
    go_wp2
    repeat (go_quiet (fail); try go_wp2)
    go_ret
    exact ⟨by first | rfl | (simp; done) | (simp [*]; done), by repeat (first | exact Drawn0.refl _ | apply Drawn0.step)⟩

/-! ### drive_Disk_Tries: function 14 -/
theorem drive_Disk_Tries.calls (m : Nat) (g : Nat) (D : List Int) (F : List S59) (mp : Int → Int) (N : Nat) (tm : Int) (blk : Int) (w : World) (hI : IsDisk m w g D F mp N tm) (hk : (Lit.int .i64 blk).wf = true) :
    Calls Try.prog 14 #[.pointer (some ⟨g, 0, none⟩), .int .i64 blk] w fun e w' => e = .returned (.int .i64 (mp blk)) ∧ w = w' := by
  obtain ⟨A, c, B, d, b, h1, h2, h3, h4, h5, h6, h7⟩ := hI
  have x0 : w.cell? ⟨g, 2, none⟩ = some (.map (some b)) := (blk_cell h1 2).trans rfl
  have l0 := h7.look blk hk
  clear h1 h2 h3 h4 h5 h6 h7
  go_enter Try.func14, Try.ntmps14
  go_wp2
  go_ret
  exact ⟨rfl, rfl⟩

/-! ### drive_Disk_Time: function 15 -/
theorem drive_Disk_Time.calls (m : Nat) (g : Nat) (D : List Int) (F : List S59) (mp : Int → Int) (N : Nat) (tm : Int) (w : World) (hI : IsDisk m w g D F mp N tm) :
    Calls Try.prog 15 #[.pointer (some ⟨g, 0, none⟩)] w fun e w' => e = .returned (.int .i64 tm) ∧ w = w' := by
  obtain ⟨A, c, B, d, b, h1, h2, h3, h4, h5, h6, h7⟩ := hI
  have x0 : w.cell? ⟨g, 3, none⟩ = some (.int .i64 tm) := (blk_cell h1 3).trans rfl
  clear h1 h2 h3 h4 h5 h6 h7
  go_enter Try.func15, Try.ntmps15
  go_wp2
  go_ret
  exact ⟨rfl, rfl⟩

/-! ### wrackkeep1_DriveTries: function 3 -/
def mpL (p : Int) (i : Nat) : Int → Int := fun y => if y = p then (i : Int) else 0
theorem mpL_at (p : Int) (i : Nat) : mpL p i p = i := by unfold mpL; rw [if_pos rfl]
theorem mpL_upd (p : Int) (i : Nat) : upd (mpL p i) p ((i : Int) + 1) = mpL p (i + 1) := by
  funext y
  unfold upd mpL
  split
  · omega
  · rfl
theorem mpL_zero (p : Int) : mpL p 0 = fun _ => 0 := by
  funext y
  unfold mpL
  split <;> rfl
theorem IsDisk.lim {m : Nat} {w W : World} {g : Nat} {D : List Int} {F : List S59} {mp : Int → Int} {N : Nat} {tm : Int} (h : IsDisk m w g D F mp N tm) (hb : Below w.heap.size w W) : g < w.heap.size ∧ ∀ b, W.cell? ⟨g, 2, none⟩ = some (.map (some b)) → b < w.heap.size := by
  obtain ⟨A, c, B, d, b, h1, h2, h3, h4, h5, h6, h7⟩ := h
  refine ⟨blk_lt h1, fun b' e => ?_⟩
  have e2 : W.cell? ⟨g, 2, none⟩ = some (.map (some b)) := (blk_cell (blk_below h1 hb) 2).trans rfl
  rw [e2] at e
  injection e with e
  injection e with e
  injection e with e
  subst e
  obtain ⟨Dt, h8, _⟩ := h7
  exact h8.lt
theorem wrackkeep1_DriveTries.read_ (k m g : Nat) (D : List Int) (F : List S59) (tm blk : Int) (i : Nat) (f : Int × Int × Int) (R1 : List Int) (T E1 : Int) (w : World) (hI : IsDisk m w g D F (mpL blk i) i tm) (hm : m ≤ w.heap.size) (h : drive_fault.f k D F blk = some f) (q1 : 0 ≤ blk) (q2 : blk * 64 + 64 ≤ (D.length : Int)) (q3 : D.length ≤ 65536)
    (q4 : i ≤ 1000) (q7 : 0 ≤ tm) (q8 : tm ≤ 1000000000000) (eR : ansR D blk f ((i : Int) + 1) = R1) (eT : ansT f = T) (eE : ansE f ((i : Int) + 1) = E1) (q9 : 0 ≤ T) (q10 : T ≤ 100000000) (n : Nat) (n1 : g < n) (n2 : ∀ b, w.cell? ⟨g, 2, none⟩ = some (.map (some b)) → b < n) :
    Calls Try.prog 12 #[.pointer (some ⟨g, 0, none⟩), .int .i64 blk] w fun e w' => ∃ v0_ : Value, e = .returned (.tuple #[v0_, .int .i64 E1]) ∧ Kd.R (Kd.int .u8) 5 w' w.heap.size (fun _ => True) v0_ R1 ∧ IsDisk m w' g D F (mpL blk (i + 1)) (i + 1) (tm + T) ∧ Below m w w' ∧ ∀ k, n ≤ k → k < w.heap.size → w'.heap[k]? = w.heap[k]? := by
  subst eR eT eE
  have hr := drive_Disk_Read.calls k m g D F (mpL blk i) i tm blk f w hI hm h q1 q2 q3 (by omega) (by rw [mpL_at]; omega) (by rw [mpL_at]; omega) q7 q8 q9 q10 n n1 n2
  rw [mpL_at, mpL_upd] at hr
  exact hr
set_option maxHeartbeats 4000000 in
set_option maxRecDepth 100000 in
theorem wrackkeep1_DriveTries.lawx (k : Nat) (A0 : Option Addr) (c0 : Nat) (l0 : List Int) (a1 a2 : Int) (w : World) (hr0 : Kd.C (Kd.int .i64) w A0 l0.length l0) (hc0 : l0.length ≤ c0)
    (D : List Int) (F : List S59) (h1 : wrackmake_Drive.f k l0 = some (D, F)) (h2 : drive_New.f k D F = some ()) (h3 : wrackkeep1_drives.f k = some true) (p : Int) (h4 : wrackmake_Below.f a1 ((D.length : Int) / 64) = some p) (p0 : 0 ≤ p) (p1 : p * 64 + 64 ≤ (D.length : Int)) (p2 : D.length ≤ 65536)
    (Q : Nat) (h5 : wrackmake_Below.f a2 8 = some (Q : Int)) (q1 : Q < 8) (f : Int × Int × Int) (h6 : drive_fault.f k D F p = some f) (t0 : 0 ≤ ansT f) (t1 : ansT f ≤ 100000000) (hc : drive_Check.f k D F = some 0)
    (h7 : slices_Equal_byte_byte.f k [] [] = some true) (h8 : slices_Equal_byte_byte.f k ((D.drop (p * 64).toNat).take 64) ((D.drop (p * 64).toNat).take 64) = some true) :
    Calls Try.prog 3 #[.slice A0 l0.length c0, .int .i64 a1, .int .i64 a2] w fun e w' => e = .returned (.bool true) ∧ Below w.heap.size w w' := by
  have HA : Aside0 (∀ t : Int, 1 ≤ t → drive_Answer.f k D F p t = some (ansR D p f t, ansT f, ansE f t)) := ⟨by
    intro t ht
    unfold drive_Answer.f
    rw [hc, Option.bind_some, if_pos ⟨rfl, p0, p1, ht, p2⟩, h6, Option.bind_some]⟩
  have HE : Aside0 (∀ t : Int, slices_Equal_byte_byte.f k (ansR D p f t) (ansR D p f t) = some true) := ⟨by
    intro t
    unfold ansR
    split
    · exact h8
    · exact h7⟩
  have HZ : Aside0 (∀ t : Int, (ansE f t = 0 ∧ ansE f (t + 1) = 0 ∧ ansR D p f (t + 1) = ansR D p f t) ∨ ansE f t = 19) := ⟨by
    intro t
    by_cases c : ansE f t = 0
    · refine Or.inl ?_
      have c2 : ansE f (t + 1) = 0 := by
        unfold ansE at c ⊢
        split at c
        · cases c
        · rw [if_neg (by omega)]
      refine ⟨c, c2, ?_⟩
      unfold ansR
      rw [if_pos c, if_pos c2]
    · refine Or.inr ?_
      unfold ansE at c ⊢
      split
      · rfl
      · rename_i hn; rw [if_neg hn] at c; exact absurd rfl c⟩
  obtain ⟨n, hn⟩ : ∃ n : Int, (D.length : Int) / 64 = n := ⟨_, rfl⟩
  rw [hn] at h4
  have HBl : Aside0 (∀ (m g : Nat) (mp : Int → Int) (N : Nat) (tm : Int) (w : World), IsDisk m w g D F mp N tm → Calls Try.prog 10 #[.pointer (some ⟨g, 0, none⟩)] w fun e w' => e = .returned (.int .i64 n) ∧ w = w') := ⟨fun m g mp N tm w hI => hn ▸ drive_Disk_Blocks.calls m g D F mp N tm w hI⟩
  clear hn
  have HR0 := Aside0.mk hr0
  have HC0 := Aside0.mk hc0
  have H1 := Aside0.mk h1
  have H2 := Aside0.mk h2
  have H3 := Aside0.mk h3
  have H4 := Aside0.mk h4
  have H5 := Aside0.mk h5
  have H6 := Aside0.mk h6
  obtain ⟨T, hT⟩ : ∃ T, ansT f = T := ⟨_, rfl⟩
  rw [hT] at t0 t1
  have HT := Aside0.mk hT
  have P0 := Aside0.mk p0
  have P1 := Aside0.mk p1
  have P2 := Aside0.mk p2
  clear hr0 hc0 h1 h2 h3 h4 h5 h6 hc h7 h8 hT p0 p1 p2
  go_enter Try.func3, Try.ntmps3
  go_upto_region 2 with ((go_at_call 6; refine (wrackmake_Drive.calls k A0 c0 l0 D F _ HR0.out HC0.out H1.out).mono ?_; rintro e w1 ⟨v1, v2, rfl, hR1, hR2, hb⟩; have HB1 := Aside0.mk hb; have HRD := Aside0.mk hR1; have HRF := Aside0.mk hR2; clear hR1 hR2 hb; obtain ⟨Ad, cd, ed⟩ := Kd.R_slice HRD.out; subst ed; obtain ⟨Af, cf, ef⟩ := Kd.R_slice HRF.out; subst ef))
  have hBK1 : (w1.alloc (Obj.cells #[Value.slice Ad D.length cd, Value.slice Af F.length cf] 26)).heap[w1.heap.size]? = some (.cells #[.slice Ad D.length cd, .slice Af F.length cf] 26 (0, 0)) := blk_new _ _
  have hHB2 := below_alloc HB1.out (Obj.cells #[Value.slice Ad D.length cd, Value.slice Af F.length cf] 26)
  have hHS1 := below_alloc (Below.refl w1.heap.size w1) (Obj.cells #[Value.slice Ad D.length cd, Value.slice Af F.length cf] 26)
  generalize w1.alloc (Obj.cells #[Value.slice Ad D.length cd, Value.slice Af F.length cf] 26) = W1 at hBK1 hHB2 hHS1 ⊢
  have HS1 := Aside0.mk hHS1
  have HB2 := Aside0.mk hHB2
  clear hHB2 hHS1
  have HRD1 := Aside0.mk (Kd.R_below HRD.out HS1.out)
  have HRF1 := Aside0.mk (Kd.R_below HRF.out HS1.out)
  have HLD := Aside0.mk (Kd.R_reads' HRD1.out).2.1
  have HLF := Aside0.mk (Kd.R_reads' HRF1.out).2.1
  have HCD := Aside0.mk (Kd.R_reads' HRD1.out).2.2
  have HCF := Aside0.mk (Kd.R_reads' HRF1.out).2.2
  clear HRD HRF HRD1 HRF1 HS1 HB1
  generalize w1.heap.size = g1 at hBK1 ⊢
  have BK1 := Aside0.mk hBK1
  have hlt1 : g1 < W1.heap.size := blk_lt BK1.out
  clear hBK1
  have x0 : W1.cell? ⟨g1, 0, none⟩ = some (.slice Ad D.length cd) := (blk_cell BK1.out 0).trans rfl
  have x1 : W1.cell? ⟨g1, 1, none⟩ = some (.slice Af F.length cf) := (blk_cell BK1.out 1).trans rfl
  go_upto_region 3 with (go_at_call 7; refine (drive_New.calls k Ad cd D Af cf F _ HCD.out HLD.out HCF.out HLF.out H2.out).mono ?_; rintro e w2 ⟨g, rfl, hI, hb⟩; have HI2 := Aside0.mk hI; have HS2 := Aside0.mk hb; clear hI hb)
  clear x0 x1
  go_upto_region 5 with (go_at_call 8; refine (wrackkeep1_drives.calls k true _ H3.out).mono ?_; rintro e w3 ⟨rfl, hb⟩; have HI3 := Aside0.mk (HI2.out.below hb); have HS3 := Aside0.mk (below_step HS2.out hb); clear hb)
  clear HI2 HS2
  go_upto_region 6 with (first | (go_at_call 10; refine (HBl.out _ g _ _ _ _ HI3.out).mono ?_; rintro e w' ⟨rfl, rfl⟩) | (go_at_call 9; first | (with_reducible refine (wrackmake_Below.calls a1 n p _ H4.out).mono ?_; rintro e w4 ⟨rfl, nd, rfl⟩) | (with_reducible refine (wrackmake_Below.calls a2 8 (Q : Int) _ H5.out).mono ?_; rintro e w5 ⟨rfl, ne, rfl⟩)))
  have HS5 := Aside0.mk (pw_below_drewN HS3.out (nd + ne))
  have HI5 := Aside0.mk (HI3.out.below (pw_below_drewN (Below.refl _ _) (nd + ne)))
  generalize w3.drewN (nd + ne) = W5 at HS5 HI5 ⊢
  clear HI3 HS3
  have HI6 : Aside0 (IsDisk W1.heap.size W5 g D F (mpL p 0) 0 0) := ⟨by rw [mpL_zero]; exact HI5.out⟩
  clear HI5
  obtain ⟨N, hN⟩ : ∃ N : Nat, 1 + Q = N := ⟨_, rfl⟩
  have hN8 : N ≤ 8 := by omega
  have eQ : (1 : Int) + (Q : Int) = (N : Int) := by omega
  go_upto_region 8 with (fail)
  rw [eQ]
  clear eQ
  replace H5 : Aside0 (wrackmake_Below.f a2 8 = some ((N : Int) - 1)) := ⟨by rw [H5.out]; congr 1; omega⟩
  go_loopw [45, 10] (fun i tv wr => ∃ (j : Nat) (tm : Int), j ≤ N ∧ i = .int .i64 j ∧ tv = .int .i64 tm ∧ 0 ≤ tm ∧ tm ≤ j * 100000000 ∧ Aside0 (IsDisk W1.heap.size wr g D F (mpL p j) j tm) ∧ Aside0 (Below W1.heap.size W1 wr)) (fun i _ _ => N - (intOf i).toNat)
  case atStart => exact ⟨0, 0, Nat.zero_le _, rfl, rfl, by omega, by omega, HI6, HS5⟩
  case round =>
    obtain ⟨j, tm, h1, rfl, rfl, h2, h3, HIr, HBr⟩ := hrel
    clear HI6 HS5
    by_cases hlt : j < N
    · have tm3 : tm ≤ 1000000000 := by omega
      have j3 : (j : Int) ≤ 10 := by omega
      have j4 : (0 : Int) ≤ (j : Int) := by omega
      obtain ⟨E1, hE1⟩ : ∃ x, ansE f ((j : Int) + 1) = x := ⟨_, rfl⟩
      obtain ⟨E2, hE2⟩ : ∃ x, ansE f ((j : Int) + 2) = x := ⟨_, rfl⟩
      obtain ⟨R1, hR1⟩ : ∃ x, ansR D p f ((j : Int) + 1) = x := ⟨_, rfl⟩
      obtain ⟨R2, hR2⟩ : ∃ x, ansR D p f ((j : Int) + 2) = x := ⟨_, rfl⟩
      have hz := HZ.out ((j : Int) + 1)
      rw [show (j : Int) + 1 + 1 = (j : Int) + 2 from by omega, hE1, hE2, hR1, hR2] at hz
      have HA1 : Aside0 (drive_Answer.f k D F p ((j : Int) + 1) = some (R1, T, E1)) := ⟨by rw [HA.out _ (by omega), hE1, hR1, HT.out]⟩
      have HA2 : Aside0 (drive_Answer.f k D F p ((j : Int) + 2) = some (R2, T, E2)) := ⟨by rw [HA.out _ (by omega), hE2, hR2, HT.out]⟩
      have HQ1 : Aside0 (slices_Equal_byte_byte.f k R1 R1 = some true) := ⟨by have := HE.out ((j : Int) + 1); rw [hR1] at this; exact this⟩
      have HRS := fun w hI hm n n1 n2 => wrackkeep1_DriveTries.read_ k W1.heap.size g D F tm p j f R1 T E1 w hI hm H6.out P0.out P1.out P2.out (by omega) h2 (by omega) hR1 HT.out hE1 t0 t1 n n1 n2
      replace HRS := Aside0.mk HRS
      have HZ1 := Aside0.mk hz
      clear hz hE1 hE2 hR1 hR2
      have x0 : wr.cell? ⟨g1, 0, none⟩ = some (.slice Ad D.length cd) := (blk_cell (blk_below BK1.out HBr.out) 0).trans rfl
      have x1 : wr.cell? ⟨g1, 1, none⟩ = some (.slice Af F.length cf) := (blk_cell (blk_below BK1.out HBr.out) 1).trans rfl
      go_upto_region 11 with (go_at_call 11; refine (drive_Answer.calls k Ad cd D Af cf F p ((j : Int) + 1) R1 T E1 _ (Kd.C_below HCD.out HBr.out) HLD.out (Kd.C_below HCF.out HBr.out) HLF.out HA1.out).mono ?_; rintro e w6 ⟨v6, rfl, hR, hb⟩; have HR6 := Aside0.mk hR; have HS6 := Aside0.mk hb; have HB6 := Aside0.mk (below_step HBr.out hb); have HI6 := Aside0.mk (HIr.out.below hb); obtain ⟨L1, L2⟩ := HIr.out.lim hb; replace L1 := Aside0.mk L1; replace L2 := Aside0.mk L2; clear hR hb)
      clear x0 x1
      obtain ⟨A6, c6, e6⟩ := Kd.R_slice HR6.out
      subst e6
      go_upto_region 12 with (go_at_call 12; refine (HRS.out _ HI6.out HB6.out.size wr.heap.size L1.out L2.out).mono ?_; rintro e w7 ⟨v7, rfl, hR, hI, hb, hF⟩; have HR7 := Aside0.mk hR; have HB7 := Aside0.mk (HB6.out.trans hb); have HI7 := Aside0.mk hI; have HR67 := Aside0.mk (Kd.R_step (Kd.R_bound HR6.out) (fun k hk hl => hF k hk.2.1 hl)); clear hR hI hb hF)
      obtain ⟨A7, c7, e7⟩ := Kd.R_slice HR7.out
      subst e7
      clear HRS HI6 HIr L1 L2
      have HC6 := Aside0.mk (Kd.R_reads' HR67.out).2.2
      have HL6 := Aside0.mk (Kd.R_reads' HR67.out).2.1
      have HC7 := Aside0.mk (Kd.R_reads' HR7.out).2.2
      have HL7 := Aside0.mk (Kd.R_reads' HR7.out).2.1
      clear HR67 HR6 HB6 HS6 HBr HA1
      rcases HZ1.out with ⟨e1, e2, e3⟩ | e1
      · obtain rfl : R1 = R2 := e3.symm
        subst e1 e2
        clear HZ1
        go_upto_region 15 with (go_at_call 13; refine (slices_Equal_byte_byte.calls k A6 c6 R1 A7 c7 R1 true _ HC6.out HL6.out HC7.out HL7.out HQ1.out).mono ?_; rintro e w8 ⟨rfl, nf, rfl⟩)
        have HI8 := Aside0.mk (HI7.out.below (pw_below_drewN (Below.refl _ _) nf))
        have HB8 := Aside0.mk (pw_below_drewN HB7.out nf)
        have HC68 := Aside0.mk (Kd.C_below HC6.out (pw_below_drewN (Below.refl _ _) nf))
        clear HI7 HB7 HC6 HC7 HR7
        generalize w7.drewN nf = W8 at HI8 HB8 HC68 ⊢
        have x0 : W8.cell? ⟨g1, 0, none⟩ = some (.slice Ad D.length cd) := (blk_cell (blk_below BK1.out HB8.out) 0).trans rfl
        have x1 : W8.cell? ⟨g1, 1, none⟩ = some (.slice Af F.length cf) := (blk_cell (blk_below BK1.out HB8.out) 1).trans rfl
        go_upto_region 16 with (go_at_call 11; refine (drive_Answer.calls k Ad cd D Af cf F p ((j : Int) + 2) R1 T 0 _ (Kd.C_below HCD.out HB8.out) HLD.out (Kd.C_below HCF.out HB8.out) HLF.out HA2.out).mono ?_; rintro e w9 ⟨v9, rfl, hR, hb⟩; have HR9 := Aside0.mk hR; have HB9 := Aside0.mk (below_step HB8.out hb); have HI9 := Aside0.mk (HI8.out.below hb); have HC69 := Aside0.mk (Kd.C_below HC68.out hb); clear hR hb)
        clear x0 x1
        obtain ⟨A9, c9, e9⟩ := Kd.R_slice HR9.out
        subst e9
        have HL9 := Aside0.mk (Kd.R_reads' HR9.out).2.1
        have HC9 := Aside0.mk (Kd.R_reads' HR9.out).2.2
        clear HR9 HI8 HB8 HC68
        go_wp2_with (go_at_call 13; refine (slices_Equal_byte_byte.calls k A6 c6 R1 A9 c9 R1 true _ HC69.out HL6.out HC9.out HL9.out HQ1.out).mono ?_; rintro e w10 ⟨rfl, nh, rfl⟩)
        go_roundw
        case rel => exact ⟨j + 1, tm + T, by omega, by go_num, rfl, by omega, by omega, ⟨HI9.out.below (by repeat (first | (with_reducible first | exact Below.refl _ _ | apply below_alloc | apply pw_below_drewN | apply below_drew1) | exact Below.refl _ _))⟩, ⟨by repeat (first | (with_reducible first | exact HB9.out | apply below_alloc | apply pw_below_drewN | apply below_drew1) | exact HB9.out)⟩⟩
        case measure => simp [intOf]; omega
      · subst e1
        clear HZ1
        go_upto_region 15 with (go_at_call 13; refine (slices_Equal_byte_byte.calls k A6 c6 R1 A7 c7 R1 true _ HC6.out HL6.out HC7.out HL7.out HQ1.out).mono ?_; rintro e w8 ⟨rfl, nf, rfl⟩)
        have HI8 := Aside0.mk (HI7.out.below (pw_below_drewN (Below.refl _ _) nf))
        have HB8 := Aside0.mk (pw_below_drewN HB7.out nf)
        have HC68 := Aside0.mk (Kd.C_below HC6.out (pw_below_drewN (Below.refl _ _) nf))
        clear HI7 HB7 HC6 HC7 HR7
        generalize w7.drewN nf = W8 at HI8 HB8 HC68 ⊢
        have x0 : W8.cell? ⟨g1, 0, none⟩ = some (.slice Ad D.length cd) := (blk_cell (blk_below BK1.out HB8.out) 0).trans rfl
        have x1 : W8.cell? ⟨g1, 1, none⟩ = some (.slice Af F.length cf) := (blk_cell (blk_below BK1.out HB8.out) 1).trans rfl
        go_upto_region 16 with (go_at_call 11; refine (drive_Answer.calls k Ad cd D Af cf F p ((j : Int) + 2) R2 T E2 _ (Kd.C_below HCD.out HB8.out) HLD.out (Kd.C_below HCF.out HB8.out) HLF.out HA2.out).mono ?_; rintro e w9 ⟨v9, rfl, hR, hb⟩; have HR9 := Aside0.mk hR; have HB9 := Aside0.mk (below_step HB8.out hb); have HI9 := Aside0.mk (HI8.out.below hb); have HC69 := Aside0.mk (Kd.C_below HC68.out hb); clear hR hb)
        clear x0 x1
        obtain ⟨A9, c9, e9⟩ := Kd.R_slice HR9.out
        subst e9
        have HL9 := Aside0.mk (Kd.R_reads' HR9.out).2.1
        have HC9 := Aside0.mk (Kd.R_reads' HR9.out).2.2
        clear HR9 HI8 HB8 HC68
        go_wp2_with (fail)
        go_roundw
        case rel => exact ⟨j + 1, tm + T, by omega, by go_num, rfl, by omega, by omega, ⟨HI9.out.below (by repeat (first | (with_reducible first | exact Below.refl _ _ | apply below_alloc | apply pw_below_drewN | apply below_drew1) | exact Below.refl _ _))⟩, ⟨by repeat (first | (with_reducible first | exact HB9.out | apply below_alloc | apply pw_below_drewN | apply below_drew1) | exact HB9.out)⟩⟩
        case measure => simp [intOf]; omega
    · obtain rfl : j = N := by omega
      have hwp : (Lit.int .i64 p).wf = true := by have := P0.out; have := P1.out; have := P2.out; simp [Lit.wf, IntKind.min, IntKind.max, IntKind.bits, IntKind.signed]; omega
      have HWP := Aside0.mk hwp
      clear hwp
      have em : mpL p j p = (j : Int) := mpL_at p j
      have HTR : Aside0 (Calls Try.prog 14 #[.pointer (some ⟨g, 0, none⟩), .int .i64 p] wr fun e w' => e = .returned (.int .i64 (j : Int)) ∧ wr = w') := ⟨by have h := drive_Disk_Tries.calls _ g D F _ _ _ p wr HIr.out HWP.out; rw [em] at h; exact h⟩
      clear em
      go_wp2_with (first | (go_at_call 14; refine HTR.out.mono ?_; rintro e w' ⟨rfl, rfl⟩) | (go_at_call 15; refine (drive_Disk_Time.calls _ g D F _ _ _ _ HIr.out).mono ?_; rintro e w' ⟨rfl, rfl⟩))
      go_ret
      exact ⟨by first | rfl | simp, below_step HB2.out HBr.out⟩
def wrackkeep1_DriveTries.f (k : Nat) (l0 : List Int) (a1 a2 : Int) : Option Bool :=
  (wrackmake_Drive.f k l0).bind fun x => (drive_New.f k x.1 x.2).bind fun _ => (wrackkeep1_drives.f k).bind fun s => (wrackmake_Below.f a1 ((x.1.length : Int) / 64)).bind fun p => (wrackmake_Below.f a2 8).bind fun q => (drive_fault.f k x.1 x.2 p).bind fun f => (drive_Check.f k x.1 x.2).bind fun c =>
  (slices_Equal_byte_byte.f k [] []).bind fun e1 => (slices_Equal_byte_byte.f k ((x.1.drop (p * 64).toNat).take 64) ((x.1.drop (p * 64).toNat).take 64)).bind fun e2 =>
  if s = true ∧ c = 0 ∧ e1 = true ∧ e2 = true ∧ 0 ≤ p ∧ p * 64 + 64 ≤ (x.1.length : Int) ∧ x.1.length ≤ 65536 ∧ 0 ≤ q ∧ q < 8 ∧ 0 ≤ ansT f ∧ ansT f ≤ 100000000 then some true else none
theorem wrackkeep1_DriveTries.calls (k : Nat) (A0 : Option Addr) (c0 : Nat) (l0 : List Int) (a1 a2 : Int) (r : Bool) (w : World) (hr0 : Kd.C (Kd.int .i64) w A0 l0.length l0) (hc0 : l0.length ≤ c0) (h : wrackkeep1_DriveTries.f k l0 a1 a2 = some r) :
    Calls Try.prog 3 #[.slice A0 l0.length c0, .int .i64 a1, .int .i64 a2] w fun e w' => e = .returned (.bool r) ∧ Below w.heap.size w w' := by
  unfold wrackkeep1_DriveTries.f at h
  obtain ⟨⟨D, F⟩, h1, h⟩ := Option.bind_eq_some_iff.mp h
  obtain ⟨_, h2, h⟩ := Option.bind_eq_some_iff.mp h
  obtain ⟨s, h3, h⟩ := Option.bind_eq_some_iff.mp h
  obtain ⟨p, h4, h⟩ := Option.bind_eq_some_iff.mp h
  obtain ⟨q, h5, h⟩ := Option.bind_eq_some_iff.mp h
  obtain ⟨f, h6, h⟩ := Option.bind_eq_some_iff.mp h
  obtain ⟨c, hc, h⟩ := Option.bind_eq_some_iff.mp h
  obtain ⟨e1, h7, h⟩ := Option.bind_eq_some_iff.mp h
  obtain ⟨e2, h8, h⟩ := Option.bind_eq_some_iff.mp h
  simp only at h2 h4 h6 hc h8 h
  split at h
  case isFalse => exact absurd h (by simp)
  case isTrue hh =>
    obtain rfl := Option.some.inj h
    obtain ⟨rfl, rfl, rfl, rfl, x1, x2, x3, x4, x5, x6, x7⟩ := hh
    obtain ⟨Q, rfl⟩ : ∃ Q : Nat, q = Q := ⟨q.toNat, by omega⟩
    exact wrackkeep1_DriveTries.lawx k A0 c0 l0 a1 a2 w hr0 hc0 D F h1 h2 h3 p h4 x1 x2 x3 Q h5 (by omega) f h6 x6 x7 hc h7 h8
/-- THE ONE PURE STATEMENT of wrackkeep1_DriveTries. -/
def wrackkeep1_DriveTries.Pure : Prop := ∀ (l0 : List Int) (a1 : Int) (a2 : Int), l0.length ≤ maxLen → l0.length * 8 ≤ 140737488351232 → (∀ x ∈ l0, (Lit.int .i64 x).wf = true) → (Lit.int .i64 a1).wf = true → (Lit.int .i64 a2).wf = true → ∃ k, wrackkeep1_DriveTries.f k l0 a1 a2 = some true
theorem wrackkeep1_DriveTries.walk (P : wrackkeep1_DriveTries.Pure) (a0 : Option Addr) (len0 cap0 : Nat) (z0 : List Int) (a1 : Int) (a2 : Int) (w : World) (w0 : (a0 = none ∧ len0 = 0 ∧ cap0 = 0 ∧ z0 = []) ∨ ∃ x, a0 = some x ∧ len0 ≤ cap0 ∧ cap0 ≤ maxLen ∧ z0.length = cap0 ∧ (∀ i, i < z0.length → w.cell? (x.add i) = some (.int .i64 (z0.getD i 0))) ∧ ∀ n ∈ z0, (Lit.int .i64 n).wf = true) (y0 : len0 * 8 ≤ 140737488351232) (w1 : (Lit.int .i64 a1).wf = true) (w2 : (Lit.int .i64 a2).wf = true) :
    Calls Try.prog 3 #[.slice a0 len0 cap0, .int .i64 a1, .int .i64 a2] w fun e w' => e = .returned (.bool true) ∧ Below w.heap.size w w' := by
  obtain ⟨l0, rfl, hr0, hm0, hw0, hc0⟩ := ReadsInt.ofRowC w0
  obtain ⟨k, h⟩ := P l0 a1 a2 hm0 y0 hw0 w1 w2
  exact wrackkeep1_DriveTries.calls k _ _ l0 a1 a2 true w (Kd.C_of_reads (d := (0 : Int)) (h1 := fun _ => rfl) hr0) hc0 h

end Go.Proofs.Ytcnabemeadnecaa.PDriveTries
