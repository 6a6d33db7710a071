-- written by prn.py, a program of this session, over the kit's printer
import Derived.Test.YtppbkljdeiegjaaPArrayRoadsx0
import Derived.Test.YtppbkljdeiegjaaPArrayRoadsx2
import Derived.Test.YtppbkljdeiegjaaPArrayRoadsx3
import Derived.Test.YtppbkljdeiegjaaPArrayRoadsx6
import Derived.Test.YtppbkljdeiegjaaPArrayRoadsx8
import Derived.Test.YtppbkljdeiegjaaPArrayRoadsx9
import Derived.Test.YtppbkljdeiegjaaPArrayRoadsx10
namespace Go.Proofs.Ytppbkljdeiegjaa.PArrayRoads
open Go.RowKit Go.Proofs.YtppbkljdeiegjaaW.PrintWords Go.Proofs.YtppbkljdeiegjaaW.PrintLast Go.Proofs.YtppbkljdeiegjaaW.PrintMore Go.Proofs.YtppbkljdeiegjaaW.PrintMine
attribute [local go_sem] max2_int min2_int max_two min_two max_three min_three max_four min_four   -- for this text's walks alone
set_option linter.unusedVariables false
set_option linter.unusedSimpArgs false

/-! ### array_whole_at: function 77 -/
/-- Where n bytes from a byte of member m on stand in the image: in the member, or in all others. -/
def atL (M S : Nat) (gone : Int) (m off n : Nat) : List S42 := if (m : Int) ≠ gone then [⟨((m * S + off : Nat) : Int), (n : Int)⟩] else (List.range M).flatMap fun i => if i = m then [] else [⟨((i * S + off : Nat) : Int), (n : Int)⟩]
def atK (S m off n kk : Nat) : List S42 := (List.range kk).flatMap fun i => if i = m then [] else [⟨((i * S + off : Nat) : Int), (n : Int)⟩]
theorem atK_succ (S m off n kk : Nat) : atK S m off n (kk + 1) = atK S m off n kk ++ if kk = m then [] else [⟨((kk * S + off : Nat) : Int), (n : Int)⟩] := by
  unfold atK
  rw [List.range_succ, List.flatMap_append]
  simp
theorem atK_len (S m off n : Nat) : ∀ kk, (atK S m off n kk).length ≤ kk
  | 0 => by simp [atK]
  | kk + 1 => by
    have := atK_len S m off n kk
    rw [atK_succ, List.length_append]
    split <;> simp <;> omega
theorem lit42 (w : World) (x y : Int) : Kd.R k42 42 (w.alloc (.cells #[.int .i64 x, .int .i64 y] 42)) w.heap.size (fun _ => True) (.slice (some ⟨w.heap.size, 0, none⟩) 1 1) [⟨x, y⟩] := by
  have h := World.ownsRow_lit (base := w.heap.size) (e := 42) (size := 2) w #[.int .i64 x, .int .i64 y] 1 (Nat.le_refl _) (by decide) rfl
  refine ⟨fun _ _ => trivial, _, h, rfl, fun t p hp => ?_⟩
  match t, hp with
  | 0, hp =>
    obtain rfl : (⟨x, y⟩ : S42) = p := by simpa using hp
    exact k42_mkM _ _ _ _
set_option maxHeartbeats 4000000 in
set_option maxRecDepth 100000 in
theorem array_whole_at.calls (a : Ar) (ha : a.Ok) (g : Nat) (mem : List (List Int)) (S : Nat) (gone : Int) (m off n : Nat) (w : World) (hI : IsWh w g a mem S gone) (hS : S ≤ 10000) (hm : m ≤ 10) (ho : off ≤ 100000) (hn : n ≤ 100000) :
    Calls Try.prog 77 #[.pointer (some ⟨g, 0, none⟩), .int .i64 m, .int .i64 off, .int .i64 n] w fun e w' => ∃ v : Value, e = .returned v ∧ Kd.R k42 42 w' w.heap.size (fun _ => True) v (atL a.m S gone m off n) ∧ Below w.heap.size w w' := by
  obtain ⟨gm, cM, h1, h2, h3, h4⟩ := hI
  have H1 := Aside0.mk h1
  obtain ⟨x0, x1, x2, x3, x4, x5, x6⟩ := whc h1
  obtain ⟨m1, m2⟩ := ha.m
  have hmS : ∀ i : Nat, i ≤ 10 → i * S ≤ 10 * 10000 := fun i hi => Nat.mul_le_mul hi hS
  have HMS := Aside0.mk hmS
  clear h1 h2 h3 hmS
  by_cases hc : (m : Int) = gone
  · have HL : Aside0 (atL a.m S gone m off n = atK S m off n a.m) := ⟨by unfold atL atK; rw [if_neg (fun h => h hc)]⟩
    have HAK := Aside0.mk (atK_succ S m off n)
    have HAN := Aside0.mk (atK_len S m off n)
    have HA0 : Aside0 (atK S m off n 0 = []) := ⟨rfl⟩
    subst hc
    have hcb : ((m : Int) != (m : Int)) = false := by simp
    generalize atK S m off n = AK at *
    go_enter Try.func77, Try.ntmps77
    go_wp2
    go_loopg [9, 33] a.m (fun gg v9 s33 wr => ∃ (kk : Nat) (A9 : Option Addr) (c9 n9 : Nat), kk ≤ a.m ∧ a.m - kk ≤ gg ∧ v9 = .slice A9 n9 c9 ∧ s33 = .int .i64 kk ∧ Aside0 (Kd.R k42 42 wr w.heap.size (fun _ => True) (.slice A9 n9 c9) (AK kk)) ∧ Aside0 (Below w.heap.size w wr))
    case atStart => exact ⟨0, none, 0, 0, Nat.zero_le _, by omega, rfl, rfl, ⟨by rw [HA0.out]; exact Kd.R_nil _ _ _ _ _⟩, ⟨Below.refl _ _⟩⟩
    case round =>
      obtain ⟨kk, A9, c9, n9, hkk, hg, rfl, rfl, HO, HB⟩ := hrel
      clear x0 x1 x2 x3 x4 x5 x6
      obtain ⟨x0, x1, x2, x3, x4, x5, x6⟩ := whc (blk_below H1.out HB.out)
      by_cases hlt : kk < a.m
      · have hltz : (kk : Int) < (a.m : Int) := by omega
        have h0 : (0 : Int) ≤ (kk : Int) := by omega
        have hst := HAK.out kk
        have hnk := HAN.out kk
        obtain ⟨acc, hac⟩ : ∃ z, AK kk = z := ⟨_, rfl⟩
        obtain ⟨acc1, hac1⟩ : ∃ z, AK (kk + 1) = z := ⟨_, rfl⟩
        have hO := HO.out
        rw [hac] at hst hnk hO
        rw [hac1] at hst
        have HO2 := Aside0.mk hO
        have HAC := Aside0.mk hac1
        have hks := HMS.out kk (by omega)
        obtain ⟨kS, hkS⟩ : ∃ z, kk * S = z := ⟨_, rfl⟩
        have e1 : (kk : Int) * (S : Int) = (kS : Int) := by rw [← hkS]; exact (Int.natCast_mul _ _).symm
        rw [hkS] at hks hst
        clear hac hac1 hO HO hkS
        by_cases hm : kk = m
        · have HE : Aside0 (acc1 = acc) := ⟨by rw [hst, if_pos hm, List.append_nil]⟩
          have HR : Aside0 (Kd.R k42 42 wr w.heap.size (fun _ => True) (.slice A9 n9 c9) (AK (kk + 1))) := ⟨by rw [HAC.out, HE.out]; exact HO2.out⟩
          have hmb : ((kk : Int) != (m : Int)) = false := by simp [hm]
          have hmb2 : ((kk : Int) == (m : Int)) = true := by simp [hm]
          clear hst hm
          go_wp2
          go_roundg (a.m - (kk + 1))
          case measure => omega
          case rel => exact ⟨kk + 1, A9, c9, n9, by omega, by omega, rfl, by go_num, HR, HB⟩
        · have HE : Aside0 (acc ++ [(⟨(kS : Int) + (off : Int), (n : Int)⟩ : S42)] = acc1) := ⟨by rw [hst, if_neg hm, Int.natCast_add]⟩
          have hmb : ((kk : Int) != (m : Int)) = true := by simp; omega
          have hmb2 : ((kk : Int) == (m : Int)) = false := by simp; omega
          have HK2 : Aside0 ((acc.length + 1) * 16 ≤ 140737488355328) := ⟨by omega⟩
          clear hst hm
          go_wp2_with (first | ((with_reducible refine gate_builtin (b := .append) (xs := #[.tmp 39, .tmp 50]) rfl ?_); at_builtin; refine Kd.R_append k42 (w0 := w) (W := wr) w.heap.size rfl (.tmp 39) (.tmp 50) 38 42 (.agg #[(.int .i64 0), (.int .i64 0)]) 16 rfl Try.underlying38 info42 rfl (by decide) (by omega) (.slice A9 n9 c9) acc (⟨(kS : Int) + (off : Int), (n : Int)⟩ : S42) [.int .i64 ((kS : Int) + (off : Int)), .int .i64 (n : Int)] (fun _ => True) (fun _ => False) rfl rfl (k42_mkM _ _ _ _) (fun _ hk => hk.elim) (fun _ _ => trivial) HO2.out HB.out HB.out.size HK2.out ?_; intro v1 wa ho hb hg hat; rw [HE.out] at ho; obtain ⟨A3, c3, e3⟩ := Kd.R_slice ho; subst e3; generalize acc1.length = n3 at ho ⊢; have HO3 := Aside0.mk ho; have HB5 := Aside0.mk hb; clear ho hb hg hat))
          go_roundg (a.m - (kk + 1))
          case measure => omega
          case rel => exact ⟨kk + 1, A3, c3, n3, by omega, by omega, rfl, by go_num, ⟨by rw [HAC.out]; exact HO3.out⟩, HB5⟩
      · have hltz : ¬ (kk : Int) < (a.m : Int) := by omega
        have hk : kk = a.m := by omega
        have HOF : Aside0 (Kd.R k42 42 wr w.heap.size (fun _ => True) (.slice A9 n9 c9) (atL a.m S (m : Int) m off n)) := ⟨by rw [HL.out, ← hk]; exact HO.out⟩
        clear hk HO
        go_wp2
        go_ret
        exact ⟨_, rfl, HOF.out, HB.out⟩
  · have hcb : ((m : Int) == gone) = false := by simp [hc]
    have hcb2 : ((m : Int) != gone) = true := by simp [hc]
    have hms := HMS.out m hm
    obtain ⟨mS, hmS⟩ : ∃ z, m * S = z := ⟨_, rfl⟩
    have HL : Aside0 (atL a.m S gone m off n = [⟨((mS + off : Nat) : Int), (n : Int)⟩]) := ⟨by unfold atL; rw [if_pos hc, hmS]⟩
    have e1 : (m : Int) * (S : Int) = (mS : Int) := by rw [← hmS]; exact (Int.natCast_mul _ _).symm
    rw [hmS] at hms
    clear hc hmS
    go_enter Try.func77, Try.ntmps77
    go_wp2
    go_ret
    rw [HL.out]
    exact ⟨_, rfl, lit42 w _ _, below_alloc (Below.refl _ _) _⟩

/-! ### array_whole_Road: function 74 -/
theorem kTri_open {w : World} {x : Tri} {cs : List Value} (h : kTri.K w x cs) : cs = [.int .i64 x.f0, .int .i64 x.f1, .int .i64 x.f2] := by
  obtain ⟨c0, c1, rfl, h0, c2, c3, rfl, h2, h3⟩ := h
  have h0' : c0 = [.int .i64 x.f0] := h0
  have h2' : c2 = [.int .i64 x.f1] := h2
  have h3' : c3 = [.int .i64 x.f2] := h3
  subst h0' h2' h3'
  rfl
def rdTri (xs : List Tri) (i : Int) : Tri := xs.getD i.toNat ⟨0, 0, 0⟩
theorem at_Tri {w : World} {A : Option Addr} {n : Nat} {xs : List Tri} (h : Kd.C kTri w A n xs) (i : Int) (h0 : 0 ≤ i) (h1 : i < n) : ∃ ad , A = some ad ∧ w.cell? (ad.add (i.toNat * 3)) = some (.int .i64 (rdTri xs i).f0) ∧ w.cell? ⟨(ad.add (i.toNat * 3)).block, (ad.add (i.toNat * 3)).off + 1, none⟩ = some (.int .i64 (rdTri xs i).f1) ∧ w.cell? ⟨(ad.add (i.toNat * 3)).block, (ad.add (i.toNat * 3)).off + 2, none⟩ = some (.int .i64 (rdTri xs i).f2) := by
  obtain ⟨ad, c, e, _, hK, hc0⟩ := Kd.C_get h ⟨0, 0, 0⟩ i h0 h1
  have hc : ∀ j u, c[j]? = some u → w.cell? (ad.add (i.toNat * 3 + j)) = some u := hc0
  obtain rfl := kTri_open hK
  exact ⟨ad, e, hc 0 _ rfl, by rw [← add_field _ _ 1 (by omega)]; exact hc 1 _ rfl, by rw [← add_field _ _ 2 (by omega)]; exact hc 2 _ rfl⟩
theorem runsL_ok {a : Ar} (ha : a.Ok) (fn : Nat) (hfn : fn ≤ 4) : ∀ (f off n : Nat), off + n ≤ 6000 → ∀ t ∈ runsL a fn f off n, ∃ m p q : Nat, t = ⟨(m : Int), (p : Int), (q : Int)⟩ ∧ m ≤ 4 ∧ p ≤ 12000 ∧ q ≤ 6000
  | 0, off, n, _, t, h => by simp [runsL] at h
  | f + 1, off, n, hb, t, h => by
    simp only [runsL] at h
    split at h
    · simp at h
    · obtain ⟨c1, c2⟩ := ha.c_le
      have hk : (if a.k = 1 then n else min n (a.c - off % a.c)) ≤ n := by split <;> omega
      rcases List.mem_cons.1 h with rfl | h
      · have hml := Ar.mem_lt ha (off / a.c)
        have hm := ha.m
        obtain ⟨d1, d2, d3, d4⟩ := div_facts off a.c (by omega)
        have hqw : off / a.c / a.w * a.c ≤ off := by
          have h1 := Nat.div_le_self (off / a.c) a.w
          have h2 : off / a.c / a.w * a.c ≤ off / a.c * a.c := Nat.mul_le_mul_right _ h1
          omega
        refine ⟨if a.k = 1 then fn else a.mem (off / a.c), off / a.c / a.w * a.c + off % a.c, if a.k = 1 then n else min n (a.c - off % a.c), ?_, ?_, by omega, by omega⟩
        · split <;> rfl
        · split <;> omega
      · exact runsL_ok ha fn hfn f _ _ (by omega) t h
theorem fne_lt : ∀ (mem : List (List Int)), (∃ j, j < mem.length ∧ 0 < (mem.getD j []).length) → fne mem < mem.length
  | [], ⟨j, h, _⟩ => absurd h (Nat.not_lt_zero _)
  | x :: t, ⟨j, h, h2⟩ => by
    unfold fne
    split
    · simp
    · rename_i hx
      cases j with
      | zero => exact absurd h2 hx
      | succ j =>
        have := fne_lt t ⟨j, by simpa using h, by simpa using h2⟩
        simp only [List.length_cons]
        omega
def roadS (a : Ar) (S : Nat) (gone : Int) (ts : List Tri) : List S42 := ts.flatMap fun t => atL a.m S gone t.f0.toNat t.f1.toNat t.f2.toNat
theorem atL_len (M S : Nat) (gone : Int) (m off n : Nat) (hM : 1 ≤ M) : (atL M S gone m off n).length ≤ M := by
  unfold atL
  split
  · simpa using hM
  · exact atK_len S m off n M
theorem roadS_len (a : Ar) (ha : a.Ok) (S : Nat) (gone : Int) : ∀ ts : List Tri, (roadS a S gone ts).length ≤ 4 * ts.length
  | [] => by simp [roadS]
  | t :: ts => by
    have h1 := roadS_len a ha S gone ts
    have h2 := atL_len a.m S gone t.f0.toNat t.f1.toNat t.f2.toNat (by have := ha.m; omega)
    have h3 := ha.m
    unfold roadS at h1 ⊢
    rw [List.flatMap_cons, List.length_append, List.length_cons]
    omega
set_option maxHeartbeats 4000000 in
set_option maxRecDepth 100000 in
theorem array_whole_Road.calls (k : Nat) (a : Ar) (ha : a.Ok) (g : Nat) (mem : List (List Int)) (S : Nat) (gone : Int) (off n : Nat) (r : List S42) (w : World) (hI : IsWh w g a mem S gone) (hS : S ≤ 1500) (hon : off + n ≤ S * a.w) (hex : ∃ j, j < mem.length ∧ 0 < (mem.getD j []).length) (hG : span_Glue.f k (roadS a S gone (runsL a (fne mem) n off n)) = some r) :
    Calls Try.prog 74 #[.pointer (some ⟨g, 0, none⟩), .int .i64 off, .int .i64 n] w fun e w' => ∃ v : Value, e = .returned v ∧ Kd.R k42 42 w' w.heap.size (fun _ => True) v r ∧ Below w.heap.size w w' := by
  obtain ⟨w1, w2⟩ := ha.w_le4
  have hSw : S * a.w ≤ 1500 * 4 := Nat.mul_le_mul hS w2
  have hfl : fne mem ≤ 4 := by
    have h1 := fne_lt mem hex
    obtain ⟨gm, cM, -, -, h3, -⟩ := hI
    have := ha.m
    omega
  have HTL := Aside0.mk (runsL_ok ha (fne mem) hfl n off n (by omega))
  have HSZ : Aside0 (∀ W, Below w.heap.size w W → Calls Try.prog 75 #[.pointer (some ⟨g, 0, none⟩)] W fun e w' => e = .returned (.int .i64 ((S * a.w : Nat) : Int)) ∧ Below W.heap.size W w') := ⟨fun W hb => array_whole_Size.calls a ha g mem S gone W (hI.below hb) (by omega)⟩
  have HRN : Aside0 (∀ W, Below w.heap.size w W → Calls Try.prog 76 #[.pointer (some ⟨g, 0, none⟩), .int .i64 off, .int .i64 n] W fun e w' => ∃ v : Value, e = .returned v ∧ Kd.R kTri 122 w' W.heap.size (fun _ => True) v (runsL a (fne mem) n off n) ∧ (runsL a (fne mem) n off n).length ≤ n ∧ Below W.heap.size W w') := ⟨fun W hb => array_whole_runs.calls a ha g mem S gone off n W (hI.below hb) (by omega) hex⟩
  have HAT : Aside0 (∀ W (m p q : Nat), Below w.heap.size w W → m ≤ 4 → p ≤ 12000 → q ≤ 6000 → Calls Try.prog 77 #[.pointer (some ⟨g, 0, none⟩), .int .i64 m, .int .i64 p, .int .i64 q] W fun e w' => ∃ v : Value, e = .returned v ∧ Kd.R k42 42 w' W.heap.size (fun _ => True) v (atL a.m S gone m p q) ∧ Below W.heap.size W w') := ⟨fun W m p q hb h1 h2 h3 => array_whole_at.calls a ha g mem S gone m p q W (hI.below hb) (by omega) (by omega) (by omega) (by omega)⟩
  have HAN : Aside0 (∀ m p q, (atL a.m S gone m p q).length ≤ 4) := ⟨fun m p q => by have h1 := atL_len a.m S gone m p q (by have := ha.m; omega); have := ha.m; omega⟩
  have HRL := Aside0.mk (roadS_len a ha S gone)
  have HST : Aside0 (∀ (ts : List Tri) (j : Nat) (h : j < ts.length), roadS a S gone (ts.take (j + 1)) = roadS a S gone (ts.take j) ++ atL a.m S gone ts[j].f0.toNat ts[j].f1.toNat ts[j].f2.toNat) := ⟨fun ts j h => by
    unfold roadS
    rw [List.take_add_one, List.getElem?_eq_getElem h, List.flatMap_append]
    simp⟩
  have HR0 : Aside0 (∀ ts : List Tri, roadS a S gone (ts.take 0) = []) := ⟨fun ts => rfl⟩
  have HG := Aside0.mk hG
  clear hfl hI hex hG
  obtain ⟨SW, hSWe⟩ : ∃ z, S * a.w = z := ⟨_, rfl⟩
  rw [hSWe] at HSZ hon hSw
  generalize runsL a (fne mem) n off n = ts at *
  generalize roadS a S gone = rS at *
  generalize atL a.m S gone = aL at *
  have hoz : (off : Int) ≤ (SW : Int) - (n : Int) := by omega
  have hnz : (n : Int) ≤ (SW : Int) := by omega
  clear hSWe ha
  go_enter Try.func74, Try.ntmps74
  go_upto_region 4 with (go_at_call 75; first | ((with_reducible refine (HSZ.out _ (Below.refl _ _)).mono ?_); rintro e w3 ⟨rfl, hb⟩; have HB3 := Aside0.mk hb; clear hb) | ((with_reducible refine (HSZ.out _ HB3.out).mono ?_); rintro e w4 ⟨rfl, hb⟩; have HB4 := Aside0.mk (below_step HB3.out hb); clear hb))
  clear hoz hnz
  go_upto_region 5 with (go_at_call 76; (with_reducible refine (HRN.out _ HB4.out).mono ?_); rintro e w5 ⟨v5, rfl, hr5, hl5, hb⟩; obtain ⟨A5, c5, e5⟩ := Kd.R_slice hr5; subst e5; have HC5 := Aside0.mk (Kd.R_reads' hr5).2.2; have HB5 := Aside0.mk (below_step HB4.out hb); clear hr5 hb)
  obtain ⟨W5, hW5⟩ : ∃ W, W = w5 := ⟨_, rfl⟩
  subst hW5
  have hbt : ts.length ≤ 9223372036854775807 := HC5.out.2.1
  have htl : ts.length ≤ 6000 := by omega
  go_wp2
  go_loopg [7, 35] ts.length (fun gg v7 s35 wr => ∃ (kk : Nat) (A7 : Option Addr) (c7 n7 : Nat), kk ≤ ts.length ∧ ts.length - kk ≤ gg ∧ v7 = .slice A7 n7 c7 ∧ s35 = .int .i64 kk ∧ Aside0 (Kd.R k42 42 wr W5.heap.size (fun _ => True) (.slice A7 n7 c7) (rS (ts.take kk))) ∧ Aside0 (Below W5.heap.size W5 wr))
  case atStart => exact ⟨0, none, 0, 0, Nat.zero_le _, by omega, rfl, rfl, ⟨by rw [HR0.out]; exact Kd.R_nil _ _ _ _ _⟩, ⟨Below.refl _ _⟩⟩
  case round =>
    obtain ⟨kk, A7, c7, n7, hkk, hg, rfl, rfl, HO, HB6⟩ := hrel
    have HBW : Aside0 (Below w.heap.size w wr) := ⟨below_step HB5.out HB6.out⟩
    by_cases hlt : kk < ts.length
    · have hltz : (kk : Int) < (ts.length : Int) := by omega
      have h0 : (0 : Int) ≤ (kk : Int) := by omega
      obtain ⟨ad, e0, z0, z1, z2⟩ := at_Tri HC5.out (kk : Int) h0 hltz
      subst e0
      have hrd : rdTri ts (kk : Int) = ts[kk] := by unfold rdTri; rw [Int.toNat_natCast, List.getD_eq_getElem?_getD, List.getElem?_eq_getElem hlt]; rfl
      rw [hrd, Int.toNat_natCast] at z0 z1 z2
      have hst := HST.out ts kk hlt
      obtain ⟨m, p, q, ht, hm, hp, hq⟩ := HTL.out _ (List.getElem_mem hlt)
      rw [ht] at z0 z1 z2 hst
      simp only [Int.toNat_natCast] at z0 z1 z2 hst
      clear hrd ht
      replace z0 := (HB6.out.cell (World.block_lt_of_cell? W5 _ z0)).trans z0
      replace z1 := (HB6.out.cell (World.block_lt_of_cell? W5 _ z1)).trans z1
      replace z2 := (HB6.out.cell (World.block_lt_of_cell? W5 _ z2)).trans z2
      have han := HAN.out m p q
      have hrl := HRL.out (ts.take kk)
      have hAT := fun W hb => HAT.out W m p q hb hm hp hq
      obtain ⟨ys, hys⟩ : ∃ z, aL m p q = z := ⟨_, rfl⟩
      obtain ⟨acc1, hac1⟩ : ∃ z, rS (ts.take (kk + 1)) = z := ⟨_, rfl⟩
      rw [hys] at hst han hAT
      rw [hac1] at hst
      have HAC := Aside0.mk hac1
      have hO := HO.out
      generalize rS (ts.take kk) = acc at *
      have HO2 := Aside0.mk hO
      have HS2 := Aside0.mk hst
      have HAW := Aside0.mk hAT
      have HK2 : Aside0 ((acc.length + ys.length) * 16 ≤ 140737488355328) := ⟨by rw [List.length_take] at hrl; omega⟩
      clear hst hac1 hO hys han hrl HO hAT
      go_upto_region 7 with (fail)
      obtain ⟨W9, hW9⟩ : ∃ W, W = wr.alloc (.cells #[.int .i64 m, .int .i64 p, .int .i64 q] 122) := ⟨_, rfl⟩
      obtain ⟨gt, hgt⟩ : ∃ g, g = wr.heap.size := ⟨_, rfl⟩
      have BKT := blk_new wr (.cells #[.int .i64 m, .int .i64 p, .int .i64 q] 122)
      rw [← hW9, ← hgt] at BKT
      have y0 : W9.cell? ⟨gt, 0, none⟩ = some (.int .i64 m) := (blk_cell BKT 0).trans rfl
      have y1 : W9.cell? ⟨gt, 1, none⟩ = some (.int .i64 p) := (blk_cell BKT 1).trans rfl
      have y2 : W9.cell? ⟨gt, 2, none⟩ = some (.int .i64 q) := (blk_cell BKT 2).trans rfl
      have HB9 : Aside0 (Below wr.heap.size wr W9) := ⟨by rw [hW9]; exact below_alloc (Below.refl _ _) _⟩
      rw [← hW9, ← hgt]
      clear hW9 hgt BKT z0 z1 z2
      have HO9 := Aside0.mk (Kd.R_below HO2.out HB9.out)
      have HBW9 : Aside0 (Below w.heap.size w W9) := ⟨below_step HBW.out HB9.out⟩
      have HB59 : Aside0 (Below W5.heap.size W5 W9) := ⟨below_step HB6.out HB9.out⟩
      go_wp2_with (first | (go_at_call 77; (with_reducible refine (HAW.out _ HBW9.out).mono ?_); rintro e wa ⟨va, rfl, hra, hb⟩; obtain ⟨Aa, ca, ea⟩ := Kd.R_slice hra; subst ea; have HRa := Aside0.mk (Kd.R_reads' hra).2.2; have HOa := Aside0.mk (Kd.R_below HO9.out hb); have HBa := Aside0.mk (below_step HBW9.out hb); have HB5a := Aside0.mk (below_step HB59.out hb); clear hra hb) | ((with_reducible refine gate_builtin (b := .append) (xs := #[.tmp 39, .tmp 47]) rfl ?_); at_builtin; refine Kd.R_append_rows k42 (w0 := W5) (W := wa) W5.heap.size rfl (.tmp 39) (.tmp 47) 38 42 (.agg #[(.int .i64 0), (.int .i64 0)]) 16 rfl Try.underlying38 info42 rfl (by decide) (by omega) (.slice A7 n7 c7) acc ys Aa ys.length ca (fun _ => True) (fun _ => False) rfl rfl HOa.out HRa.out (fun _ _ h => h) (fun _ h => h.elim) (fun _ _ => trivial) HB5a.out HB5a.out.size HK2.out ?_; intro v1 wb ho hb hg hat; rw [← HS2.out] at ho; obtain ⟨A3, c3, e3⟩ := Kd.R_slice ho; subst e3; generalize acc1.length = n3 at ho ⊢; have HO3 := Aside0.mk ho; have HBb := Aside0.mk hb; clear ho hb hg hat))
      go_roundg (ts.length - (kk + 1))
      case measure => omega
      case rel => exact ⟨kk + 1, A3, c3, n3, by omega, by omega, rfl, by go_num, ⟨by rw [HAC.out]; exact HO3.out⟩, HBb⟩
    · have hltz : ¬ (kk : Int) < (ts.length : Int) := by omega
      have hk : kk = ts.length := by omega
      have HOF : Aside0 (Kd.R k42 42 wr W5.heap.size (fun _ => True) (.slice A7 n7 c7) (rS ts)) := ⟨by have h := HO.out; rwa [hk, List.take_length] at h⟩
      obtain ⟨hn7, hc7, hC7⟩ := Kd.R_reads' HOF.out
      subst hn7
      have HC7 := Aside0.mk hC7
      have HCC7 := Aside0.mk hc7
      clear hk hlt hC7 hc7 HO
      go_wp2_with (go_at_call 30; (with_reducible refine (span_Glue.calls k _ _ _ r _ HC7.out HCC7.out HG.out).mono ?_); rintro e w9 ⟨v9, rfl, hr9, hb⟩; have HR9 := Aside0.mk (Kd.R_lower hr9 HBW.out.size); have HB9 := Aside0.mk (below_step HBW.out hb); clear hr9 hb)
      go_ret
      exact ⟨_, rfl, HR9.out, HB9.out⟩

/-! ### wrackkeep1_ArrayRoads: function 3 -/
theorem whole_road (a : Addr) (w : World) : (method 229 65 (.pointer (some a)) "Road").run Try.prog w = .ok (74, .pointer (some a)) w := by kernel_rfl
theorem Mems.lower {base base' : Nat} {w : World} {g : Nat} {vs : List Value} {mem : List (List Int)} (h : Mems base w g vs mem) (hb : base' ≤ base) : Mems base' w g vs mem := by
  obtain ⟨h1, h2, h3, h4, h5⟩ := h
  exact ⟨h1, Nat.le_trans hb h2, h3, fun i hi => Kd.R_lower (h4 i hi) hb, h5⟩
def memG (a : Ar) (gi : Nat) (mem : List (List Int)) : List (List Int) := if a.k = 2 then mem.set gi [] else mem
def lostG (a : Ar) (gi : Nat) : List Int := if a.k = 2 then [(gi : Int)] else []
def goneG (a : Ar) (gi : Nat) : Int := if a.k = 2 then (gi : Int) else -1
def imgL (S : Nat) (mem : List (List Int)) : List Int := mem.flatMap fun y => y ++ List.replicate (S - y.length) 0
/-- kk bytes of a span are laid over the others. -/
def gotK (size : Nat) (img : List Int) (off : Nat) : Nat → List Int → List Int
  | 0, G => G
  | kk + 1, G => let G1 := gotK size img off kk G; G1.set (kk % size) (bx (G1.getD (kk % size) 0) (img.getD (off + kk) 0))
def gotL (size : Nat) (img : List Int) (ys : List S42) (G : List Int) : List Int := ys.foldl (fun G y => gotK size img y.f0.toNat y.f1.toNat G) G
/-- The greatest length of the first members. -/
def maxK (mem : List (List Int)) : Nat → Nat
  | 0 => 0
  | j + 1 => max (maxK mem j) (mem.getD j []).length
theorem maxK_le (mem : List (List Int)) (S : Nat) (h : ∀ j, (mem.getD j []).length ≤ S) : ∀ j, maxK mem j ≤ S
  | 0 => Nat.zero_le _
  | j + 1 => Nat.max_le.2 ⟨maxK_le mem S h j, h j⟩
theorem imgL_step (S : Nat) (mem : List (List Int)) (kk : Nat) (h : kk < mem.length) : imgL S (mem.take (kk + 1)) = imgL S (mem.take kk) ++ (mem.getD kk [] ++ List.replicate (S - (mem.getD kk []).length) 0) := by
  unfold imgL
  rw [List.take_add_one, List.getElem?_eq_getElem h, List.flatMap_append, List.getD_eq_getElem?_getD, List.getElem?_eq_getElem h]
  simp
theorem imgL_len (S : Nat) (mem : List (List Int)) (h : ∀ y ∈ mem, y.length ≤ S) : (imgL S mem).length = mem.length * S := by
  induction mem with
  | nil => simp [imgL]
  | cons x t ih =>
    have h1 := ih (fun y hy => h y (List.mem_cons_of_mem _ hy))
    have h2 := h x List.mem_cons_self
    unfold imgL at h1 ⊢
    rw [List.flatMap_cons, List.length_append, h1, List.length_append, List.length_replicate, List.length_cons, Nat.add_mul, Nat.one_mul]
    omega
theorem goneG_join (a : Ar) (gi : Nat) : joinGone a (lostG a gi) = goneG a gi := by
  unfold joinGone lostG goneG
  by_cases h : a.k = 2
  · rw [if_pos h, if_pos ⟨h, rfl⟩, if_pos h]; rfl
  · rw [if_neg h, if_neg (fun e => h e.1), if_neg h]
theorem gotK_len (size : Nat) (img : List Int) (off : Nat) : ∀ (kk : Nat) (G : List Int), (gotK size img off kk G).length = G.length
  | 0, _ => rfl
  | kk + 1, G => by
    have h := gotK_len size img off kk G
    show ((gotK size img off kk G).set _ _).length = _
    rw [List.length_set, h]
theorem gotL_len (size : Nat) (img : List Int) : ∀ (ys : List S42) (G : List Int), (gotL size img ys G).length = G.length
  | [], _ => rfl
  | y :: ys, G => by
    show (gotL size img ys (gotK size img y.f0.toNat y.f1.toNat G)).length = _
    rw [gotL_len size img ys, gotK_len]
theorem gotL_step (size : Nat) (img : List Int) (ys : List S42) (G : List Int) (kk : Nat) (h : kk < ys.length) : gotL size img (ys.take (kk + 1)) G = gotK size img (ys[kk]).f0.toNat (ys[kk]).f1.toNat (gotL size img (ys.take kk) G) := by
  unfold gotL
  rw [List.take_add_one, List.getElem?_eq_getElem h, List.foldl_append]
  rfl
/-- What the law asks of the bytes b. -/
def RoadFacts (a : Ar) (rows gi o size : Nat) (b : List Int) : Prop :=
  ∃ (k : Nat) (road ys : List S42) (cnt : Int), array_missing.f k (memG a gi (splitL a b (rows * a.c) (rows * a.w))) = some (lostG a gi, ((rows * a.c : Nat) : Int), true) ∧
    (∃ j, j < (memG a gi (splitL a b (rows * a.c) (rows * a.w))).length ∧ 0 < ((memG a gi (splitL a b (rows * a.c) (rows * a.w))).getD j []).length) ∧ (∀ y ∈ memG a gi (splitL a b (rows * a.c) (rows * a.w)), y.length ≤ rows * a.c) ∧ maxK (memG a gi (splitL a b (rows * a.c) (rows * a.w))) a.m = rows * a.c ∧
    span_Glue.f k (roadS a (rows * a.c) (goneG a gi) (runsL a (fne (memG a gi (splitL a b (rows * a.c) (rows * a.w)))) size o size)) = some road ∧
    span_Slice.f k road 0 ((imgL (rows * a.c) (memG a gi (splitL a b (rows * a.c) (rows * a.w)))).length : Int) = some ys ∧
    (∀ y ∈ ys, 0 ≤ y.f0 ∧ 0 ≤ y.f1 ∧ y.f1 % (size : Int) = 0 ∧ y.f0 + y.f1 ≤ ((imgL (rows * a.c) (memG a gi (splitL a b (rows * a.c) (rows * a.w)))).length : Int)) ∧ ys.length ≤ a.m ∧
    slices_Equal_byte_byte.f k (gotL size (imgL (rows * a.c) (memG a gi (splitL a b (rows * a.c) (rows * a.w)))) ys (List.replicate size 0)) ((b.take (o + size)).drop o) = some true ∧
    span_Count.f k road = some cnt ∧ 0 ≤ cnt ∧ cnt % (size : Int) = 0
set_option maxHeartbeats 4000000 in
set_option maxRecDepth 100000 in
theorem wrackkeep1_ArrayRoads.lawx (k rows gi o z : Nat) (a : Ar) (ha : a.Ok) (A1 : Option Addr) (c1 : Nat) (l1 : List Int) (A2 : Option Addr) (c2 : Nat) (l2 : List Int) (n off sz gone : Int) (D : List Int) (w : World) (hr1 : Kd.C (Kd.int .i64) w A1 l1.length l1) (hc1 : l1.length ≤ c1) (hr2 : Kd.C (Kd.int .i64) w A2 l2.length l2) (hc2 : l2.length ≤ c2)
    (hA : wrackmake_Array.f l1 = some ((a.k : Int), (a.m : Int), (a.ch : Int), a.lf)) (hn : wrackmake_Below.f n 4 = some ((rows - 1 : Nat) : Int)) (hrows : 1 ≤ rows ∧ rows ≤ 4) (hD : wrackmake_Bytes.f k l2 ((rows * a.w * a.c : Nat) : Int) = some D) (hDl : D.length ≤ 100000)
    (hT1 : wrackkeep1_arrays.f k = some true) (hT2 : wrackkeep1_spans.f k = some true) (hg : wrackmake_Below.f gone (a.m : Int) = some (gi : Int)) (hgi : gi < a.m)
    (ho : wrackmake_Below.f off ((rows * a.w * a.c : Nat) : Int) = some (o : Int)) (hol : o < rows * a.w * a.c) (hz : wrackmake_Below.f sz ((min (64 - o % 64) (rows * a.w * a.c - o) : Nat) : Int) = some (z : Int)) (hzl : z < min (64 - o % 64) (rows * a.w * a.c - o))
    (hP : ∀ b : List Int, b.length = rows * a.w * a.c → (∀ x ∈ b, 0 ≤ x ∧ x < 256) → RoadFacts a rows gi o (1 + z) b) :
    Calls Try.prog 3 #[.slice A1 l1.length c1, .slice A2 l2.length c2, .int .i64 n, .int .i64 off, .int .i64 sz, .int .i64 gone] w fun e w' => e = .returned (.bool true) ∧ Below w.heap.size w w' := by
  have HA := Aside0.mk ha
  obtain ⟨w1, w2⟩ := ha.w_le4
  obtain ⟨c1', c2'⟩ := ha.c_le
  obtain ⟨m1, m2⟩ := ha.m
  have HMA : Aside0 (Calls Try.prog 5 #[.slice A1 l1.length c1] w fun e w' => e = .returned (.agg #[.int .i64 a.k, .int .i64 a.m, .int .i64 a.ch, .bool a.lf]) ∧ Below w.heap.size w w') := ⟨wrackmake_Array.calls A1 c1 l1 _ _ _ _ w hr1 hc1 hA⟩
  have HRW : Aside0 (∀ W, Below w.heap.size w W → Calls Try.prog 6 #[.agg #[.int .i64 a.k, .int .i64 a.m, .int .i64 a.ch, .bool a.lf], .slice A2 l2.length c2, .int .i64 n] W fun e w' => ∃ (v : Value) (b : List Int), e = .returned v ∧ b.length = rows * a.w * a.c ∧ (∀ x ∈ b, 0 ≤ x ∧ x < 256) ∧ Kd.R (Kd.int .u8) 5 w' W.heap.size (fun _ => True) v b ∧ Below W.heap.size W w') := ⟨fun W hb => by
    have h := wrackkeep1_rows.calls k (rows - 1) a ha A2 c2 l2 n D W (Kd.C_below hr2 hb) hc2 hn (by omega) (by rw [show 1 + (rows - 1) = rows by omega]; exact hD) hDl
    rw [show 1 + (rows - 1) = rows by omega] at h
    exact h⟩
  have HSP : Aside0 (∀ (b : List Int) W A c, b.length = rows * a.w * a.c → Kd.C (Kd.int .u8) W A b.length b → b.length ≤ c → Calls Try.prog 7 #[.slice A b.length c, .agg #[.int .i64 a.k, .int .i64 a.m, .int .i64 a.ch, .bool a.lf]] W fun e w' => ∃ (g : Nat) (vs : List Value), e = .returned (.tuple #[.slice (some ⟨g, 0, none⟩) a.m a.m, .int .i64 0]) ∧ Mems W.heap.size w' g vs (splitL a b (rows * a.c) (rows * a.w)) ∧ Below W.heap.size W w') := ⟨fun b W A c h1 h2 h3 => array_Split.calls rows a ha A c b W h2 h3 h1 hrows.1 hrows.2⟩
  have HT1 : Aside0 (∀ W, Calls Try.prog 8 #[] W fun e w' => e = .returned (.bool true) ∧ Below W.heap.size W w') := ⟨fun W => (wrackkeep1_arrays.calls k true W hT1).mono fun e w' ⟨h1, h2⟩ => ⟨h1, by first | exact h2 | exact h2.below⟩⟩
  have HT2 : Aside0 (∀ W, Calls Try.prog 9 #[] W fun e w' => e = .returned (.bool true) ∧ Below W.heap.size W w') := ⟨fun W => (wrackkeep1_spans.calls k true W hT2).mono fun e w' ⟨h1, h2⟩ => ⟨h1, by first | exact h2 | exact h2.below⟩⟩
  have HG := Aside0.mk hg
  have HO0 := Aside0.mk ho
  have HZ := Aside0.mk hz
  have HP := Aside0.mk hP
  have HRO := Aside0.mk hrows
  clear hr1 hr2 hc1 hc2 hA hn hD hDl hT1 hT2 hg ho hz hP ha hrows
  go_enter Try.func3, Try.ntmps3
  go_upto_region 2 with (go_at_call 5; (with_reducible refine HMA.out.mono ?_); rintro e w1 ⟨rfl, hb⟩; have HB1 := Aside0.mk hb; clear hb)
  obtain ⟨W0, hW0⟩ : ∃ W, W = w1.alloc (.cells #[.int .i64 a.k, .int .i64 a.m, .int .i64 a.ch, .bool a.lf] 24) := ⟨_, rfl⟩
  obtain ⟨gx, hgx⟩ : ∃ g, g = w1.heap.size := ⟨_, rfl⟩
  have BKX : Aside0 (W0.heap[gx]? = some (.cells #[.int .i64 a.k, .int .i64 a.m, .int .i64 a.ch, .bool a.lf] 24 (0, 0))) := ⟨by rw [hW0, hgx]; exact blk_new w1 _⟩
  have HB0 : Aside0 (Below w.heap.size w W0) := ⟨by rw [hW0]; exact below_alloc HB1.out _⟩
  rw [← hW0, ← hgx]
  clear hW0 hgx HB1
  obtain ⟨x0, x1, x2, x3⟩ := boxc BKX.out
  go_upto_region 3 with (go_at_call 6; (with_reducible refine (HRW.out _ HB0.out).mono ?_); rintro e w2 ⟨v2, b, rfl, hbl, hby, hrb, hb⟩; have HBL := Aside0.mk hbl; have HBY := Aside0.mk hby; obtain ⟨Ab, cb, eb⟩ := Kd.R_slice hrb; subst eb; have BK2 := Aside0.mk (blk_below BKX.out hb); obtain ⟨y0, y1, y2, y3⟩ := boxc BK2.out; have HRB := Aside0.mk hrb; have HB0S := Aside0.mk HB0.out.size; have HB2 := Aside0.mk (below_step HB0.out hb); clear hrb hbl hby hb)
  clear x0 x1 x2 x3 BKX HB0
  obtain ⟨hbn, hbc, hbC⟩ := Kd.R_reads' HRB.out
  have HBC := Aside0.mk (Kd.R_lower HRB.out HB0S.out)
  have HBcc := Aside0.mk hbc
  have hbb := hbC.2.1
  clear hbn hbC hbc HRB
  go_upto_region 4 with (go_at_call 7; (with_reducible refine (HSP.out b _ Ab cb HBL.out (Kd.R_reads' HBC.out).2.2 HBcc.out).mono ?_); rintro e w3 ⟨gO, vs, rfl, hm, hb⟩; have MEM3 := Aside0.mk hm; have BK3 := Aside0.mk (blk_below BK2.out hb); obtain ⟨u0, u1, u2, u3⟩ := boxc BK3.out; have HBC3 := Aside0.mk (Kd.R_below HBC.out hb); have HB3 := Aside0.mk (below_step HB2.out hb); have HS3 := Aside0.mk HB2.out.size; clear hm hb)
  clear y0 y1 y2 y3 BK2 HBC
  go_upto_region 6 with (first | (go_at_call 8; (with_reducible refine (HT1.out _).mono ?_); rintro e w4 ⟨rfl, hb⟩; have MEM4 := Aside0.mk (MEM3.out.below hb); have BK4 := Aside0.mk (blk_below BK3.out hb); have HBC4 := Aside0.mk (Kd.R_below HBC3.out hb); have HB4 := Aside0.mk (below_step HB3.out hb); clear hb) | (go_at_call 9; (with_reducible refine (HT2.out _).mono ?_); rintro e w5 ⟨rfl, hb⟩; have MEM5 := Aside0.mk (MEM4.out.below hb); have BK5 := Aside0.mk (blk_below BK4.out hb); obtain ⟨z0, z1, z2, z3⟩ := boxc BK5.out; have HBC5 := Aside0.mk (Kd.R_below HBC4.out hb); have HB5 := Aside0.mk (below_step HB4.out hb); clear hb))
  clear u0 u1 u2 u3 MEM3 MEM4 BK3 BK4 HBC3 HBC4 HB2 HB3 HB4
  go_upto_region 7 with (go_at_call 10; (with_reducible refine (wrackmake_Below.calls gone (a.m : Int) (gi : Int) _ HG.out).mono ?_); rintro e w6 ⟨rfl, hd⟩; have hb := hd.below; have MEM6 := Aside0.mk (MEM5.out.below hb); have BK6 := Aside0.mk (blk_below BK5.out hb); have HBC6 := Aside0.mk (Kd.R_below HBC5.out hb); have HB6 := Aside0.mk (below_step HB5.out hb); clear hb hd)
  clear z0 z1 z2 z3 MEM5 BK5 HBC5 HB5
  obtain ⟨x0, x1, x2, x3⟩ := boxc BK6.out
  have hgz : (gi : Int) < (a.m : Int) := by omega
  have hg0 : (0 : Int) ≤ (gi : Int) := by omega
  obtain ⟨w6', hw6⟩ : ∃ W, W = w6 := ⟨_, rfl⟩
  have hsl : (splitL a b (rows * a.c) (rows * a.w)).length = a.m := (split_get HA.out b rows HBL.out (rows * a.w) (Nat.le_refl _)).1
  have HSI : Aside0 (∀ i, i < a.m → ((splitL a b (rows * a.c) (rows * a.w)).getD i []).length = rows * a.c) := ⟨fun i hi => ((split_get HA.out b rows HBL.out (rows * a.w) (Nat.le_refl _)).2 i hi).1⟩
  have HGM : Aside0 (memG a gi (splitL a b (rows * a.c) (rows * a.w)) = if a.k = 2 then (splitL a b (rows * a.c) (rows * a.w)).set gi [] else splitL a b (rows * a.c) (rows * a.w)) := ⟨rfl⟩
  have hmgl : (memG a gi (splitL a b (rows * a.c) (rows * a.w))).length = a.m := by unfold memG; split <;> simp [hsl]
  have HFA := Aside0.mk (HP.out b HBL.out HBY.out)
  unfold RoadFacts at HFA
  generalize splitL a b (rows * a.c) (rows * a.w) = ms at *
  generalize memG a gi ms = mg at *
  have HSLm := Aside0.mk hsl
  clear hw6
  go_upto_if 65 with (fail)
  go_cut [] (fun wx => ∃ vs2, Aside0 (Mems w.heap.size wx gO vs2 mg) ∧ Aside0 (wx.heap[gx]? = some (.cells #[.int .i64 a.k, .int .i64 a.m, .int .i64 a.ch, .bool a.lf] 24 (0, 0))) ∧ Aside0 (Kd.R (Kd.int .u8) 5 wx w.heap.size (fun _ => True) (.slice Ab b.length cb) b) ∧ Aside0 (Below w.heap.size w wx))
  case first =>
    by_cases hk : a.k = 2
    · have hkz : ((a.k : Int) == 2) = true := by rw [hk]; rfl
      have hil : gi < ms.length := by omega
      obtain ⟨cc, ff⟩ := MEM6.out.cell hil
      have hP := MEM6.out.put hil (Kd.R_nil (Kd.int .u8) 5 w6 _ (fun _ => True)) (fun j k _ _ _ h => by cases h)
      have HP7 : Aside0 (Mems w.heap.size (w6.setCell ⟨gO, gi, none⟩ (.slice none 0 0)) gO (vs.set gi (.slice none 0 0)) mg) := ⟨by rw [HGM.out, if_pos hk]; exact hP.lower (HS3.out)⟩
      have hnx : gx ≠ gO := fun e => by have h1 := MEM6.out.1; rw [← e, BK6.out] at h1; simp at h1
      have HX7 : Aside0 ((w6.setCell ⟨gO, gi, none⟩ (.slice none 0 0)).heap[gx]? = some (.cells #[.int .i64 a.k, .int .i64 a.m, .int .i64 a.ch, .bool a.lf] 24 (0, 0))) := ⟨(blk_far BK6.out hnx _).trans rfl⟩
      have HB7 : Aside0 (Below w.heap.size w (w6.setCell ⟨gO, gi, none⟩ (.slice none 0 0))) := ⟨HB6.out.setCell (by have h1 := MEM6.out.2.1; have h2 := HS3.out; exact Nat.le_trans h2 h1) _⟩
      have HC7 : Aside0 (Kd.R (Kd.int .u8) 5 (w6.setCell ⟨gO, gi, none⟩ (.slice none 0 0)) w.heap.size (fun _ => True) (.slice Ab b.length cb) b) := ⟨Kd.R_set HBC6.out MEM6.out.1 (fun q hq => by have e2 : q = 5 := (by simpa [Kd.int, Kd.scalar] using hq); rw [e2]; decide) gi _⟩
      clear hP hil hk
      go_wp2
      go_meet
      case rel => exact ⟨_, HP7, HX7, HC7, HB7⟩
    · have hkz : ((a.k : Int) == 2) = false := by simp; omega
      have HP7 : Aside0 (Mems w.heap.size w6 gO vs mg) := ⟨by rw [HGM.out, if_neg hk]; exact MEM6.out.lower HS3.out⟩
      clear hk
      go_wp2
      go_meet
      case rel => exact ⟨_, HP7, BK6, HBC6, HB6⟩
  case rest =>
    obtain ⟨vs2, MEM7, BK7, HBC7, HB7⟩ := hcut
    obtain ⟨k', road, ys, cnt, hMi, hne, hle, hmx, hGl, hSl, hys, hyl, hEq, hCt, hc0, hcm⟩ := HFA.out
    have hScc : rows * a.c ≤ 512 := by
      have : rows * a.c ≤ 4 * 128 := Nat.mul_le_mul HRO.out.2 c2'
      omega
    have hBLL : b.length ≤ 2048 := by
      rw [HBL.out]
      have h1 : rows * a.w ≤ 4 * 4 := Nat.mul_le_mul HRO.out.2 HA.out.w_le4.2
      have h2 : rows * a.w * a.c ≤ 16 * 128 := Nat.mul_le_mul h1 c2'
      omega
    have hSc0 : (rows * a.c) % a.c = 0 := Nat.mul_mod_left _ _
    have hmg5 : mg.length ≤ 1000 := by omega
    have HJN : Aside0 (∀ W, Mems w.heap.size W gO vs2 mg → Calls Try.prog 11 #[.slice (some ⟨gO, 0, none⟩) a.m a.m, .agg #[.int .i64 a.k, .int .i64 a.m, .int .i64 a.ch, .bool a.lf]] W fun e w' => ∃ g : Nat, e = .returned (.tuple #[.iface 65 (.pointer (some ⟨g, 0, none⟩)), .int .i64 0]) ∧ IsWh w' g a mg (rows * a.c) (goneG a gi) ∧ Below W.heap.size W w') := ⟨fun W hW => by
      have h := array_Join.calls k' a HA.out (some ⟨gO, 0, none⟩) a.m mg (rows * a.c) (lostG a gi) W (hW.C hmg5) (by omega) hmgl hMi hSc0 hScc (by
        unfold lostG joinMost
        have := HA.out.k
        rcases (show a.k = 0 ∨ a.k = 1 ∨ a.k = 2 by omega) with e | e | e <;> rw [e] <;> simp) (fun x hx => Nat.le_trans (hle x hx) hScc)
      rw [goneG_join] at h
      exact h⟩
    clear hMi hSc0
    obtain ⟨S, hS⟩ : ∃ z, z = rows * a.c := ⟨_, rfl⟩
    rw [← hS] at HJN hle hmx hGl hSl hys hEq hScc
    have HRD : Aside0 (∀ W g, IsWh W g a mg S (goneG a gi) → ∀ W', Below W.heap.size W W' → Calls Try.prog 74 #[.pointer (some ⟨g, 0, none⟩), .int .i64 o, .int .i64 ((1 + z : Nat) : Int)] W' fun e w' => ∃ v : Value, e = .returned v ∧ Kd.R k42 42 w' W'.heap.size (fun _ => True) v road ∧ Below W'.heap.size W' w') := ⟨fun W g hI W' hb => array_whole_Road.calls k' a HA.out g mg S (goneG a gi) o (1 + z) road W' (hI.below hb) (by omega) (by
      rw [hS, Nat.mul_right_comm]
      omega) hne hGl⟩
    clear hne hGl
    have HSS := Aside0.mk hS
    clear hS
    obtain ⟨x0, x1, x2, x3⟩ := boxc BK7.out
    go_upto_region 12 with (go_at_call 11; (with_reducible refine (HJN.out _ MEM7.out).mono ?_); rintro e w8 ⟨gw, rfl, hI, hb⟩; have HW8 := Aside0.mk hI; have MEM8 := Aside0.mk (MEM7.out.below hb); have HBC8 := Aside0.mk (Kd.R_below HBC7.out hb); have HB8 := Aside0.mk (below_step HB7.out hb); clear hI hb)
    clear x0 x1 x2 x3 HJN BK7 MEM7 HBC7
    have HCM := MEM8.out.C hmg5
    have HMD : Aside0 (∀ kk, kk < a.m → ∃ A2 c2, w8.cell? ⟨gO, kk, none⟩ = some (.slice A2 (mg.getD kk []).length c2) ∧ Kd.C (Kd.int .u8) w8 A2 (mg.getD kk []).length (mg.getD kk []) ∧ (mg.getD kk []).length ≤ S ∧ (mg.getD kk []).length ≤ c2) := ⟨fun kk hlt => by
      have hkm : kk < mg.length := by omega
      obtain ⟨ad, cs, e0, hcl1, ⟨A2, c2, rfl, hl2, hC2⟩, hcell⟩ := ReadsRow.get_ HCM [] (kk : Int) (by omega) (by omega)
      injection e0 with e0
      subst e0
      have hx0 := hcell 0 _ rfl
      rw [show ((kk : Int)).toNat = kk from Int.toNat_natCast kk, Nat.add_zero, show (Kd.slice 5 (Kd.int .u8)).sz = 1 from rfl, Nat.mul_one, add_plain] at hx0
      rw [show ((kk : Int)).toNat = kk from Int.toNat_natCast kk] at hl2 hC2
      have hgd : mg.getD kk [] = mg[kk] := by rw [List.getD_eq_getElem?_getD, List.getElem?_eq_getElem hkm]; rfl
      refine ⟨A2, c2, hx0, hC2, by rw [hgd]; exact hle _ (List.getElem_mem hkm), hl2⟩⟩
    have HLE := Aside0.mk hle
    clear HCM hle
    have HBZ : Aside0 (Below w8.heap.size w8 w8) := ⟨Below.refl _ _⟩
    have hmx0 := HMD
    clear hmx0
    have HMX := Aside0.mk hmx
    have HSE := Aside0.mk hSl
    have HYS := Aside0.mk hys
    have HEQ := Aside0.mk hEq
    have HCT := Aside0.mk hCt
    have HCN := Aside0.mk hcm
    clear hmx hSl hys hEq hCt hcm hmg5
    have HKB : Aside0 (∀ kk, kk ≤ a.m → maxK mg kk ≤ S) := ⟨fun kk _ => maxK_le mg S (fun j => by
      by_cases h : j < a.m
      · obtain ⟨_, _, _, _, h3, _⟩ := HMD.out j h
        exact h3
      · rw [List.getD_eq_getElem?_getD, List.getElem?_eq_none (by omega)]
        exact Nat.zero_le _) kk⟩
    go_wp2
    go_loopg [19, 83] a.m (fun gg s19 s83 wr => ∃ (kk : Nat), kk ≤ a.m ∧ a.m - kk ≤ gg ∧ s83 = .int .i64 kk ∧ s19 = .int .i64 ((maxK mg kk : Nat) : Int) ∧ Aside0 (wr = w8))
    case atStart => exact ⟨0, Nat.zero_le _, by omega, rfl, rfl, ⟨rfl⟩⟩
    case round =>
      obtain ⟨kk, hkk, hg, rfl, rfl, ⟨rfl⟩⟩ := hrel
      by_cases hlt : kk < a.m
      · have hltz : (kk : Int) < (a.m : Int) := by omega
        have h0 : (0 : Int) ≤ (kk : Int) := by omega
        obtain ⟨A2, d2, y0, -, hl2, hc2⟩ := HMD.out kk hlt
        have hMK : Aside0 (maxK mg (kk + 1) = max (maxK mg kk) (mg.getD kk []).length) := ⟨rfl⟩
        have hb1 := HKB.out kk hkk
        generalize mg.getD kk [] = xs at *
        generalize maxK mg kk = mx at *
        generalize xs.length = lx at *
        go_wp2
        all_goals
          go_roundg (a.m - (kk + 1))
          case measure => omega
          case rel =>
            refine ⟨kk + 1, by omega, by omega, rfl, ?_, ⟨rfl⟩⟩
            rw [hMK.out]
            congr 1
            omega
      · have hgez : ¬ (kk : Int) < (a.m : Int) := by omega
        obtain rfl : kk = a.m := by omega
        rw [HMX.out]
        go_wp2
        obtain ⟨W8, hW8⟩ : ∃ W, W = wr := ⟨_, rfl⟩
        subst hW8
        go_loopg [22, 94] a.m (fun gg s22 s94 wr => ∃ (kk : Nat) (v : Value), kk ≤ a.m ∧ a.m - kk ≤ gg ∧ s94 = .int .i64 kk ∧ v = s22 ∧ Aside0 (Kd.R (Kd.int .u8) 5 wr W8.heap.size (fun _ => True) v (imgL S (mg.take kk))) ∧ Aside0 (Below W8.heap.size W8 wr))
        case atStart => exact ⟨0, _, Nat.zero_le _, by omega, rfl, rfl, ⟨Kd.R_nil (Kd.int .u8) 5 _ _ (fun _ => True)⟩, HBZ⟩
        case round =>
          obtain ⟨kk, v, hkk, hg, rfl, rfl, HO, HBW⟩ := hrel
          by_cases hlt : kk < a.m
          · have hltz : (kk : Int) < (a.m : Int) := by omega
            have h0 : (0 : Int) ≤ (kk : Int) := by omega
            obtain ⟨A2, d2, y0, hC2, hl2, hc2⟩ := HMD.out kk hlt
            replace y0 := (HBW.out.cell (World.block_lt_of_cell? W8 _ y0)).trans y0
            have HST := Aside0.mk (imgL_step S mg kk (by omega))
            have HXC := Aside0.mk (Kd.C_below hC2 HBW.out)
            have HIM : (imgL S (mg.take kk)).length ≤ 2048 := by
              rw [imgL_len S _ (fun y hy => HLE.out y (List.mem_of_mem_take hy)), List.length_take]
              have h1 : min kk mg.length * S ≤ 4 * 512 := Nat.mul_le_mul (by omega) hScc
              omega
            clear hC2
            generalize imgL S (mg.take kk) = im at *
            generalize mg.getD kk [] = xs at *
            have hXL : Aside0 (xs.length ≤ S) := ⟨hl2⟩
            obtain ⟨lx, hlx⟩ : ∃ z, z = xs.length := ⟨_, rfl⟩
            have HLX := Aside0.mk hlx
            rw [← hlx] at y0 hl2 hc2 HXC
            clear hlx
            have hsw : IntKind.i64.wrap ((S : Int) - (lx : Int)) = (S : Int) - (lx : Int) := by rw [i64_w]; unfold wrap64; omega
            go_wp2_with (first | ((with_reducible refine gate_builtin (b := .append) (xs := #[.tmp 98, .tmp 99]) rfl ?_); at_builtin; go_loud (refine Kd.R_append_rows (Kd.int .u8) (w0 := W8) W8.heap.size rfl (.tmp 98) (.tmp 99) 26 5 (.int .u8 0) 1 rfl Try.underlying26 info5 rfl (by decide) (by omega) v im xs A2 _ _ (fun _ => True) (fun _ => False) rfl rfl HO.out HXC.out (fun _ _ h => h) (fun _ h => h.elim) (fun _ _ => trivial) HBW.out HBW.out.size (by omega) ?_); intro v1 w1 ho hb hg hat; clear hg hat; have HO1 := Aside0.mk ho; have HB1 := Aside0.mk hb; clear ho hb) | ((with_reducible refine gate_builtin (b := .append) (xs := #[.tmp 100, .tmp 104]) rfl ?_); at_builtin; go_loud (refine Kd.R_append_zeros (Kd.int .u8) (w0 := W8) W8.heap.size rfl (.tmp 100) (.tmp 104) 26 3 5 (.int .u8 0) 1 rfl Try.underlying26 Try.underlying3 info5 rfl (by decide) (by omega) v1 (im ++ xs) (0 : Int) ((S : Int) - (lx : Int)) (fun _ => True) rfl rfl rfl (fun _ _ => trivial) HO1.out (by omega) HB1.out HB1.out.size (by rw [List.length_append, ← HLX.out]; omega) ?_); intro v3 w3 ho hb hg hat; clear hg hat; have HO3 := Aside0.mk ho; have HB3 := Aside0.mk hb; clear ho hb))
            go_roundg (a.m - (kk + 1))
            case measure => omega
            case rel => exact ⟨kk + 1, _, by omega, by omega, rfl, rfl, ⟨by rw [HST.out, ← HLX.out, ← List.append_assoc, show S - lx = ((S : Int) - (lx : Int)).toNat by omega]; exact HO3.out⟩, HB3⟩
          · have hgez : ¬ (kk : Int) < (a.m : Int) := by omega
            obtain rfl : kk = a.m := by omega
            rw [show mg.take a.m = mg by rw [← hmgl, List.take_length]] at HO
            have HIL : Aside0 ((imgL S mg).length ≤ 2048) := ⟨by
              rw [imgL_len S _ HLE.out]
              have h1 : mg.length * S ≤ 4 * 512 := Nat.mul_le_mul (by omega) hScc
              omega⟩
            have HOB : Aside0 (∀ W, Calls Try.prog 10 #[.int .i64 off, .int .i64 (b.length : Int)] W fun e w' => e = .returned (.int .i64 o) ∧ Below W.heap.size W w') := ⟨fun W => (wrackmake_Below.calls off (b.length : Int) (o : Int) W (by rw [HBL.out]; exact HO0.out)).mono fun e w' ⟨h1, h2⟩ => ⟨h1, h2.below⟩⟩
            have HZB : Aside0 (∀ W, Calls Try.prog 10 #[.int .i64 sz, .int .i64 ((min (64 - o % 64) (b.length - o) : Nat) : Int)] W fun e w' => e = .returned (.int .i64 z) ∧ Below W.heap.size W w') := ⟨fun W => (wrackmake_Below.calls sz _ (z : Int) W (by rw [HBL.out]; exact HZ.out)).mono fun e w' ⟨h1, h2⟩ => ⟨h1, h2.below⟩⟩
            have hob : o < b.length := by rw [HBL.out]; exact hol
            have hozb : z < min (64 - o % 64) (b.length - o) := by rw [HBL.out]; exact hzl
            generalize imgL S mg = im at *
            go_upto_region 25 with (go_at_call 10; (with_reducible refine (HOB.out _).mono ?_); rintro e w10 ⟨rfl, hb⟩; have HOX := Aside0.mk (Kd.R_below HO.out hb); have HBX := Aside0.mk (below_step HBW.out hb); clear hb)
            clear HO HBW
            have HZC : Aside0 (∀ (x : Int) W, x = min (64 - (o : Int) % 64) ((b.length : Int) - (o : Int)) → Calls Try.prog 10 #[.int .i64 sz, .int .i64 x] W fun e w' => e = .returned (.int .i64 z) ∧ Below W.heap.size W w') := ⟨fun x W hx => by
              have h := HZB.out W
              rwa [show ((min (64 - o % 64) (b.length - o) : Nat) : Int) = x by omega] at h⟩
            go_cut [4] (fun v4 wx => v4 = .int .i64 (1 + (z : Int)) ∧ Aside0 (Below w10.heap.size w10 wx))
            case first =>
              go_wp2_with (go_at_call 10; (with_reducible refine (HZC.out _ _ (by omega)).mono ?_); rintro e w11 ⟨rfl, hb⟩; have HBq := Aside0.mk hb; clear hb)
              all_goals
                go_meet
                case rel => exact ⟨rfl, HBq⟩
            case rest =>
            obtain ⟨rfl, HBq⟩ := hcut
            have HOY := Aside0.mk (Kd.R_below HOX.out HBq.out)
            have HBV := Aside0.mk (below_step HBX.out HBq.out)
            obtain ⟨w11, hw11⟩ : ∃ W, W = wc := ⟨_, rfl⟩
            subst hw11
            clear HOX HBX HZB HZC HOB HZ HO0
            obtain ⟨size, hsz⟩ : ∃ s, s = 1 + z := ⟨_, rfl⟩
            rw [show (1 : Int) + (z : Int) = (size : Int) by omega]
            rw [← hsz] at HRD HYS HEQ HCN
            have hoz : o + size ≤ b.length := by omega
            have hsb : 1 ≤ size ∧ size ≤ 64 := by omega
            clear hsz hozb hol hzl
            have hmt := whole_road ⟨gw, 0, none⟩
            go_upto_region 27 with (go_at_call 74; (with_reducible refine (HRD.out _ gw HW8.out _ HBV.out).mono ?_); rintro e w12 ⟨vr, rfl, hr, hb⟩; obtain ⟨Ar, cr, er⟩ := Kd.R_slice hr; subst er; have HRR := Aside0.mk (Kd.R_reads' hr); have HOZ := Aside0.mk (Kd.R_below HOY.out hb); have HBU := Aside0.mk (below_step HBV.out hb); clear hr hb)
            clear HOY HBV HRD hmt
            obtain ⟨Ai, ci, ei⟩ := Kd.R_slice HOZ.out
            subst ei
            have HIC := Aside0.mk (Kd.R_reads' HOZ.out).2.2
            have him : im.length ≤ 2048 := HIL.out
            have HRC := Aside0.mk HRR.out.2.2
            have HRN := Aside0.mk HRR.out.2.1
            have hmm := print_make_of (P := Try.prog) 26 5 (.int .u8 0) 1 Try.underlying26 info5 rfl (by decide) size (by omega)
            generalize hMM : madeCells #[.int .u8 0] size = MM at hmm
            have HMC := Aside0.mk hMM
            clear hMM
            go_upto_region 28 with (fail)
            clear hmm
            obtain ⟨W3, hW3⟩ : ∃ W, W = w12.alloc (.cells MM 5) := ⟨_, rfl⟩
            obtain ⟨gT, hgT⟩ : ∃ g, g = w12.heap.size := ⟨_, rfl⟩
            have HG3 : Aside0 (Kd.R (Kd.int .u8) 5 W3 w12.heap.size (fun _ => True) (.slice (some ⟨gT, 0, none⟩) size size) (List.replicate size 0)) := ⟨by
              have h := Kd.R_of_own (enc := Value.int .u8) (h1 := fun _ => rfl) (ok := fun _ => True) (own_made' w12 w12.heap.size 5 .u8 size (Nat.le_refl _) (by omega)) (fun _ _ => trivial)
              rw [HMC.out] at h
              rw [hW3, hgT]
              exact h⟩
            have HB3 : Aside0 (Below w12.heap.size w12 W3) := ⟨by rw [hW3]; exact below_alloc (Below.refl _ _) _⟩
            rw [← hW3, ← hgT]
            clear hW3 HMC
            have HGT := Aside0.mk hgT
            clear hgT
            go_upto_region 29 with (go_at_call 12; (with_reducible refine (span_Slice.calls k' Ar cr road 0 (im.length : Int) ys _ (Kd.C_below HRC.out HB3.out) HRN.out HSE.out).mono ?_); rintro e w13 ⟨vy, rfl, hr, hb⟩; obtain ⟨Ay, cy, ey⟩ := Kd.R_slice hr; subst ey; have HYR := Aside0.mk (Kd.R_lower hr HB3.out.size); have HG13 := Aside0.mk (Kd.R_below HG3.out hb); have HB13 := Aside0.mk (below_step HB3.out hb); clear hr hb)
            have HPQ : Aside0 (∀ (j : Nat) (h : j < ys.length), ∃ p q : Nat, ys[j] = ⟨(p : Int), (q : Int)⟩ ∧ q % size = 0 ∧ p + q ≤ im.length) := ⟨fun j h => by
              obtain ⟨h1, h2, h3, h4⟩ := HYS.out _ (List.getElem_mem h)
              refine ⟨(ys[j]).f0.toNat, (ys[j]).f1.toNat, ?_, ?_, ?_⟩
              · rw [Int.toNat_of_nonneg h1, Int.toNat_of_nonneg h2]
              · have e : (ys[j]).f1 = (((ys[j]).f1.toNat : Nat) : Int) := (Int.toNat_of_nonneg h2).symm
                rw [e] at h3
                omega
              · omega⟩
            have hyb : ys.length ≤ 4 := by omega
            have hszz : (1 : Int) ≤ (size : Int) := by omega
            have hszN : ¬ size = 0 := by omega
            have hszn : ¬ (size : Int) = 0 := by omega
            go_wp2_with (fail)
            go_loopg [133] ys.length (fun gg s133 wr => ∃ (kk : Nat), kk ≤ ys.length ∧ ys.length - kk ≤ gg ∧ s133 = .int .i64 kk ∧ Aside0 (Kd.R (Kd.int .u8) 5 wr w12.heap.size (fun _ => True) (.slice (some ⟨gT, 0, none⟩) size size) (gotL size im (ys.take kk) (List.replicate size 0))) ∧ Aside0 (Kd.R k42 42 wr w12.heap.size (fun _ => True) (.slice Ay ys.length cy) ys) ∧ Aside0 (Below w12.heap.size w12 wr))
            case atStart => exact ⟨0, Nat.zero_le _, by omega, rfl, HG13, HYR, HB13⟩
            case round =>
              obtain ⟨kk, hkk, hg, rfl, HG, HY, HBA⟩ := hrel
              by_cases hlt : kk < ys.length
              · have hltz : (kk : Int) < (ys.length : Int) := by omega
                have h0 : (0 : Int) ≤ (kk : Int) := by omega
                have hkm : ¬ (a.m : Int) < (kk : Int) := by omega
                obtain ⟨ad, e0, z0, z1⟩ := at_T42 (Kd.R_reads' HY.out).2.2 (kk : Int) h0 hltz
                subst e0
                have hrd : rd_T42 ys (kk : Int) = ys[kk] := by unfold rd_T42; rw [Int.toNat_natCast, List.getD_eq_getElem?_getD, List.getElem?_eq_getElem hlt]; rfl
                obtain ⟨p, q, hpq, hqs, hpl⟩ := HPQ.out kk hlt
                have HST := Aside0.mk (gotL_step size im ys (List.replicate size 0) kk hlt)
                rw [hpq] at HST
                rw [hrd, hpq, Int.toNat_natCast] at z0 z1
                clear hrd hpq
                simp only [Int.toNat_natCast] at z0 z1 HST
                have HGL : Aside0 ((gotL size im (ys.take kk) (List.replicate size 0)).length = size) := ⟨by rw [gotL_len, List.length_replicate]⟩
                generalize gotL size im (ys.take kk) (List.replicate size 0) = G0 at *
                have E1 : Aside0 (Int.tmod (q : Int) (size : Int) = 0) := ⟨by rw [tmod_nat, hqs]; rfl⟩
                have E2 : Aside0 ((q : Int) % (size : Int) = 0) := ⟨by omega⟩
                have e1 := E1.out
                have e2 := E2.out
                have e3 : IntKind.i64.wrap ((p : Int) + (q : Int)) = (p : Int) + (q : Int) := by rw [i64_w]; unfold wrap64; omega
                have hpz : ¬ (im.length : Int) < (p : Int) + (q : Int) := by omega
                go_upto_region 31 with (fail)
                obtain ⟨W9, hW9⟩ : ∃ W, W = wr.alloc (.cells #[.int .i64 p, .int .i64 q] 42) := ⟨_, rfl⟩
                obtain ⟨gt, hgt⟩ : ∃ g, g = wr.heap.size := ⟨_, rfl⟩
                have BKT := blk_new wr (.cells #[.int .i64 p, .int .i64 q] 42)
                rw [← hW9, ← hgt] at BKT
                have HB9 : Aside0 (Below wr.heap.size wr W9) := ⟨by rw [hW9]; exact below_alloc (Below.refl _ _) _⟩
                rw [← hW9, ← hgt]
                clear hW9 hgt z0 z1
                have BK9 := Aside0.mk BKT
                have HG9 := Aside0.mk (Kd.R_below HG.out HB9.out)
                have HY9 := Aside0.mk (Kd.R_below HY.out HB9.out)
                have HBA9 := Aside0.mk (below_step HBA.out HB9.out)
                have y0 : W9.cell? ⟨gt, 0, none⟩ = some (.int .i64 p) := (blk_cell BKT 0).trans rfl
                have y1 : W9.cell? ⟨gt, 1, none⟩ = some (.int .i64 q) := (blk_cell BKT 1).trans rfl
                clear BKT HG HY HBA HB9
                go_upto_region 33 with (fail)
                clear e1 e2 e3 hpz y0 y1 E1 E2 hkm
                obtain ⟨y0, y1⟩ : W9.cell? ⟨gt, 0, none⟩ = some (.int .i64 p) ∧ W9.cell? ⟨gt, 1, none⟩ = some (.int .i64 q) := ⟨(blk_cell BK9.out 0).trans rfl, (blk_cell BK9.out 1).trans rfl⟩
                go_wp2_with (fail)
                clear y0 y1
                go_loopg [161] q (fun gg s161 wr => ∃ (t : Nat), t ≤ q ∧ q - t ≤ gg ∧ s161 = .int .i64 t ∧ Aside0 (Kd.R (Kd.int .u8) 5 wr w12.heap.size (fun _ => True) (.slice (some ⟨gT, 0, none⟩) size size) (gotK size im p t G0)) ∧ Aside0 (Kd.R k42 42 wr w12.heap.size (fun _ => True) (.slice (some ad) ys.length cy) ys) ∧ Aside0 (Below w12.heap.size w12 wr) ∧ Aside0 (wr.heap[gt]? = some (.cells #[.int .i64 p, .int .i64 q] 42 (0, 0))))
                case atStart => exact ⟨0, Nat.zero_le _, by omega, rfl, HG9, HY9, HBA9, BK9⟩
                case round =>
                  clear HG9 HY9 HBA9 BK9
                  obtain ⟨t, htq, hg2, rfl, HG, HY, HBA, BKT⟩ := hrel
                  by_cases hlq : t < q
                  · have hlqz : (t : Int) < (q : Int) := by omega
                    obtain ⟨i, hi⟩ : ∃ i, t % size = i := ⟨_, rfl⟩
                    have his : i < size := by rw [← hi]; exact Nat.mod_lt _ (by omega)
                    have e1 : Int.tmod (t : Int) (size : Int) = (i : Int) := by rw [tmod_nat, hi]
                    have e2 : (t : Int) % (size : Int) = (i : Int) := by omega
                    obtain ⟨j, hj⟩ : ∃ j, j = p + t := ⟨_, rfl⟩
                    have e3 : IntKind.i64.wrap ((p : Int) + (t : Int)) = (j : Int) := by rw [i64_w]; unfold wrap64; omega
                    have hjl : j < im.length := by omega
                    have hjz : (j : Int) < (im.length : Int) := by omega
                    have hj0 : (0 : Int) ≤ (j : Int) := by omega
                    have hi0 : (0 : Int) ≤ (i : Int) := by omega
                    have hiz : (i : Int) < (size : Int) := by omega
                    obtain ⟨adi, e0, z0⟩ := Kd.at_int (Kd.C_below HIC.out HBA.out) (j : Int) hj0 hjz
                    rw [Int.toNat_natCast] at z0
                    have hrd : rd im (j : Int) = im.getD j 0 := by unfold rd; rw [Int.toNat_natCast]
                    rw [hrd] at z0
                    have hst : gotK size im p (t + 1) G0 = (gotK size im p t G0).set i (bx ((gotK size im p t G0).getD i 0) (im.getD j 0)) := by rw [hj, ← hi]; rfl
                    obtain ⟨y0, f0⟩ := Kd.R_celln 0 HG.out (i : Int) hi0 hiz
                    have hrd2 : rdOf 0 (gotK size im p t G0) (i : Int) = (gotK size im p t G0).getD i 0 := by unfold rdOf; rw [Int.toNat_natCast]
                    rw [hrd2, Int.toNat_natCast] at y0
                    rw [Int.toNat_natCast] at f0
                    obtain ⟨inner, hown⟩ := Kd.R_own HG.out
                    obtain ⟨csT, hT⟩ := own_typed hown gT rfl
                    have HT := Aside0.mk hT
                    clear hown
                    have hbx : ∀ x y : Int, Go.bits .xor .u8 x y = bx x y := fun _ _ => rfl
                    obtain ⟨vx, hvx⟩ : ∃ z, (gotK size im p t G0).getD i 0 = z := ⟨_, rfl⟩
                    obtain ⟨vy, hvy⟩ : ∃ z, im.getD j 0 = z := ⟨_, rfl⟩
                    rw [hvx, hvy] at hst
                    rw [hvx] at y0
                    rw [hvy] at z0
                    have HST2 := Aside0.mk hst
                    have HPUT : Aside0 (∀ W, Below wr.heap.size wr W → Kd.R (Kd.int .u8) 5 (W.setCell ⟨gT, i, none⟩ (.int .u8 (bx vx vy))) w12.heap.size (fun _ => True) (.slice (some ⟨gT, 0, none⟩) size size) (gotK size im p (t + 1) G0) ∧ Kd.R k42 42 (W.setCell ⟨gT, i, none⟩ (.int .u8 (bx vx vy))) w12.heap.size (fun _ => True) (.slice (some ad) ys.length cy) ys ∧ Below w12.heap.size w12 (W.setCell ⟨gT, i, none⟩ (.int .u8 (bx vx vy))) ∧ (W.setCell ⟨gT, i, none⟩ (.int .u8 (bx vx vy))).heap[gt]? = some (.cells #[.int .i64 p, .int .i64 q] 42 (0, 0))) := ⟨fun W hW => by
                      have g1 := Kd.R_below HG.out hW
                      obtain ⟨p1, p2⟩ := Kd.R_putg g1 (i : Int) (bx vx vy)
                      rw [Int.toNat_natCast] at p1 p2
                      have gB := below_step HBA.out hW
                      have gX := blk_below BKT.out hW
                      have gT1 := blk_below HT.out hW
                      have hne : gt ≠ gT := fun e => by rw [← e, gX] at gT1; simp at gT1
                      refine ⟨by rw [HST2.out]; exact p1, Kd.R_set (Kd.R_below HY.out hW) gT1 (fun q hq => by rw [show (42 :: k42.E) = [42] from rfl] at hq; rw [List.mem_singleton.1 hq]; decide) i _, gB.grown p2 gB.size (fun k hk => by injection hk with hk; subst hk; exact Kd.R_base HG.out _ rfl), (blk_far gX hne _).trans rfl⟩⟩
                    clear hrd hrd2 hst hvx hvy hT hi hj HST2 HG HY
                    subst e0
                    obtain ⟨b0, b1⟩ : wr.cell? ⟨gt, 0, none⟩ = some (.int .i64 p) ∧ wr.cell? ⟨gt, 1, none⟩ = some (.int .i64 q) := ⟨(blk_cell BKT.out 0).trans rfl, (blk_cell BKT.out 1).trans rfl⟩
                    go_upto_region 36 with (fail)
                    go_region_with (fail)
                    all_goals
                      go_wp2_with fail
                      go_roundg (q - (t + 1))
                      case measure => omega
                      case rel =>
                        obtain ⟨p1, p2, p3, p4⟩ := HPUT.out wr (Below.refl _ _)
                        exact ⟨t + 1, by omega, by omega, rfl, ⟨Kd.R_drew p1⟩, ⟨Kd.R_drew p2⟩, ⟨below_drew1 p3⟩, ⟨p4⟩⟩
                  · have hlqz : ¬ (t : Int) < (q : Int) := by omega
                    have htq2 : t = q := by omega
                    have HGF : Aside0 (Kd.R (Kd.int .u8) 5 wr w12.heap.size (fun _ => True) (.slice (some ⟨gT, 0, none⟩) size size) (gotL size im (ys.take (kk + 1)) (List.replicate size 0))) := ⟨by rw [HST.out, ← htq2]; exact HG.out⟩
                    clear htq2 HG
                    go_wp2_with (fail)
                    go_roundg (ys.length - (kk + 1))
                    case measure => omega
                    case rel => exact ⟨kk + 1, by omega, by omega, rfl, HGF, HY, HBA⟩
              · have hltz : ¬ (kk : Int) < (ys.length : Int) := by omega
                have hk : kk = ys.length := by omega
                have HGF : Aside0 (Kd.R (Kd.int .u8) 5 wr w12.heap.size (fun _ => True) (.slice (some ⟨gT, 0, none⟩) size size) (gotL size im ys (List.replicate size 0))) := ⟨by have h := HG.out; rwa [hk, List.take_length] at h⟩
                clear hk hlt HG
                go_upto_region 39 with (fail)
                obtain ⟨i5, hi5, _, hsz5, _⟩ := info_parts info5
                have hbC := Kd.R_reads' (Kd.R_below (Kd.R_below HBC8.out HBU.out) HBA.out)
                have hcx := cut_mid (P := Try.prog) 26 5 .i64 .i64 Try.underlying26 hi5 1 hsz5 Ab b.length cb (o : Int) ((o : Int) + (size : Int)) (by omega) (by omega) (by omega) hbC.2.1
                have hcC := Kd.C_mid (lo := o) (hi := o + size) hbC.2.2 (by omega) hoz hbC.2.1
                rw [show (Kd.int .u8).sz = 1 from rfl] at hcC
                rw [show ((o : Int)).toNat = o from Int.toNat_natCast o, show ((o : Int) + (size : Int)).toNat - o = size by omega] at hcx
                have hcl : ((b.take (o + size)).drop o).length = size := by rw [List.length_drop, List.length_take]; omega
                generalize (if cb = o then Ab else Ab.map (·.add (o * 1))) = AC at hcx hcC
                obtain ⟨hn, hnc, hC⟩ := Kd.R_reads' HGF.out
                have HEB : Aside0 (Calls Try.prog 13 #[.slice (some ⟨gT, 0, none⟩) size size, .slice AC size (cb - o)] wr fun e w' => e = .returned (.bool true) ∧ Below wr.heap.size wr w') := ⟨by
                  have h := slices_Equal_byte_byte.calls k' (some ⟨gT, 0, none⟩) size _ AC (cb - o) _ true wr hC (Nat.le_of_eq hn.symm) hcC (by rw [hcl]; omega) HEQ.out
                  rw [← hn, hcl] at h
                  exact h.mono fun e w' ⟨h1, h2⟩ => ⟨h1, h2.below⟩⟩
                have HCO : Aside0 (∀ W, Below wr.heap.size wr W → Calls Try.prog 14 #[.slice Ar road.length cr] W fun e w' => e = .returned (.int .i64 cnt) ∧ Below W.heap.size W w') := ⟨fun W hW => span_Count.calls k' Ar cr road cnt W (Kd.C_below HRC.out (below_step HBA.out hW)) HRN.out HCT.out⟩
                have c1 : Int.tmod cnt (size : Int) = 0 := by rw [Int.tmod_eq_emod_of_nonneg hc0]; exact HCN.out
                have c2 : cnt % (size : Int) = 0 := HCN.out
                have e3 : IntKind.i64.wrap ((o : Int) + (size : Int)) = (o : Int) + (size : Int) := by rw [i64_w]; unfold wrap64; omega
                have HEND := Aside0.mk (below_step HB8.out (below_step HBU.out HBA.out))
                clear hi5 hsz5 hbC hcC hcl hn hnc hC
                go_wp2_with (first | (go_at_call 13; (with_reducible refine HEB.out.mono ?_); rintro e w14 ⟨rfl, hb⟩; have HB14 := Aside0.mk hb; clear hb) | (go_at_call 14; (with_reducible refine (HCO.out _ HB14.out).mono ?_); rintro e w15 ⟨rfl, hb⟩; have HB15 := Aside0.mk (below_step HB14.out hb); clear hb))
                go_ret
                exact ⟨rfl, below_step HEND.out HB15.out⟩

end Go.Proofs.Ytppbkljdeiegjaa.PArrayRoads
