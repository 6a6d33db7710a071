-- written by prn.py, a program of this session, over the kit's printer
import Derived.Test.YtcnabemeadnecaaPPassReadsx0
import Derived.Test.YtcnabemeadnecaaPPassReadsx1
import Derived.Test.YtcnabemeadnecaaPPassReadsx2
namespace Go.Proofs.Ytcnabemeadnecaa.PPassReads
open Go.RowKit Go.Proofs.YtcnabemeadnecaaW.PrintWords Go.Proofs.YtcnabemeadnecaaW.PrintLast Go.Proofs.YtcnabemeadnecaaW.PrintMore Go.Proofs.YtcnabemeadnecaaW.PrintMine
attribute [local go_sem] max2_int min2_int max_two min_two max_three min_three max_four min_four   -- for this text's walks alone
set_option linter.unusedVariables false
set_option linter.unusedSimpArgs false

/-! ### slices_Clone_byte_byte: function 24 -/
def slices_Clone_byte_byte.f (l0 : List Int) : Option (List Int) := if l0.length ≤ 140737488355328 then (some l0) else (none)
set_option maxHeartbeats 8000000 in
set_option maxRecDepth 100000 in
theorem slices_Clone_byte_byte.calls (A0 : Option Addr) (c0 : Nat) (l0 : List Int) (r : List Int) (w : World) (hr0 : Kd.C (Kd.int .u8) w A0 l0.length l0) (hc0 : l0.length ≤ c0) (h : slices_Clone_byte_byte.f l0 = some r) :
    Calls Try.prog 24 #[.slice A0 l0.length c0] w fun e w' => ∃ v0_ : Value, e = .returned (v0_) ∧ Kd.R (Kd.int .u8) 5 w' w.heap.size (fun _ => True) v0_ r ∧ Below w.heap.size w w' := by
  have H : (if l0.length ≤ 140737488355328 then (some l0) else (none)) = some r := h
  clear h
  by_cases c1 : l0.length ≤ 140737488355328
  · rw [if_pos c1] at H
    obtain rfl := Option.some.inj H
    clear H
    have q1 : ∀ (w : World) (a : Option Addr) (n c n' c' : Nat), (binOp .eql 23 (.slice a n c) (.slice none n' c')).run Try.prog w = .ok (.bool a.isNone) w := fun w a n c n' c' => Go.Lib.run_eql_slice_nil w _ _ a n c n' c' Try.underlying23
    cases A0 with
    | none =>
      have h0 : l0.length = 0 := by
        rcases Nat.eq_zero_or_pos l0.length with h0 | h0
        · exact h0
        · obtain ⟨ad, h, _⟩ := hr0.2.2 h0
          cases h
      obtain rfl := List.eq_nil_of_length_eq_zero h0
      clear hr0 hc0 c1 h0
      go_enter Try.func24, Try.ntmps24
      go_wp2
      go_ret
      exact ⟨_, rfl, Kd.R_nil _ _ _ _ _, Below.refl _ _⟩
    | some ad =>
      have HR := Aside0.mk hr0
      have C1 := Aside0.mk (show (([] : List Int).length + l0.length) * 1 ≤ 140737488355328 from by simp only [List.length_nil]; omega)
      clear hr0 hc0 c1
      go_enter Try.func24, Try.ntmps24
      go_wp2_with (first | (at_builtin; refine Kd.R_append_rows (Kd.int .u8) (w0 := w) w.heap.size rfl (.tmp 5) (.tmp 6) 23 5 (.int .u8 0) 1 rfl Try.underlying23 info5 rfl (by decide) (by omega) (.slice (some ⟨w.heap.size, 0, none⟩) 0 0) [] l0 (some ad) _ _ (fun _ => True) (fun _ => False) rfl rfl ⟨fun _ _ => trivial, [], World.ownsRow_made w #[] 0 (Nat.le_refl _) (Nat.zero_le _) (by simp), Reps.none _ _⟩ (Kd.C_below HR.out (below_alloc (Below.refl _ _) _)) (fun _ _ h => h) (fun _ h => h.elim) (fun _ _ => trivial) (below_alloc (Below.refl _ _) _) (by simp) C1.out ?_; intro v1 w1 ho hb hg hat; clear hg hat; rw [List.nil_append] at ho; have HO := Aside0.mk ho; have HB := Aside0.mk hb; clear ho hb))
      go_ret
      exact ⟨_, rfl, HO.out, HB.out⟩
  · rw [if_neg c1] at H
    exact absurd H (by simp)

/-- A state of type 59 at block g of W; what its slices lead to came in by w0. -/
def IsS59 (w0 W : World) (g : Nat) (f0 : Int) (f1 : Int) (f2 : Int) : Prop := W.heap[g]? = some (.cells #[.int .i64 f0, .int .i64 f1, .int .i64 f2] 59 (0, 0)) ∧ w0.heap.size ≤ g
theorem IsS59.grown {w0 W : World} {g : Nat} {f0 : Int} {f1 : Int} {f2 : Int} {W1 : World} {row : Option Nat} (h : IsS59 w0 W g f0 f1 f2) (hw : W.grownBy W1 row) (hne : some g ≠ row) : IsS59 w0 W1 g f0 f1 f2 := by
  obtain ⟨hb, hg⟩ := h
  exact ⟨blk_grown hb hw hne, hg⟩
theorem IsS59.own_neN {w0 W : World} {g : Nat} {f0 : Int} {f1 : Int} {f2 : Int} {α : Type} {d : Kd α} {e : Nat} {base : Nat} {ok : Nat → Prop} {v : Value} {xs : List α} (h : IsS59 w0 W g f0 f1 f2) (ho : Kd.N d e W base ok v xs) (ht : e ≠ 59) : some g ≠ v.ownBlock := by
  obtain ⟨hb, hg⟩ := h
  exact Kd.N_ne ho hb ht
theorem IsS59.fresh {w0 W : World} {g : Nat} {f0 : Int} {f1 : Int} {f2 : Int} (h : IsS59 w0 W g f0 f1 f2) : ∀ k, W.heap.size ≤ k → k ≠ g := by
  obtain ⟨hb, hg⟩ := h
  exact Kd.freshB hb
theorem IsS59.kept {w0 W : World} {g : Nat} {f0 : Int} {f1 : Int} {f2 : Int} {W1 : World} {S : Nat → Prop} (h : IsS59 w0 W g f0 f1 f2) (hk : Kept W W1 S) (hne : ¬ S g) : IsS59 w0 W1 g f0 f1 f2 := by
  obtain ⟨hb, hg⟩ := h
  exact ⟨blk_kept hb hk hne, hg⟩
theorem IsS59.below {w0 W : World} {g : Nat} {f0 : Int} {f1 : Int} {f2 : Int} {W1 : World} (h : IsS59 w0 W g f0 f1 f2) (hw : Below W.heap.size W W1) : IsS59 w0 W1 g f0 f1 f2 := h.grown (grown_of_below hw none) (by simp)
theorem IsS59.alloc {w0 W : World} {g : Nat} {f0 : Int} {f1 : Int} {f2 : Int} (h : IsS59 w0 W g f0 f1 f2) (o : Obj) : IsS59 w0 (W.alloc o) g f0 f1 f2 := h.below (below_alloc (Below.refl _ _) o)
theorem IsS59.drewN {w0 W : World} {g : Nat} {f0 : Int} {f1 : Int} {f2 : Int} (h : IsS59 w0 W g f0 f1 f2) (m : Nat) : IsS59 w0 (W.drewN m) g f0 f1 f2 := h
theorem IsS59.drew {w0 W : World} {g : Nat} {f0 : Int} {f1 : Int} {f2 : Int} (h : IsS59 w0 W g f0 f1 f2) : IsS59 w0 W.drew g f0 f1 f2 := h
theorem IsS59.at_ {w0 W : World} {g : Nat} {f0 : Int} {f1 : Int} {f2 : Int} {w' : World} {m : Nat} (hq : W.drewN m = w') (h : IsS59 w0 W g f0 f1 f2) : IsS59 w0 w' g f0 f1 f2 := by subst hq; exact IsS59.drewN h m
theorem IsS59.apart {w0 W : World} {g : Nat} {f0 : Int} {f1 : Int} {f2 : Int} {α : Type} {d : Kd α} {e : Nat} {base : Nat} {ok : Nat → Prop} {v : Value} {xs : List α} (h : IsS59 w0 W g f0 f1 f2) (ho : d.R e W base ok v xs) (ht : ∀ q, q ∈ e :: d.E → q ≠ 59) : d.R e W base (fun k => ok k ∧ k ≠ g) v xs := by
  obtain ⟨hb, hg⟩ := h
  exact Kd.R_types ho hb ht
theorem IsS59.own_ne {w0 W : World} {g : Nat} {f0 : Int} {f1 : Int} {f2 : Int} {α : Type} {d : Kd α} {e : Nat} {base : Nat} {ok : Nat → Prop} {v : Value} {xs : List α} (h : IsS59 w0 W g f0 f1 f2) (ho : d.R e W base ok v xs) (ht : e ≠ 59) : some g ≠ v.ownBlock := by
  obtain ⟨hb, hg⟩ := h
  exact Kd.R_ne ho hb ht
theorem IsS59.apartQ {w0 W : World} {g : Nat} {f0 : Int} {f1 : Int} {f2 : Int} {α : Type} {d : Kd α} {e : Nat} {base : Nat} {ok : Nat → Prop} {v : Value} {xs : List α} (h : IsS59 w0 W g f0 f1 f2) (ho : d.Q e W base ok v xs) (ht : ∀ q, q ∈ e :: d.E → q ≠ 59) : d.Q e W base (fun k => ok k ∧ k ≠ g) v xs := by
  obtain ⟨hb, hg⟩ := h
  exact Kd.Q_types ho hb ht
theorem IsS59.own_neQ {w0 W : World} {g : Nat} {f0 : Int} {f1 : Int} {f2 : Int} {α : Type} {d : Kd α} {e : Nat} {base : Nat} {ok : Nat → Prop} {v : Value} {xs : List α} (h : IsS59 w0 W g f0 f1 f2) (ho : d.Q e W base ok v xs) (ht : e ≠ 59) : some g ≠ v.ownBlock := by
  obtain ⟨hb, hg⟩ := h
  exact Kd.Q_ne ho hb ht
theorem IsS59.apartS {w0 W : World} {g : Nat} {f0 : Int} {f1 : Int} {f2 : Int} {α : Type} {d : Kd α} {e : Nat} {base : Nat} {ok : Nat → Prop} {v : Value} {xs : List α} (h : IsS59 w0 W g f0 f1 f2) (ho : d.S e W base ok v xs) (ht : ∀ q, q ∈ e :: d.E → q ≠ 59) : d.S e W base (fun k => ok k ∧ k ≠ g) v xs := by
  obtain ⟨hb, hg⟩ := h
  exact Kd.S_types ho hb ht
theorem IsS59.own_neS {w0 W : World} {g : Nat} {f0 : Int} {f1 : Int} {f2 : Int} {α : Type} {d : Kd α} {e : Nat} {base : Nat} {ok : Nat → Prop} {v : Value} {xs : List α} (h : IsS59 w0 W g f0 f1 f2) (ho : d.S e W base ok v xs) (ht : e ≠ 59) : some g ≠ v.ownBlock := by
  obtain ⟨hb, hg⟩ := h
  exact Kd.S_ne ho hb ht
theorem IsS59.lt {w0 W : World} {g : Nat} {f0 : Int} {f1 : Int} {f2 : Int} (h : IsS59 w0 W g f0 f1 f2) : g < W.heap.size := by
  obtain ⟨hb, hg⟩ := h
  exact blk_lt hb
theorem IsS59.ge {w0 W : World} {g : Nat} {f0 : Int} {f1 : Int} {f2 : Int} (h : IsS59 w0 W g f0 f1 f2) : w0.heap.size ≤ g := by
  obtain ⟨hb, hg⟩ := h
  exact hg
theorem IsS59.ne_blk {w0 W : World} {g : Nat} {f0 : Int} {f1 : Int} {f2 : Int} {a : Nat} {cs : Array Value} {t : TypeId} {fr : Nat × Nat} (h : IsS59 w0 W g f0 f1 f2) (hb2 : W.heap[a]? = some (.cells cs t fr)) (ht : t ≠ 59) : g ≠ a := by
  obtain ⟨hb, hg⟩ := h
  rintro rfl
  rw [hb] at hb2
  injection hb2 with hb2
  injection hb2 with _ ht2
  exact ht ht2.symm
theorem IsS59.far {w0 W : World} {g : Nat} {f0 : Int} {f1 : Int} {f2 : Int} {p : Addr} (h : IsS59 w0 W g f0 f1 f2) (hne : g ≠ p.block) (u : Value) : IsS59 w0 (W.setCell p u) g f0 f1 f2 := by
  obtain ⟨hb, hg⟩ := h
  exact ⟨blk_far hb hne u, hg⟩
theorem cellS59_0 {W : World} {g : Nat} {f0 : Int} {f1 : Int} {f2 : Int} (h : W.heap[g]? = some (.cells #[.int .i64 f0, .int .i64 f1, .int .i64 f2] 59 (0, 0))) : W.cell? ⟨g, 0, none⟩ = some (.int .i64 f0) := (blk_cell h 0).trans rfl
theorem IsS59.set_0 {w0 W : World} {g : Nat} {f0 : Int} {f1 : Int} {f2 : Int} (h : IsS59 w0 W g f0 f1 f2) (x : Int) : IsS59 w0 (W.setCell ⟨g, 0, none⟩ (.int .i64 x)) g x f1 f2 := by
  obtain ⟨hb, hg⟩ := h
  exact ⟨by simpa using blk_set hb 0 (.int .i64 x), hg⟩
theorem cellS59_1 {W : World} {g : Nat} {f0 : Int} {f1 : Int} {f2 : Int} (h : W.heap[g]? = some (.cells #[.int .i64 f0, .int .i64 f1, .int .i64 f2] 59 (0, 0))) : W.cell? ⟨g, 1, none⟩ = some (.int .i64 f1) := (blk_cell h 1).trans rfl
theorem IsS59.set_1 {w0 W : World} {g : Nat} {f0 : Int} {f1 : Int} {f2 : Int} (h : IsS59 w0 W g f0 f1 f2) (x : Int) : IsS59 w0 (W.setCell ⟨g, 1, none⟩ (.int .i64 x)) g f0 x f2 := by
  obtain ⟨hb, hg⟩ := h
  exact ⟨by simpa using blk_set hb 1 (.int .i64 x), hg⟩
theorem cellS59_2 {W : World} {g : Nat} {f0 : Int} {f1 : Int} {f2 : Int} (h : W.heap[g]? = some (.cells #[.int .i64 f0, .int .i64 f1, .int .i64 f2] 59 (0, 0))) : W.cell? ⟨g, 2, none⟩ = some (.int .i64 f2) := (blk_cell h 2).trans rfl
theorem IsS59.set_2 {w0 W : World} {g : Nat} {f0 : Int} {f1 : Int} {f2 : Int} (h : IsS59 w0 W g f0 f1 f2) (x : Int) : IsS59 w0 (W.setCell ⟨g, 2, none⟩ (.int .i64 x)) g f0 f1 x := by
  obtain ⟨hb, hg⟩ := h
  exact ⟨by simpa using blk_set hb 2 (.int .i64 x), hg⟩
theorem IsS59.new (w0 W : World) (f0 : Int) (f1 : Int) (f2 : Int) (hB : Below w0.heap.size w0 W) : IsS59 w0 (W.alloc (.cells #[.int .i64 f0, .int .i64 f1, .int .i64 f2] 59)) W.heap.size f0 f1 f2 := ⟨by simpa using heap_alloc_new W _, hB.size⟩

/-! ### api_Fault_int: function 38 -/
/-! ### drv_base: function 9999 -/
def ansT (f : Int × Int × Int) : Int := if f.2.1 = 3 then f.2.2 else 1
def ansE (f : Int × Int × Int) (t : Int) : Int := if f.2.1 = 1 ∨ (f.2.1 = 2 ∧ t < f.2.2) then 19 else 0
def ansR (D : List Int) (blk : Int) (f : Int × Int × Int) (t : Int) : List Int := if ansE f t = 0 then (D.drop (blk * 64).toNat).take 64 else []
def upd (m : Int → Int) (x v : Int) : Int → Int := fun y => if y = x then v else m y
/-- Block b is a map that has these numbers; 0 at all other keys. -/
def MapF (w : World) (b : Nat) (m : Int → Int) (N : Nat) : Prop := ∃ Dt : DataW Unit, w.ownsMap Try.prog 3 (plainElem Try.prog 3) b N Dt ∧ Go.Maps.IsMap Dt ∧ ∀ x : Int, Dt.atKey (.int .i64 x) (.lit (.int .i64 0)) = .lit (.int .i64 (m x))
theorem MapF.look {w : World} {b N : Nat} {m : Int → Int} (h : MapF w b m N) (x : Int) (hx : (Lit.int .i64 x).wf = true) : (Instr.lookup 63 (.map (some b)) (.int .i64 x) false).run Try.prog w = .ok (.int .i64 (m x)) w := by
  obtain ⟨Dt, h1, h2, h3⟩ := h
  obtain ⟨c, hr, ha, _⟩ := h1.lookup_int (t := 63) (Go.Maps.int_keyed Try.underlying3) Try.underlying63 Try.underlying3 (by kernel_rfl) (Go.Maps.keyOf_int_mk Try.underlying3 hx)
  rw [h3 x] at ha
  injection ha with ha
  injection ha with _ ha
  rw [ha]
  exact hr
theorem MapF.put {w : World} {b N : Nat} {m : Int → Int} (h : MapF w b m N) (hN : N < maxLen) (x v : Int) (hx : (Lit.int .i64 x).wf = true) (hv : (Lit.int .i64 v).wf = true) :
    ∃ w', (Instr.mapUpdate 63 (.map (some b)) (.int .i64 x) (.int .i64 v)).run Try.prog w = .ok () w' ∧ MapF w' b (upd m x v) (N + 1) ∧ w.grownBy w' (some b) := by
  obtain ⟨Dt, h1, h2, h3⟩ := h
  obtain ⟨w', hr, ho, hg⟩ := h1.update (t := 63) (Go.Maps.int_keyed Try.underlying3) Try.underlying63 hN (Go.Maps.keyOf_int_mk Try.underlying3 hx) (plainElem_int Try.underlying3 hv)
  refine ⟨w', hr, ⟨_, ho, h2.put _ _, fun y => ?_⟩, hg⟩
  unfold upd
  by_cases c : y = x
  · subst c
    rw [if_pos rfl]
    exact Go.Maps.atKey_put_same h2 (show WideAt.IsKeyLit (.int .i64 y) from trivial) _ _
  · rw [if_neg c, Go.Maps.atKey_put_other (fun e => c (by injection e))]
    exact h3 y
theorem MapF.made (w : World) : MapF (w.alloc (.map #[] 0)) w.heap.size (fun _ => 0) 0 := ⟨.map [], World.ownsMap_made _ _ _ _, Go.Maps.isMap_empty, fun _ => rfl⟩
theorem MapF.kept {w w' : World} {b N : Nat} {m : Int → Int} {row : Option Nat} (h : MapF w b m N) (hg : w.grownBy w' row) (hne : some b ≠ row) : MapF w' b m N := by
  obtain ⟨Dt, h1, h2⟩ := h
  exact ⟨Dt, h1.kept hg hne, h2⟩
/-- Block g is a disk: its bytes, its faults, how often each block was tried, how much time has gone; all of it from block m on, and below block n. -/
def IsDisk (m n : Nat) (w : World) (g : Nat) (D : List Int) (F : List S59) (mp : Int → Int) (N : Nat) (tm : Int) : Prop :=
  ∃ (A : Option Addr) (c : Nat) (B : Option Addr) (d b : Nat), w.heap[g]? = some (.cells #[.slice A D.length c, .slice B F.length d, .map (some b), .int .i64 tm] 65 (0, 0)) ∧ (m ≤ g ∧ g < n) ∧ (m ≤ b ∧ b < n) ∧ b ≠ g ∧
    Kd.R (Kd.int .u8) 5 w m (fun k => k ≠ g ∧ k ≠ b ∧ k < n) (.slice A D.length c) D ∧ Kd.R k59 59 w m (fun k => k ≠ g ∧ k ≠ b ∧ k < n) (.slice B F.length d) F ∧ MapF w b mp N
theorem grown_below {w w' : World} (h : Below w.heap.size w w') : w.grownBy w' none := ⟨h.os, h.tape, h.output, h.size, fun k hk _ => h.block k hk⟩
theorem MapF.below {w w' : World} {b N : Nat} {m : Int → Int} (h : MapF w b m N) (hb : Below w.heap.size w w') : MapF w' b m N := h.kept (grown_below hb) (by simp)
theorem IsDisk.below {m n : Nat} {w W : World} {g : Nat} {D : List Int} {F : List S59} {mp : Int → Int} {N : Nat} {tm : Int} (h : IsDisk m n w g D F mp N tm) (hb : Below w.heap.size w W) : IsDisk m n W g D F mp N tm := by
  obtain ⟨A, c, B, d, b, h1, h2, h3, h4, h5, h6, h7⟩ := h
  exact ⟨A, c, B, d, b, blk_below h1 hb, h2, h3, h4, Kd.R_below h5 hb, Kd.R_below h6 hb, h7.below hb⟩
theorem grown_set (w : World) (g j : Nat) (v : Value) : w.grownBy (w.setCell ⟨g, j, none⟩ v) (some g) := ⟨rfl, rfl, rfl, by simp [World.setCell], fun k hk hne => Below.heap_setCell w ⟨g, j, none⟩ v k (fun e => hne (by rw [e]))⟩
theorem IsDisk.kept {m n : Nat} {w W : World} {g : Nat} {D : List Int} {F : List S59} {mp : Int → Int} {N : Nat} {tm : Int} {row : Option Nat} (h : IsDisk m n w g D F mp N tm) (hb : w.grownBy W row) (hr : ∀ k, row = some k → n ≤ k) : IsDisk m n W g D F mp N tm := by
  obtain ⟨A, c, B, d, b, h1, h2, h3, h4, h5, h6, h7⟩ := h
  have ne : ∀ k, k < n → some k ≠ row := fun k hk e => by have := hr k e.symm; omega
  exact ⟨A, c, B, d, b, (hb.block g (blk_lt h1) (ne g h2.2)).trans h1, h2, h3, h4, Kd.R_step h5 (fun k ho hl => hb.block k hl (ne k ho.2.2)), Kd.R_step h6 (fun k ho hl => hb.block k hl (ne k ho.2.2)), h7.kept hb (ne b h3.2)⟩

/-! ### api_Fault_int: function 38 -/
/-- Where the halves meet: d rounds at most. -/
def bs (F : List S59) (t : Int) : Nat → Nat → Nat → Nat
  | 0, i, _ => i
  | d + 1, i, j => if i < j then (if wrap64 ((rd_T59 F (((i + j) / 2 : Nat) : Int)).f0 - t) < 0 then bs F t d ((i + j) / 2 + 1) j else bs F t d i ((i + j) / 2)) else i
theorem bs_le (F : List S59) (t : Int) : ∀ (d i j : Nat), i ≤ j → bs F t d i j ≤ j
  | 0, _, _, h => h
  | d + 1, i, j, h => by
    unfold bs
    split
    · split
      · exact bs_le F t d _ j (by omega)
      · exact Nat.le_trans (bs_le F t d i _ (by omega)) (by omega)
    · exact h
def api_Fault_int.f (k : Nat) (l0 : List S59) (a1 : Int) (a2 : Nat) : Option (Int × Bool) := if a2 = 39 ∧ l0.length ≤ 65536 then some ((bs l0 a1 l0.length 0 l0.length : Nat), decide (bs l0 a1 l0.length 0 l0.length < l0.length) && (wrap64 ((rd_T59 l0 ((bs l0 a1 l0.length 0 l0.length : Nat) : Int)).f0 - a1) == 0)) else none
theorem api_Fault_int.clos (f0 f1 f2 t : Int) (w : World) : Calls Try.prog 39 #[.agg #[.int .i64 f0, .int .i64 f1, .int .i64 f2], .int .i64 t] w fun e w' => e = .returned (.int .i64 (wrap64 (f0 - t))) ∧ Below w.heap.size w w' := by
  go_enter Try.func39, Try.ntmps39
  go_wp2
  go_ret
  exact ⟨by first | rfl | simp, by repeat (first | (with_reducible first | exact Below.refl _ _ | apply below_alloc | apply pw_below_drewN | apply below_drew1) | exact Below.refl _ _)⟩
set_option maxHeartbeats 2000000 in
set_option maxRecDepth 100000 in
theorem api_Fault_int.calls (k : Nat) (A0 : Option Addr) (c0 : Nat) (l0 : List S59) (a1 : Int) (a2 : Nat) (r1 : Int) (r2 : Bool) (w : World) (hr0 : Kd.C k59 w A0 l0.length l0) (hc0 : l0.length ≤ c0) (h : api_Fault_int.f k l0 a1 a2 = some (r1, r2)) :
    Calls Try.prog 38 #[.slice A0 l0.length c0, .int .i64 a1, .func (.func a2) #[] #[]] w fun e w' => e = .returned (.tuple #[.int .i64 r1, .bool r2]) ∧ Below w.heap.size w w' := by
  unfold api_Fault_int.f at h
  split at h
  case isFalse => exact absurd h (by simp)
  case isTrue hh =>
  obtain ⟨rfl, q2⟩ := hh
  obtain ⟨e1, e2⟩ := Prod.mk.inj (Option.some.inj h)
  obtain ⟨I, hI⟩ : ∃ I, bs l0 a1 l0.length 0 l0.length = I := ⟨_, rfl⟩
  rw [hI] at e1 e2
  subst e1
  have HIL := Aside0.mk (show I ≤ l0.length from hI ▸ bs_le l0 a1 l0.length 0 l0.length (Nat.zero_le _))
  have HI := Aside0.mk hI
  have HR := Aside0.mk hr0
  have E2 := Aside0.mk e2
  have HB : Aside0 (Below w.heap.size w w) := ⟨Below.refl _ _⟩
  clear h hI hr0 hc0 e2
  go_enter Try.func38, Try.ntmps38
  go_wp2
  go_loopw [9, 10] (fun i j wr => ∃ (x y d : Nat), x ≤ y ∧ y ≤ l0.length ∧ y - x ≤ d ∧ Aside0 (bs l0 a1 d x y = I) ∧ i = .int .i64 x ∧ j = .int .i64 y ∧ Aside0 (Below w.heap.size w wr)) (fun i j _ => (intOf j).toNat - (intOf i).toNat)
  case atStart => exact ⟨0, l0.length, l0.length, Nat.zero_le _, Nat.le_refl _, by omega, HI, rfl, rfl, HB⟩
  case round =>
    clear HB
    obtain ⟨x, y, d, h1, h2, h3, H4, rfl, rfl, HBr⟩ := hrel
    by_cases hlt : x < y
    · obtain ⟨m, hm⟩ : ∃ m, (x + y) / 2 = m := ⟨_, rfl⟩
      obtain ⟨d, rfl⟩ : ∃ d', d = d' + 1 := ⟨d - 1, by omega⟩
      have h4 := H4.out
      unfold bs at h4
      rw [if_pos hlt, hm] at h4
      obtain ⟨ad, e1, y0, y1, y2⟩ := at_T59 HR.out (m : Int) (by omega) (by omega)
      cases e1
      rw [Int.toNat_natCast] at y0 y1 y2
      replace y0 := (HBr.out.cell (World.block_lt_of_cell? w _ y0)).trans y0
      replace y1 := (HBr.out.cell (World.block_lt_of_cell? w _ y1)).trans y1
      replace y2 := (HBr.out.cell (World.block_lt_of_cell? w _ y2)).trans y2
      generalize (rd_T59 l0 (m : Int)).f0 = f0 at *
      generalize (rd_T59 l0 (m : Int)).f1 = f1 at *
      generalize (rd_T59 l0 (m : Int)).f2 = f2 at *
      have hm1 : m ≤ l0.length := by omega
      have hm2 : x ≤ m ∧ m < y := by omega
      go_upto_region 5 with (fail)
      have em : ((x : Int) + (y : Int)) / 2 = (m : Int) := by omega
      rw [em]
      clear em
      by_cases hc : wrap64 (f0 - a1) < 0
      · rw [if_pos hc] at h4
        have H4' := Aside0.mk h4
        clear H4 h4
        have t1 : decide (wrap64 (f0 - a1) < 0) = true := decide_eq_true hc
        clear hc
        go_wp2_with (go_at_call 39; refine (api_Fault_int.clos f0 f1 f2 a1 _).mono ?_; rintro e w2 ⟨rfl, hb⟩; have HB2 := Aside0.mk (below_step HBr.out hb); clear hb)
        go_roundw
        case rel => exact ⟨m + 1, y, d, by omega, by omega, by omega, H4', by go_num, rfl, HB2⟩
        case measure => simp [intOf]; omega
      · rw [if_neg hc] at h4
        have H4' := Aside0.mk h4
        clear H4 h4
        have t1 : decide (wrap64 (f0 - a1) < 0) = false := decide_eq_false hc
        clear hc
        go_wp2_with (go_at_call 39; refine (api_Fault_int.clos f0 f1 f2 a1 _).mono ?_; rintro e w2 ⟨rfl, hb⟩; have HB2 := Aside0.mk (below_step HBr.out hb); clear hb)
        go_roundw
        case rel => exact ⟨x, m, d, by omega, by omega, by omega, H4', rfl, rfl, HB2⟩
        case measure => simp [intOf]; omega
    · have h4 : I = x := by
        have := H4.out
        cases d with
        | zero => exact this.symm
        | succ d => unfold bs at this; rw [if_neg hlt] at this; exact this.symm
      subst h4
      clear H4
      have t0 : decide ((I : Int) < (y : Int)) = false := decide_eq_false (by omega)
      have t0b : decide (I < y) = false := decide_eq_false hlt
      have e2 := E2.out
      by_cases hI2 : I < l0.length
      · obtain ⟨ad, e1, y0, y1, y2⟩ := at_T59 HR.out (I : Int) (by omega) (by omega)
        cases e1
        rw [Int.toNat_natCast] at y0 y1 y2
        replace y0 := (HBr.out.cell (World.block_lt_of_cell? w _ y0)).trans y0
        replace y1 := (HBr.out.cell (World.block_lt_of_cell? w _ y1)).trans y1
        replace y2 := (HBr.out.cell (World.block_lt_of_cell? w _ y2)).trans y2
        generalize (rd_T59 l0 (I : Int)).f0 = f0 at *
        generalize (rd_T59 l0 (I : Int)).f1 = f1 at *
        generalize (rd_T59 l0 (I : Int)).f2 = f2 at *
        rw [decide_eq_true hI2, Bool.true_and] at e2
        obtain ⟨z, hz⟩ : ∃ z, wrap64 (f0 - a1) = z := ⟨_, rfl⟩
        have C := api_Fault_int.clos f0 f1 f2 a1
        rw [hz] at e2 C
        have CC := Aside0.mk C
        subst e2
        have t3 : decide ((I : Int) < (l0.length : Int)) = true := decide_eq_true (by omega)
        have t4 : decide (I < l0.length) = true := decide_eq_true hI2
        clear C hz hlt E2
        go_wp2_with (go_at_call 39; refine (CC.out _).mono ?_; rintro e w2 ⟨rfl, hb⟩; have HB2 := Aside0.mk (below_step HBr.out hb); clear hb)
        go_ret2
        exact ⟨by first | rfl | simp, HB2.out⟩
      · rw [decide_eq_false hI2, Bool.false_and] at e2
        subst e2
        clear hlt E2
        have t1 : decide ((I : Int) < (l0.length : Int)) = false := decide_eq_false (by omega)
        have t2 : decide (I < l0.length) = false := decide_eq_false hI2
        go_wp2
        go_ret2
        exact ⟨by first | rfl | simp, HBr.out⟩

/-! ### drive_fault: function 35 -/
def drive_fault.f (k : Nat) (l0_0 : List Int) (l0_1 : List (S59)) (a1 : Int) : Option (Int × Int × Int) := (api_Fault_int.f k l0_1 a1 39).bind fun bt136 => (if bt136.2 = true then (if 0 ≤ bt136.1 then (if bt136.1 < (l0_1.length : Int) then (some ((rd_T59 l0_1 bt136.1).f0, (rd_T59 l0_1 bt136.1).f1, (rd_T59 l0_1 bt136.1).f2)) else (none)) else (none)) else (some (0, 0, 0)))
theorem drive_fault.mono : ∀ a0 a1 a2 k, LeO (drive_fault.f k a0 a1 a2) (drive_fault.f (k + 1) a0 a1 a2) := by
  intro a0 a1 a2 k
  unfold drive_fault.f
  repeat' first
      | (with_reducible exact api_Fault_int.mono _ _ _ _)
      | (with_reducible exact LeO.refl _)
      | (with_reducible exact LeO.none _)
      | (with_reducible refine LeO.ite ?_ ?_)
      | (with_reducible refine LeO.bind ?_ (fun _ => ?_))
      | exact api_Fault_int.mono _ _ _ _
      | exact LeO.none _
      | refine LeO.ite ?_ ?_
      | refine LeO.bind ?_ (fun _ => ?_)
set_option maxHeartbeats 8000000 in
set_option maxRecDepth 100000 in
theorem drive_fault.calls (k : Nat) (A0_0 : Option Addr) (c0_0 : Nat) (l0_0 : List Int) (A0_1 : Option Addr) (c0_1 : Nat) (l0_1 : List (S59)) (a1 : Int) (r1 : Int) (r2 : Int) (r3 : Int) (w : World) (hr0_0 : Kd.C (Kd.int .u8) w A0_0 l0_0.length l0_0) (hc0_0 : l0_0.length ≤ c0_0) (hr0_1 : Kd.C k59 w A0_1 l0_1.length l0_1) (hc0_1 : l0_1.length ≤ c0_1) (h : drive_fault.f k l0_0 l0_1 a1 = some (r1, r2, r3)) :
    Calls Try.prog 35 #[.agg #[.slice A0_0 l0_0.length c0_0, .slice A0_1 l0_1.length c0_1], .int .i64 a1] w fun e w' => e = .returned (.agg #[.int .i64 r1, .int .i64 r2, .int .i64 r3]) ∧ Below w.heap.size w w' := by
  have hu26 := Try.underlying26
  have hu59 := Try.underlying59
  have HR0_0 := Aside0.mk hr0_0
  have HC0_0 := Aside0.mk hc0_0
  clear hr0_0 hc0_0
  have HR0_1 := Aside0.mk hr0_1
  have HC0_1 := Aside0.mk hc0_1
  clear hr0_1 hc0_1
  have HB := Aside0.mk (Below.refl w.heap.size w)
  have H : ((api_Fault_int.f k l0_1 a1 39).bind fun bt136 => (if bt136.2 = true then (if 0 ≤ bt136.1 then (if bt136.1 < (l0_1.length : Int) then (some ((rd_T59 l0_1 bt136.1).f0, (rd_T59 l0_1 bt136.1).f1, (rd_T59 l0_1 bt136.1).f2)) else (none)) else (none)) else (some (0, 0, 0)))) = some (r1, r2, r3) := h
  clear h
  replace H := Option.bind_eq_some_iff.mp H
  obtain ⟨⟨t136, t137⟩, A30, H⟩ := H
  replace H : (if t137 = true then (if 0 ≤ t136 then (if t136 < (l0_1.length : Int) then (some ((rd_T59 l0_1 t136).f0, (rd_T59 l0_1 t136).f1, (rd_T59 l0_1 t136).f2)) else (none)) else (none)) else (some (0, 0, 0))) = some (r1, r2, r3) := H
  have A3 := Aside0.mk A30
  clear A30
  by_cases c4 : t137 = true
  · subst c4
    have H1 : (if 0 ≤ t136 then (if t136 < (l0_1.length : Int) then (some ((rd_T59 l0_1 t136).f0, (rd_T59 l0_1 t136).f1, (rd_T59 l0_1 t136).f2)) else (none)) else (none)) = some (r1, r2, r3) := by rw [if_pos rfl] at H; exact H
    clear H
    have H := H1
    clear H1
    by_cases c5 : 0 ≤ t136
    · rw [if_pos c5] at H
      have c5b0 : decide (0 ≤ t136) = true := decide_eq_true c5
      clear c5
      by_cases c6 : t136 < (l0_1.length : Int)
      · rw [if_pos c6] at H
        have c6b0 : decide (t136 < (l0_1.length : Int)) = true := decide_eq_true c6
        clear c6
        simp only [Option.some.injEq, Prod.mk.injEq] at H
        obtain ⟨rfl, rfl, rfl⟩ := H
        go_enter Try.func35, Try.ntmps35
        go_wp2_with (first | ((with_reducible refine gate_dst (N := 2) rfl ?_); refine box_event ?hg (N := 2) ?hd (cs := #[.slice A0_0 l0_0.length c0_0, .slice A0_1 l0_1.length c0_1]) (t := 26) ?hr ?_; (case hd => rfl); (case hg => rfl); (case hr => first | (go_simp; done) | (go_simp; rfl)); intro gb134 hg w7 hbox hb; have n0_ := Aside0.mk (below_step (by repeat (first | (with_reducible first | exact HB.out | apply below_alloc | apply pw_below_drewN | apply below_drew1) | exact HB.out)) hb); have n1_ := Aside0.mk (hbox); have n2_ := Aside0.mk ((by rw [hg]; exact (below_size (by repeat (first | (with_reducible first | exact HB.out | apply below_alloc | apply pw_below_drewN | apply below_drew1) | exact HB.out))) : w.heap.size ≤ gb134)); have n3_ := Aside0.mk ((by rw [hg]; exact (below_size (by repeat (first | (with_reducible first | exact HB.out | apply below_alloc | apply pw_below_drewN | apply below_drew1) | exact HB.out))) : w.heap.size ≤ gb134)); clear HB; have HB := n0_; have BK134 := n1_; have GW134 := n2_; have GE134 := n3_; clear n0_ n1_ n2_ n3_; clear hb hbox hg) | ((with_reducible refine gate_dst (N := 4) rfl ?_); refine box_event ?hg (N := 4) ?hd (cs := #[.int .i64 0, .int .i64 0, .int .i64 0]) (t := 59) ?hr ?_; (case hd => rfl); (case hg => rfl); (case hr => first | (go_simp; done) | (go_simp; rfl)); intro gb135 hg w8 hbox hb; have n0_ := Aside0.mk (blk_below (g := gb134) (o := .cells #[.slice A0_0 l0_0.length c0_0, .slice A0_1 l0_1.length c0_1] 26 (0, 0)) (by (with_reducible repeat (first | refine blk_drewN ?_ _ | refine blk_drew ?_ | refine blk_alloc ?_ _)); exact BK134.out) hb); have n1_ := Aside0.mk (below_step (by repeat (first | (with_reducible first | exact HB.out | apply below_alloc | apply pw_below_drewN | apply below_drew1 | refine below_set ?_ GE134.out) | exact HB.out)) hb); have n2_ := Aside0.mk (hbox); have n3_ := Aside0.mk ((by rw [hg]; exact (below_size (by repeat (first | (with_reducible first | exact HB.out | apply below_alloc | apply pw_below_drewN | apply below_drew1 | refine below_set ?_ GE134.out) | exact HB.out))) : w.heap.size ≤ gb135)); have n4_ := Aside0.mk ((by rw [hg]; exact (below_size (by repeat (first | (with_reducible first | exact HB.out | apply below_alloc | apply pw_below_drewN | apply below_drew1 | refine below_set ?_ GE134.out) | exact HB.out))) : w.heap.size ≤ gb135)); have n5_ := Aside0.mk ((by rw [hg]; exact Nat.ne_of_lt (blk_lt (g := gb134) (o := .cells #[.slice A0_0 l0_0.length c0_0, .slice A0_1 l0_1.length c0_1] 26 (0, 0)) (by (with_reducible repeat (first | refine blk_drewN ?_ _ | refine blk_drew ?_ | refine blk_alloc ?_ _)); exact BK134.out)) : gb134 ≠ gb135)); have n6_ := Aside0.mk ((by rw [hg]; exact Nat.ne_of_gt (blk_lt (g := gb134) (o := .cells #[.slice A0_0 l0_0.length c0_0, .slice A0_1 l0_1.length c0_1] 26 (0, 0)) (by (with_reducible repeat (first | refine blk_drewN ?_ _ | refine blk_drew ?_ | refine blk_alloc ?_ _)); exact BK134.out)) : gb135 ≠ gb134)); clear BK134; clear HB; have BK134 := n0_; have HB := n1_; have BK135 := n2_; have GW135 := n3_; have GE135 := n4_; have NB134_135 := n5_; have NB135_134 := n6_; clear n0_ n1_ n2_ n3_ n4_ n5_ n6_; clear hb hbox hg; have hnb9 := NB134_135.out; have hnc9 := NB135_134.out; have hcz10_0 : w8.cell? ⟨gb134, 0, none⟩ = some (.slice A0_0 l0_0.length c0_0) := (blk_cell BK134.out 0).trans rfl; have hcz10_1 : w8.cell? ⟨gb134, 1, none⟩ = some (.slice A0_1 l0_1.length c0_1) := (blk_cell BK134.out 1).trans rfl; have hfz10_0 := blk_frozen BK134.out 0; have hfz10_1 := blk_frozen BK134.out 1) | ((with_reducible refine gate_callee (f := 38) rfl ?_); refine goesL_ (some 11) rfl rfl Try.func38 (by kernel_rfl) rfl #[.slice A0_1 l0_1.length c0_1, .int .i64 a1, .func (.func 39) #[] #[]] rfl (by (try simp only [List.map_toArray, List.map_cons, List.map_nil]); first | done | rfl | (simp only [List.length_drop, List.length_take]; rfl)) ?_; (with_reducible refine (api_Fault_int.calls k _ _ l0_1 a1 39 t136 true _ ?side1 ?side2 A3.out).mono ?_); (case side1 => repeat (first | exact (Kd.C_below HR0_1.out HB.out) | (with_reducible refine Kd.C_alloc ?_ _) | (with_reducible refine Kd.C_drewN ?_ _) | (with_reducible refine Kd.C_drew ?_))); (case side2 => exact HC0_1.out); rintro e w11 ⟨rfl, hb⟩; refine ⟨_, rfl, ?_⟩; have n0_ := Aside0.mk (blk_below (g := gb134) (o := .cells #[.slice A0_0 l0_0.length c0_0, .slice A0_1 l0_1.length c0_1] 26 (0, 0)) (by (with_reducible repeat (first | refine blk_drewN ?_ _ | refine blk_drew ?_ | refine blk_alloc ?_ _)); exact BK134.out) hb); have n1_ := Aside0.mk (blk_below (g := gb135) (o := .cells #[.int .i64 0, .int .i64 0, .int .i64 0] 59 (0, 0)) (by (with_reducible repeat (first | refine blk_drewN ?_ _ | refine blk_drew ?_ | refine blk_alloc ?_ _)); exact BK135.out) hb); have n2_ := Aside0.mk (below_step (by repeat (first | (with_reducible first | exact HB.out | apply below_alloc | apply pw_below_drewN | apply below_drew1 | refine below_set ?_ GE134.out | refine below_set ?_ GE135.out) | exact HB.out)) hb); clear BK134; clear BK135; clear HB; have BK134 := n0_; have BK135 := n1_; have HB := n2_; clear n0_ n1_ n2_; (try clear hb); (try clear hb2); (try clear hk); (try clear hi); have hcz12_0 : w11.cell? ⟨gb134, 0, none⟩ = some (.slice A0_0 l0_0.length c0_0) := (blk_cell BK134.out 0).trans rfl; have hcz12_1 : w11.cell? ⟨gb134, 1, none⟩ = some (.slice A0_1 l0_1.length c0_1) := (blk_cell BK134.out 1).trans rfl; have hfz12_0 := blk_frozen BK134.out 0; have hfz12_1 := blk_frozen BK134.out 1; have p138 : 0 ≤ (t136 : Int) := of_decide_eq_true (by first | (with_reducible assumption) | assumption); have q138 : t136 < (l0_1.length : Int) := of_decide_eq_true (by first | (with_reducible assumption) | assumption); obtain ⟨ad138, e138, hx138_0, hx138_1, hx138_2⟩ := at_T59 HR0_1.out t136 p138 q138; cases e138; replace hx138_0 := (HB.out.cell (World.block_lt_of_cell? w _ hx138_0)).trans hx138_0; replace hx138_1 := (HB.out.cell (World.block_lt_of_cell? w _ hx138_1)).trans hx138_1; replace hx138_2 := (HB.out.cell (World.block_lt_of_cell? w _ hx138_2)).trans hx138_2; replace p138 := eq_true p138; replace q138 := eq_true q138; have hcz13_0 : w11.cell? ⟨gb135, 0, none⟩ = some (.int .i64 0) := (blk_cell BK135.out 0).trans rfl; have hcz13_1 : w11.cell? ⟨gb135, 1, none⟩ = some (.int .i64 0) := (blk_cell BK135.out 1).trans rfl; have hcz13_2 : w11.cell? ⟨gb135, 2, none⟩ = some (.int .i64 0) := (blk_cell BK135.out 2).trans rfl; have hfz13_0 := blk_frozen BK135.out 0; have hfz13_1 := blk_frozen BK135.out 1; have hfz13_2 := blk_frozen BK135.out 2))
        refine bodyPost_ret (results_cell_row rfl _ _ gb135 59 #[.int .i64 ((rd_T59 l0_1 t136).f0), .int .i64 ((rd_T59 l0_1 t136).f1), .int .i64 ((rd_T59 l0_1 t136).f2)] (0, 0) _ rfl (by (with_reducible repeat (first | refine blk_drewN ?_ _ | refine blk_drew ?_ | refine blk_alloc ?_ _)); refine blk_put (cs := #[.int .i64 ((rd_T59 l0_1 t136).f0), .int .i64 ((rd_T59 l0_1 t136).f1), .int .i64 0]) ?_ 2 _ rfl; (with_reducible repeat (first | refine blk_drewN ?_ _ | refine blk_drew ?_ | refine blk_alloc ?_ _)); refine blk_put (cs := #[.int .i64 ((rd_T59 l0_1 t136).f0), .int .i64 0, .int .i64 0]) ?_ 1 _ rfl; (with_reducible repeat (first | refine blk_drewN ?_ _ | refine blk_drew ?_ | refine blk_alloc ?_ _)); refine blk_put (cs := #[.int .i64 0, .int .i64 0, .int .i64 0]) ?_ 0 _ rfl; (with_reducible repeat (first | refine blk_drewN ?_ _ | refine blk_drew ?_ | refine blk_alloc ?_ _)); exact BK135.out) Try.underlying59 rfl (by kernel_rfl)) rfl ?_
        exact ⟨by first | rfl | (simp [errW_none, errW_some] <;> rfl) | (simp [*, errW_none, errW_some] <;> rfl), by repeat (first | (with_reducible first | exact HB.out | apply below_alloc | apply pw_below_drewN | apply below_drew1 | refine below_set ?_ GE134.out | refine below_set ?_ GE135.out) | exact HB.out)⟩
      · rw [if_neg c6] at H
        exact absurd H (by simp)
    · rw [if_neg c5] at H
      exact absurd H (by simp)
  · replace c4 := Bool.eq_false_iff.mpr c4
    subst c4
    have H1 : (some (0, 0, 0)) = some (r1, r2, r3) := by rw [if_neg (show ¬ (false = true) by decide)] at H; exact H
    clear H
    have H := H1
    clear H1
    simp only [Option.some.injEq, Prod.mk.injEq] at H
    obtain ⟨rfl, rfl, rfl⟩ := H
    go_enter Try.func35, Try.ntmps35
    go_wp2_with (first | ((with_reducible refine gate_dst (N := 2) rfl ?_); refine box_event ?hg (N := 2) ?hd (cs := #[.slice A0_0 l0_0.length c0_0, .slice A0_1 l0_1.length c0_1]) (t := 26) ?hr ?_; (case hd => rfl); (case hg => rfl); (case hr => first | (go_simp; done) | (go_simp; rfl)); intro gb134 hg w14 hbox hb; have n0_ := Aside0.mk (below_step (by repeat (first | (with_reducible first | exact HB.out | apply below_alloc | apply pw_below_drewN | apply below_drew1) | exact HB.out)) hb); have n1_ := Aside0.mk (hbox); have n2_ := Aside0.mk ((by rw [hg]; exact (below_size (by repeat (first | (with_reducible first | exact HB.out | apply below_alloc | apply pw_below_drewN | apply below_drew1) | exact HB.out))) : w.heap.size ≤ gb134)); have n3_ := Aside0.mk ((by rw [hg]; exact (below_size (by repeat (first | (with_reducible first | exact HB.out | apply below_alloc | apply pw_below_drewN | apply below_drew1) | exact HB.out))) : w.heap.size ≤ gb134)); clear HB; have HB := n0_; have BK134 := n1_; have GW134 := n2_; have GE134 := n3_; clear n0_ n1_ n2_ n3_; clear hb hbox hg) | ((with_reducible refine gate_dst (N := 4) rfl ?_); refine box_event ?hg (N := 4) ?hd (cs := #[.int .i64 0, .int .i64 0, .int .i64 0]) (t := 59) ?hr ?_; (case hd => rfl); (case hg => rfl); (case hr => first | (go_simp; done) | (go_simp; rfl)); intro gb135 hg w15 hbox hb; have n0_ := Aside0.mk (blk_below (g := gb134) (o := .cells #[.slice A0_0 l0_0.length c0_0, .slice A0_1 l0_1.length c0_1] 26 (0, 0)) (by (with_reducible repeat (first | refine blk_drewN ?_ _ | refine blk_drew ?_ | refine blk_alloc ?_ _)); exact BK134.out) hb); have n1_ := Aside0.mk (below_step (by repeat (first | (with_reducible first | exact HB.out | apply below_alloc | apply pw_below_drewN | apply below_drew1 | refine below_set ?_ GE134.out) | exact HB.out)) hb); have n2_ := Aside0.mk (hbox); have n3_ := Aside0.mk ((by rw [hg]; exact (below_size (by repeat (first | (with_reducible first | exact HB.out | apply below_alloc | apply pw_below_drewN | apply below_drew1 | refine below_set ?_ GE134.out) | exact HB.out))) : w.heap.size ≤ gb135)); have n4_ := Aside0.mk ((by rw [hg]; exact (below_size (by repeat (first | (with_reducible first | exact HB.out | apply below_alloc | apply pw_below_drewN | apply below_drew1 | refine below_set ?_ GE134.out) | exact HB.out))) : w.heap.size ≤ gb135)); have n5_ := Aside0.mk ((by rw [hg]; exact Nat.ne_of_lt (blk_lt (g := gb134) (o := .cells #[.slice A0_0 l0_0.length c0_0, .slice A0_1 l0_1.length c0_1] 26 (0, 0)) (by (with_reducible repeat (first | refine blk_drewN ?_ _ | refine blk_drew ?_ | refine blk_alloc ?_ _)); exact BK134.out)) : gb134 ≠ gb135)); have n6_ := Aside0.mk ((by rw [hg]; exact Nat.ne_of_gt (blk_lt (g := gb134) (o := .cells #[.slice A0_0 l0_0.length c0_0, .slice A0_1 l0_1.length c0_1] 26 (0, 0)) (by (with_reducible repeat (first | refine blk_drewN ?_ _ | refine blk_drew ?_ | refine blk_alloc ?_ _)); exact BK134.out)) : gb135 ≠ gb134)); clear BK134; clear HB; have BK134 := n0_; have HB := n1_; have BK135 := n2_; have GW135 := n3_; have GE135 := n4_; have NB134_135 := n5_; have NB135_134 := n6_; clear n0_ n1_ n2_ n3_ n4_ n5_ n6_; clear hb hbox hg; have hnb16 := NB134_135.out; have hnc16 := NB135_134.out; have hcz17_0 : w15.cell? ⟨gb134, 0, none⟩ = some (.slice A0_0 l0_0.length c0_0) := (blk_cell BK134.out 0).trans rfl; have hcz17_1 : w15.cell? ⟨gb134, 1, none⟩ = some (.slice A0_1 l0_1.length c0_1) := (blk_cell BK134.out 1).trans rfl; have hfz17_0 := blk_frozen BK134.out 0; have hfz17_1 := blk_frozen BK134.out 1) | ((with_reducible refine gate_callee (f := 38) rfl ?_); refine goesL_ (some 11) rfl rfl Try.func38 (by kernel_rfl) rfl #[.slice A0_1 l0_1.length c0_1, .int .i64 a1, .func (.func 39) #[] #[]] rfl (by (try simp only [List.map_toArray, List.map_cons, List.map_nil]); first | done | rfl | (simp only [List.length_drop, List.length_take]; rfl)) ?_; (with_reducible refine (api_Fault_int.calls k _ _ l0_1 a1 39 t136 false _ ?side1 ?side2 A3.out).mono ?_); (case side1 => repeat (first | exact (Kd.C_below HR0_1.out HB.out) | (with_reducible refine Kd.C_alloc ?_ _) | (with_reducible refine Kd.C_drewN ?_ _) | (with_reducible refine Kd.C_drew ?_))); (case side2 => exact HC0_1.out); rintro e w18 ⟨rfl, hb⟩; refine ⟨_, rfl, ?_⟩; have n0_ := Aside0.mk (blk_below (g := gb134) (o := .cells #[.slice A0_0 l0_0.length c0_0, .slice A0_1 l0_1.length c0_1] 26 (0, 0)) (by (with_reducible repeat (first | refine blk_drewN ?_ _ | refine blk_drew ?_ | refine blk_alloc ?_ _)); exact BK134.out) hb); have n1_ := Aside0.mk (blk_below (g := gb135) (o := .cells #[.int .i64 0, .int .i64 0, .int .i64 0] 59 (0, 0)) (by (with_reducible repeat (first | refine blk_drewN ?_ _ | refine blk_drew ?_ | refine blk_alloc ?_ _)); exact BK135.out) hb); have n2_ := Aside0.mk (below_step (by repeat (first | (with_reducible first | exact HB.out | apply below_alloc | apply pw_below_drewN | apply below_drew1 | refine below_set ?_ GE134.out | refine below_set ?_ GE135.out) | exact HB.out)) hb); clear BK134; clear BK135; clear HB; have BK134 := n0_; have BK135 := n1_; have HB := n2_; clear n0_ n1_ n2_; (try clear hb); (try clear hb2); (try clear hk); (try clear hi); have hcz19_0 : w18.cell? ⟨gb135, 0, none⟩ = some (.int .i64 0) := (blk_cell BK135.out 0).trans rfl; have hcz19_1 : w18.cell? ⟨gb135, 1, none⟩ = some (.int .i64 0) := (blk_cell BK135.out 1).trans rfl; have hcz19_2 : w18.cell? ⟨gb135, 2, none⟩ = some (.int .i64 0) := (blk_cell BK135.out 2).trans rfl; have hfz19_0 := blk_frozen BK135.out 0; have hfz19_1 := blk_frozen BK135.out 1; have hfz19_2 := blk_frozen BK135.out 2))
    refine bodyPost_ret (results_cell_row rfl _ _ gb135 59 #[.int .i64 0, .int .i64 0, .int .i64 0] (0, 0) _ rfl (by (with_reducible repeat (first | refine blk_drewN ?_ _ | refine blk_drew ?_ | refine blk_alloc ?_ _)); refine blk_put (cs := #[.int .i64 0, .int .i64 0, .int .i64 0]) ?_ 2 _ rfl; (with_reducible repeat (first | refine blk_drewN ?_ _ | refine blk_drew ?_ | refine blk_alloc ?_ _)); refine blk_put (cs := #[.int .i64 0, .int .i64 0, .int .i64 0]) ?_ 1 _ rfl; (with_reducible repeat (first | refine blk_drewN ?_ _ | refine blk_drew ?_ | refine blk_alloc ?_ _)); refine blk_put (cs := #[.int .i64 0, .int .i64 0, .int .i64 0]) ?_ 0 _ rfl; (with_reducible repeat (first | refine blk_drewN ?_ _ | refine blk_drew ?_ | refine blk_alloc ?_ _)); exact BK135.out) Try.underlying59 rfl (by kernel_rfl)) rfl ?_
    exact ⟨by first | rfl | (simp [errW_none, errW_some] <;> rfl) | (simp [*, errW_none, errW_some] <;> rfl), by repeat (first | (with_reducible first | exact HB.out | apply below_alloc | apply pw_below_drewN | apply below_drew1 | refine below_set ?_ GE134.out | refine below_set ?_ GE135.out) | exact HB.out)⟩

/-! ### drive_answer: function 26 -/
set_option maxHeartbeats 4000000 in
set_option maxRecDepth 100000 in
theorem drive_answer.calls (k : Nat) (A0 : Option Addr) (c0 : Nat) (D : List Int) (A1 : Option Addr) (c1 : Nat) (F : List S59) (blk t : Int) (f : Int × Int × Int) (w : World) (hr0 : Kd.C (Kd.int .u8) w A0 D.length D) (hc0 : D.length ≤ c0) (hr1 : Kd.C k59 w A1 F.length F) (hc1 : F.length ≤ c1)
    (h : drive_fault.f k D F blk = some f) (q1 : 0 ≤ blk) (q2 : blk * 64 + 64 ≤ (D.length : Int)) (q3 : D.length ≤ 65536) :
    Calls Try.prog 26 #[.agg #[.slice A0 D.length c0, .slice A1 F.length c1], .int .i64 blk, .int .i64 t] w fun e w' => ∃ (A' : Option Addr) (c' : Nat), e = .returned (.tuple #[.slice A' (ansR D blk f t).length c', .int .i64 (ansT f), .int .i64 (ansE f t)]) ∧ (∀ W : World, Kd.C (Kd.int .u8) W A0 D.length D → Kd.C (Kd.int .u8) W A' (ansR D blk f t).length (ansR D blk f t)) ∧ (ansR D blk f t).length ≤ c' ∧ Below w.heap.size w w' := by
  obtain ⟨f0, f1, f2⟩ := f
  obtain ⟨row, hrow⟩ : ∃ row, row = (D.drop (blk * 64).toNat).take 64 := ⟨_, rfl⟩
  have hlen : row.length = 64 := by rw [hrow, List.length_take, List.length_drop]; omega
  obtain ⟨i0, hi0, _, hsz, _⟩ := info_parts info5
  have hcut := cut_mid (P := Try.prog) 23 5 .i64 .i64 Try.underlying23 hi0 1 hsz A0 D.length c0 (blk * 64) ((blk + 1) * 64) (by omega) (by omega) (by omega) hc0
  have el : ((blk + 1) * 64).toNat - (blk * 64).toNat = row.length := by omega
  rw [el] at hcut
  have HCUT : Aside0 (∀ W : World, Kd.C (Kd.int .u8) W A0 D.length D → Kd.C (Kd.int .u8) W (if c0 = (blk * 64).toNat then A0 else A0.map (·.add ((blk * 64).toNat * 1))) row.length row) := ⟨fun W hW => by
    have h1 := Kd.C_drop hW (m := (blk * 64).toNat) (c := c0) (by omega) hc0
    have h2 := Kd.C_take (m := 64) h1 (by rw [List.length_drop]; omega)
    rw [← hrow] at h2
    exact h2⟩
  have HLEN := Aside0.mk (show row.length ≤ c0 - (blk * 64).toNat from by omega)
  generalize (if c0 = (blk * 64).toNat then A0 else A0.map (·.add ((blk * 64).toNat * 1))) = AC at hcut HCUT
  have HROW := Aside0.mk hrow
  have H := Aside0.mk h
  have HR0 := Aside0.mk hr0
  have HR1 := Aside0.mk hr1
  have HC0 := Aside0.mk hc0
  have HC1 := Aside0.mk hc1
  clear h hr0 hr1 hc0 hc1 hrow hlen el hi0 hsz
  go_enter Try.func26, Try.ntmps26
  go_upto_region 1 with (first | ((with_reducible refine gate_dst (N := 3) rfl ?_); refine box_event ?hg (N := 3) ?hd (cs := #[.slice A0 D.length c0, .slice A1 F.length c1]) (t := 26) ?hr ?_; (case hd => rfl); (case hg => rfl); (case hr => first | (go_simp; done) | (go_simp; rfl)); intro g1 hg W1 hbox hb; have BK1 := Aside0.mk hbox; have HB1 := Aside0.mk (below_step (Below.refl _ _) hb); clear hb hbox hg))
  have x0 : W1.cell? ⟨g1, 0, none⟩ = some (.slice A0 D.length c0) := (blk_cell BK1.out 0).trans rfl
  have x1 : W1.cell? ⟨g1, 1, none⟩ = some (.slice A1 F.length c1) := (blk_cell BK1.out 1).trans rfl
  go_upto_region 2 with (first | (go_at_call 35; refine (drive_fault.calls k A0 c0 D A1 c1 F blk f0 f1 f2 _ (Kd.C_below HR0.out HB1.out) HC0.out (Kd.C_below HR1.out HB1.out) HC1.out H.out).mono ?_; rintro e w2 ⟨rfl, hb⟩; have HB2 := Aside0.mk (below_step HB1.out hb); have HS2 := Aside0.mk hb; have BK2 := Aside0.mk (blk_below BK1.out hb); clear hb) | ((with_reducible refine gate_dst (N := 9) rfl ?_); refine box_event ?hg (N := 9) ?hd (cs := #[.int .i64 0, .int .i64 0, .int .i64 0]) (t := 59) ?hr ?_; (case hd => rfl); (case hg => rfl); (case hr => first | (go_simp; done) | (go_simp; rfl)); intro g2 hg W3 hbox hb; have BK3 := Aside0.mk hbox; have HB3 := Aside0.mk (below_step HB2.out hb); have GE3 := Aside0.mk (show w.heap.size ≤ g2 from by rw [hg]; exact below_size HB2.out); have BK1' := Aside0.mk (blk_below BK2.out hb); have HS3 := Aside0.mk (below_step HS2.out hb); have GX3 := Aside0.mk (show W1.heap.size ≤ g2 from by rw [hg]; exact below_size HS2.out); have z0 : W3.cell? ⟨g2, 0, none⟩ = some (.int .i64 0) := (blk_cell BK3.out 0).trans rfl; have z1 : W3.cell? ⟨g2, 1, none⟩ = some (.int .i64 0) := (blk_cell BK3.out 1).trans rfl; have z2 : W3.cell? ⟨g2, 2, none⟩ = some (.int .i64 0) := (blk_cell BK3.out 2).trans rfl; have fz0 := blk_frozen BK3.out 0; have fz1 := blk_frozen BK3.out 1; have fz2 := blk_frozen BK3.out 2; have NE := Aside0.mk (show g1 ≠ g2 from by rw [hg]; exact Nat.ne_of_lt (blk_lt BK2.out)); clear hb hbox hg))
  have BKZ : (((W3.setCell ⟨g2, 0, none⟩ (.int .i64 f0)).setCell ⟨g2, 1, none⟩ (.int .i64 f1)).setCell ⟨g2, 2, none⟩ (.int .i64 f2)).heap[g2]? = some (.cells #[.int .i64 f0, .int .i64 f1, .int .i64 f2] 59 (0, 0)) := blk_put (cs := #[.int .i64 f0, .int .i64 f1, .int .i64 0]) (blk_put (cs := #[.int .i64 f0, .int .i64 0, .int .i64 0]) (blk_put (cs := #[.int .i64 0, .int .i64 0, .int .i64 0]) BK3.out 0 _ rfl) 1 _ rfl) 2 _ rfl
  have HBZ0 : Below w.heap.size w (((W3.setCell ⟨g2, 0, none⟩ (.int .i64 f0)).setCell ⟨g2, 1, none⟩ (.int .i64 f1)).setCell ⟨g2, 2, none⟩ (.int .i64 f2)) := below_set (below_set (below_set HB3.out GE3.out) GE3.out) GE3.out
  have HGZ : Below W1.heap.size W1 (((W3.setCell ⟨g2, 0, none⟩ (.int .i64 f0)).setCell ⟨g2, 1, none⟩ (.int .i64 f1)).setCell ⟨g2, 2, none⟩ (.int .i64 f2)) := below_set (below_set (below_set (HS3.out) GX3.out) GX3.out) GX3.out
  clear z0 z1 z2 fz0 fz1 fz2 BK2 BK1' HB2 HB3 BK3 x0 x1
  generalize (((W3.setCell ⟨g2, 0, none⟩ (.int .i64 f0)).setCell ⟨g2, 1, none⟩ (.int .i64 f1)).setCell ⟨g2, 2, none⟩ (.int .i64 f2)) = WZ at BKZ HBZ0 HGZ ⊢
  have y1 : WZ.cell? ⟨g2, 1, none⟩ = some (.int .i64 f1) := (blk_cell BKZ 1).trans rfl
  have y2 : WZ.cell? ⟨g2, 2, none⟩ = some (.int .i64 f2) := (blk_cell BKZ 2).trans rfl
  have x0 : WZ.cell? ⟨g1, 0, none⟩ = some (.slice A0 D.length c0) := (blk_cell (blk_below BK1.out HGZ) 0).trans rfl
  clear BKZ HGZ BK1 HB1
  have HBZ : Aside0 (Below w.heap.size w WZ) := ⟨HBZ0⟩
  clear HBZ0
  by_cases hk : f1 = 3
  · have t1 : (f1 == 1) = false := beq_eq_false_iff_ne.mpr (by omega)
    have t2 : (f1 == 2) = false := beq_eq_false_iff_ne.mpr (by omega)
    have t3 : (f1 == 3) = true := beq_iff_eq.mpr hk
    have eE : ansE (f0, f1, f2) t = 0 := by unfold ansE; rw [if_neg (by rintro (h | ⟨h, h'⟩) <;> first | (have h1 : f1 = 1 := h; omega) | (have h2 : f1 = 2 := h; have h3 : t < f2 := h'; omega))]
    have eT : ansT (f0, f1, f2) = f2 := by unfold ansT; exact if_pos hk
    have ER := Aside0.mk (show ansR D blk (f0, f1, f2) t = row from by unfold ansR; rw [eE, if_pos rfl, HROW.out])
    have EE := Aside0.mk eE
    have ET := Aside0.mk eT
    clear eE eT hk
    go_wp2
    exact bodyPost_ret (v := .tuple #[.slice AC row.length (c0 - (blk * 64).toNat), .int .i64 f2, .int .i64 0]) (by simp [results, Try.results26, go_sem]) rfl ⟨AC, c0 - (blk * 64).toNat, by rw [ER.out, ET.out, EE.out], fun W hW => by rw [ER.out]; exact HCUT.out W hW, by rw [ER.out]; exact HLEN.out, HBZ.out⟩
  · by_cases hk1 : f1 = 1
    · have hk := hk1
      have t1 : (f1 == 1) = true := beq_iff_eq.mpr hk
      have t2 : (f1 == 2) = false := beq_eq_false_iff_ne.mpr (by omega)
      have t3 : (f1 == 3) = false := beq_eq_false_iff_ne.mpr (by omega)
      have eE : ansE (f0, f1, f2) t = 19 := by unfold ansE; rw [if_pos (by first | (left; exact hk) | (right; exact ⟨hk, hl⟩))]
      have eT : ansT (f0, f1, f2) = 1 := by unfold ansT; exact if_neg (by show ¬ f1 = 3; omega)
      have ER := Aside0.mk (show ansR D blk (f0, f1, f2) t = [] from by unfold ansR; rw [eE, if_neg (by decide)])
      have EE := Aside0.mk eE
      have ET := Aside0.mk eT
      clear eE eT hk
      go_wp2
      exact bodyPost_ret (v := .tuple #[.slice none 0 0, .int .i64 1, .int .i64 19]) (by simp [results, Try.results26, go_sem]) rfl ⟨none, 0, by rw [ER.out, ET.out, EE.out]; rfl, fun _ _ => by rw [ER.out]; exact Kd.C_nil _ _, by rw [ER.out]; exact Nat.le_refl _, HBZ.out⟩
    · by_cases hk2 : f1 = 2
      · by_cases hl : t < f2
        · have hk := hk2
          have t1 : (f1 == 1) = false := beq_eq_false_iff_ne.mpr (by omega)
          have t2 : (f1 == 2) = true := beq_iff_eq.mpr hk
          have t3 : (f1 == 3) = false := beq_eq_false_iff_ne.mpr (by omega)
          have t4 : decide (t < f2) = true := decide_eq_true hl
          have eE : ansE (f0, f1, f2) t = 19 := by unfold ansE; rw [if_pos (by first | (left; exact hk) | (right; exact ⟨hk, hl⟩))]
          have eT : ansT (f0, f1, f2) = 1 := by unfold ansT; exact if_neg (by show ¬ f1 = 3; omega)
          have ER := Aside0.mk (show ansR D blk (f0, f1, f2) t = [] from by unfold ansR; rw [eE, if_neg (by decide)])
          have EE := Aside0.mk eE
          have ET := Aside0.mk eT
          clear eE eT hk hl
          go_wp2
          exact bodyPost_ret (v := .tuple #[.slice none 0 0, .int .i64 1, .int .i64 19]) (by simp [results, Try.results26, go_sem]) rfl ⟨none, 0, by rw [ER.out, ET.out, EE.out]; rfl, fun _ _ => by rw [ER.out]; exact Kd.C_nil _ _, by rw [ER.out]; exact Nat.le_refl _, HBZ.out⟩
        · have hk := hk2
          have t1 : (f1 == 1) = false := beq_eq_false_iff_ne.mpr (by omega)
          have t2 : (f1 == 2) = true := beq_iff_eq.mpr hk
          have t3 : (f1 == 3) = false := beq_eq_false_iff_ne.mpr (by omega)
          have t4 : decide (t < f2) = false := decide_eq_false hl
          have eE : ansE (f0, f1, f2) t = 0 := by unfold ansE; rw [if_neg (by rintro (h | ⟨h, h'⟩) <;> first | (have h1 : f1 = 1 := h; omega) | (have h2 : f1 = 2 := h; have h3 : t < f2 := h'; omega))]
          have eT : ansT (f0, f1, f2) = 1 := by unfold ansT; exact if_neg (by show ¬ f1 = 3; omega)
          have ER := Aside0.mk (show ansR D blk (f0, f1, f2) t = row from by unfold ansR; rw [eE, if_pos rfl, HROW.out])
          have EE := Aside0.mk eE
          have ET := Aside0.mk eT
          clear eE eT hk hl
          go_wp2
          exact bodyPost_ret (v := .tuple #[.slice AC row.length (c0 - (blk * 64).toNat), .int .i64 1, .int .i64 0]) (by simp [results, Try.results26, go_sem]) rfl ⟨AC, c0 - (blk * 64).toNat, by rw [ER.out, ET.out, EE.out], fun W hW => by rw [ER.out]; exact HCUT.out W hW, by rw [ER.out]; exact HLEN.out, HBZ.out⟩
      · have hk : f1 ≠ 3 := hk
        have t1 : (f1 == 1) = false := beq_eq_false_iff_ne.mpr (by omega)
        have t2 : (f1 == 2) = false := beq_eq_false_iff_ne.mpr (by omega)
        have t3 : (f1 == 3) = false := beq_eq_false_iff_ne.mpr (by omega)
        have eE : ansE (f0, f1, f2) t = 0 := by unfold ansE; rw [if_neg (by rintro (h | ⟨h, h'⟩) <;> first | (have h1 : f1 = 1 := h; omega) | (have h2 : f1 = 2 := h; have h3 : t < f2 := h'; omega))]
        have eT : ansT (f0, f1, f2) = 1 := by unfold ansT; exact if_neg (by show ¬ f1 = 3; omega)
        have ER := Aside0.mk (show ansR D blk (f0, f1, f2) t = row from by unfold ansR; rw [eE, if_pos rfl, HROW.out])
        have EE := Aside0.mk eE
        have ET := Aside0.mk eT
        clear eE eT hk
        go_wp2
        exact bodyPost_ret (v := .tuple #[.slice AC row.length (c0 - (blk * 64).toNat), .int .i64 1, .int .i64 0]) (by simp [results, Try.results26, go_sem]) rfl ⟨AC, c0 - (blk * 64).toNat, by rw [ER.out, ET.out, EE.out], fun W hW => by rw [ER.out]; exact HCUT.out W hW, by rw [ER.out]; exact HLEN.out, HBZ.out⟩

/-! ### drive_Answer: function 11 -/
def drive_Answer.f (k : Nat) (D : List Int) (F : List S59) (blk t : Int) : Option (List Int × Int × Int) := (drive_Check.f k D F).bind fun c => if c = 0 ∧ 0 ≤ blk ∧ blk * 64 + 64 ≤ (D.length : Int) ∧ 1 ≤ t ∧ D.length ≤ 65536 then (drive_fault.f k D F blk).bind fun f => some (ansR D blk f t, ansT f, ansE f t) else none
theorem drive_Answer.mono : ∀ D F blk t k, LeO (drive_Answer.f k D F blk t) (drive_Answer.f (k + 1) D F blk t) := by
  intro D F blk t k r h
  unfold drive_Answer.f at h ⊢
  obtain ⟨c, h1, h⟩ := Option.bind_eq_some_iff.mp h
  rw [drive_Check.mono D F k c h1, Option.bind_some]
  split at h
  case isFalse => exact absurd h (by simp)
  case isTrue hh =>
    obtain ⟨f, h2, h⟩ := Option.bind_eq_some_iff.mp h
    rw [if_pos hh, drive_fault.mono D F blk k f h2, Option.bind_some]
    exact h
theorem ansR_len (D : List Int) (blk : Int) (f : Int × Int × Int) (t : Int) : (ansR D blk f t).length ≤ 64 := by
  unfold ansR
  split
  · rw [List.length_take]; omega
  · simp
set_option maxHeartbeats 4000000 in
set_option maxRecDepth 100000 in
theorem drive_Answer.calls (k : Nat) (A0 : Option Addr) (c0 : Nat) (D : List Int) (A1 : Option Addr) (c1 : Nat) (F : List S59) (blk t : Int) (r1 : List Int) (r2 r3 : Int) (w : World) (hr0 : Kd.C (Kd.int .u8) w A0 D.length D) (hc0 : D.length ≤ c0) (hr1 : Kd.C k59 w A1 F.length F) (hc1 : F.length ≤ c1)
    (h : drive_Answer.f k D F blk t = some (r1, r2, r3)) :
    Calls Try.prog 11 #[.agg #[.slice A0 D.length c0, .slice A1 F.length c1], .int .i64 blk, .int .i64 t] w fun e w' => ∃ v0_ : Value, e = .returned (.tuple #[v0_, .int .i64 r2, .int .i64 r3]) ∧ Kd.R (Kd.int .u8) 5 w' w.heap.size (fun _ => True) v0_ r1 ∧ Below w.heap.size w w' := by
  unfold drive_Answer.f at h
  obtain ⟨c, h1, h⟩ := Option.bind_eq_some_iff.mp h
  split at h
  case isFalse => exact absurd h (by simp)
  case isTrue hh =>
  obtain ⟨rfl, q1, q2, q3, q4⟩ := hh
  obtain ⟨f, h2, h⟩ := Option.bind_eq_some_iff.mp h
  obtain ⟨rfl, e⟩ := Prod.mk.inj (Option.some.inj h)
  obtain ⟨rfl, rfl⟩ := Prod.mk.inj e
  have HL := Aside0.mk (ansR_len D blk f t)
  have HF := Aside0.mk (show slices_Clone_byte_byte.f (ansR D blk f t) = some (ansR D blk f t) from by unfold slices_Clone_byte_byte.f; rw [if_pos (by have := ansR_len D blk f t; omega)])
  have H1 := Aside0.mk h1
  have H2 := Aside0.mk h2
  have HR0 := Aside0.mk hr0
  have HR1 := Aside0.mk hr1
  have HC0 := Aside0.mk hc0
  have HC1 := Aside0.mk hc1
  clear h e h1 h2 hr0 hr1 hc0 hc1
  generalize hrow : ansR D blk f t = row at *
  have HROW := Aside0.mk hrow
  clear hrow
  generalize hT : ansT f = T at *
  have HT := Aside0.mk hT
  clear hT
  generalize hE : ansE f t = E at *
  have HE := Aside0.mk hE
  clear hE
  have q5 : blk < (D.length : Int) / 64 := by omega
  have t1 : decide (blk ≥ (D.length : Int) / 64) = false := decide_eq_false (by omega)
  have t1b : decide ((D.length : Int) / 64 ≤ blk) = false := decide_eq_false (by omega)
  go_enter Try.func11, Try.ntmps11
  go_upto_region 1 with (first | ((with_reducible refine gate_dst (N := 3) rfl ?_); refine box_event ?hg (N := 3) ?hd (cs := #[.slice A0 D.length c0, .slice A1 F.length c1]) (t := 26) ?hr ?_; (case hd => rfl); (case hg => rfl); (case hr => first | (go_simp; done) | (go_simp; rfl)); intro g1 hg W1 hbox hb; have BK1 := Aside0.mk hbox; have HB1 := Aside0.mk (below_step (Below.refl _ _) hb); clear hb hbox hg))
  have x0 : W1.cell? ⟨g1, 0, none⟩ = some (.slice A0 D.length c0) := (blk_cell BK1.out 0).trans rfl
  have x1 : W1.cell? ⟨g1, 1, none⟩ = some (.slice A1 F.length c1) := (blk_cell BK1.out 1).trans rfl
  go_upto_region 2 with (go_at_call 23; refine (drive_Check.calls k A0 c0 D A1 c1 F 0 _ (Kd.C_below HR0.out HB1.out) HC0.out (Kd.C_below HR1.out HB1.out) HC1.out H1.out).mono ?_; rintro e w2 ⟨rfl, hb⟩; have HB2 := Aside0.mk (below_step HB1.out hb); have BK2 := Aside0.mk (blk_below BK1.out hb); clear hb)
  clear x0 x1
  have x0 : w2.cell? ⟨g1, 0, none⟩ = some (.slice A0 D.length c0) := (blk_cell BK2.out 0).trans rfl
  have x1 : w2.cell? ⟨g1, 1, none⟩ = some (.slice A1 F.length c1) := (blk_cell BK2.out 1).trans rfl
  go_upto_region 8 with (fail)
  go_upto_region 9 with (go_at_call 26; refine (drive_answer.calls k A0 c0 D A1 c1 F blk t f _ (Kd.C_below HR0.out HB2.out) HC0.out (Kd.C_below HR1.out HB2.out) HC1.out H2.out q1 q2 q4).mono ?_; rw [HROW.out, HT.out, HE.out]; rintro e w3 ⟨A', c', rfl, hR, hc', hb⟩; have HB3 := Aside0.mk (below_step HB2.out hb); have HCR := Aside0.mk (hR w3 (Kd.C_below HR0.out HB3.out)); have HCC := Aside0.mk hc'; clear hb hR hc')
  go_wp2_with (go_at_call 24; refine (slices_Clone_byte_byte.calls A' c' row row _ HCR.out HCC.out HF.out).mono ?_; rintro e w4 ⟨v4, rfl, hR, hb⟩; have HR4 := Aside0.mk hR; have HB4 := Aside0.mk (below_step HB3.out hb); clear hb hR)
  exact bodyPost_ret (v := .tuple #[v4, .int .i64 T, .int .i64 E]) (by simp [results, Try.results11, go_sem]) rfl ⟨v4, rfl, Kd.R_lower HR4.out (below_size HB3.out), HB4.out⟩

/-! ### wrackkeep1_drives: function 8 -/
def wrackkeep1_drives.f (k : Nat)  : Option (Bool) := if 64 ≤ 281474976710656 then ((some (List.replicate 64 0 : List Int)).bind fun y139 => ((some (([(⟨0, 2, 2⟩ : S59)] : List (S59)) : List (S59))).bind fun y142 => ((drive_Answer.f k y139 y142 0 1).bind fun bt146 => ((drive_Answer.f k y139 y142 0 2).bind fun bt151 => (if bt146.2.2 = 19 then (if bt151.2.2 = 0 then (some ((bt151.1.length : Int) == 64)) else (some false)) else (some false)))))) else (none)
theorem wrackkeep1_drives.mono : ∀ k, LeO (wrackkeep1_drives.f k ) (wrackkeep1_drives.f (k + 1) ) := by
  intro  k
  unfold wrackkeep1_drives.f
  repeat' first
      | (with_reducible exact drive_Answer.mono _ _ _ _ _)
      | (with_reducible exact LeO.refl _)
      | (with_reducible exact LeO.none _)
      | (with_reducible refine LeO.ite ?_ ?_)
      | (with_reducible refine LeO.bind ?_ (fun _ => ?_))
      | exact drive_Answer.mono _ _ _ _ _
      | exact LeO.none _
      | refine LeO.ite ?_ ?_
      | refine LeO.bind ?_ (fun _ => ?_)
set_option maxHeartbeats 8000000 in
set_option maxRecDepth 100000 in
theorem wrackkeep1_drives.calls (k : Nat)  (r : Bool) (w : World) (h : wrackkeep1_drives.f k  = some r) :
    Calls Try.prog 8 #[] w fun e w' => e = .returned (.bool r) ∧ Below w.heap.size w w' := by
  have hu59 := Try.underlying59
  have hu26 := Try.underlying26
  have HB := Aside0.mk (Below.refl w.heap.size w)
  have H : (if 64 ≤ 281474976710656 then ((some (List.replicate 64 0 : List Int)).bind fun y139 => ((some (([(⟨0, 2, 2⟩ : S59)] : List (S59)) : List (S59))).bind fun y142 => ((drive_Answer.f k y139 y142 0 1).bind fun bt146 => ((drive_Answer.f k y139 y142 0 2).bind fun bt151 => (if bt146.2.2 = 19 then (if bt151.2.2 = 0 then (some ((bt151.1.length : Int) == 64)) else (some false)) else (some false)))))) else (none)) = some r := h
  clear h
  by_cases c1 : 64 ≤ 281474976710656
  · rw [if_pos c1] at H
    have c1b0 := eq_true c1
    have c1b1 : decide (64 ≤ 281474976710656) = true := decide_eq_true c1
    clear c1
    obtain ⟨y139, hy139⟩ : ∃ y_ : List Int, y_ = (List.replicate 64 0) := ⟨_, rfl⟩
    replace H : ((some (([(⟨0, 2, 2⟩ : S59)] : List (S59)) : List (S59))).bind fun y142 => ((drive_Answer.f k y139 y142 0 1).bind fun bt146 => ((drive_Answer.f k y139 y142 0 2).bind fun bt151 => (if bt146.2.2 = 19 then (if bt151.2.2 = 0 then (some ((bt151.1.length : Int) == 64)) else (some false)) else (some false))))) = some r := by first | (rw [hy139]; with_reducible exact H) | (have H2_ := (Option.bind_some _ _).symm.trans H; rw [hy139]; with_reducible exact H2_) | (have H2_ := (Option.bind_some _ _).symm.trans H; with_reducible exact H2_) | with_reducible exact H | (rw [hy139]; exact H) | exact H
    have Ny139 := Aside0.mk hy139
    clear hy139
    obtain ⟨y142, hy142⟩ : ∃ y_ : List (S59), y_ = (([(⟨0, 2, 2⟩ : S59)] : List (S59))) := ⟨_, rfl⟩
    replace H : ((drive_Answer.f k y139 y142 0 1).bind fun bt146 => ((drive_Answer.f k y139 y142 0 2).bind fun bt151 => (if bt146.2.2 = 19 then (if bt151.2.2 = 0 then (some ((bt151.1.length : Int) == 64)) else (some false)) else (some false)))) = some r := by first | (rw [hy142]; with_reducible exact H) | (have H2_ := (Option.bind_some _ _).symm.trans H; rw [hy142]; with_reducible exact H2_) | (have H2_ := (Option.bind_some _ _).symm.trans H; with_reducible exact H2_) | with_reducible exact H | (rw [hy142]; exact H) | exact H
    have Ny142 := Aside0.mk hy142
    clear hy142
    replace H := Option.bind_eq_some_iff.mp H
    obtain ⟨⟨t146, t149, t150⟩, A20, H⟩ := H
    replace H : ((drive_Answer.f k y139 y142 0 2).bind fun bt151 => (if t150 = 19 then (if bt151.2.2 = 0 then (some ((bt151.1.length : Int) == 64)) else (some false)) else (some false))) = some r := H
    have A2 := Aside0.mk A20
    clear A20
    replace H := Option.bind_eq_some_iff.mp H
    obtain ⟨⟨t151, t154, t155⟩, A30, H⟩ := H
    replace H : (if t150 = 19 then (if t155 = 0 then (some ((t151.length : Int) == 64)) else (some false)) else (some false)) = some r := H
    have A3 := Aside0.mk A30
    clear A30
    by_cases c4 : t150 = 19
    · rw [if_pos c4] at H
      have c4b0 : (t150 == 19) = true := beq_iff_eq.mpr c4
      have c4b1 : (t150 != 19) = false := bne_eq_false_iff_eq.mpr c4
      clear c4
      by_cases c5 : t155 = 0
      · rw [if_pos c5] at H
        have c5b0 : (t155 == 0) = true := beq_iff_eq.mpr c5
        have c5b1 : (t155 != 0) = false := bne_eq_false_iff_eq.mpr c5
        clear c5
        obtain rfl := Option.some.inj H
        go_enter Try.func8, Try.ntmps8
        go_wp2_with (first | ((with_reducible refine gate_dst (N := 8) rfl ?_); (try (refine gate_guard (by rfl) ?_; dsimp only)); refine Kd.R_make (Kd.int .u8) _ 5 rfl (N := 8) rfl 23 _ _ rfl 64 rfl rfl Try.underlying23 (.int .u8 0) 1 info5 rfl (by decide) (by omega) 0 (ok := fun _ => True) (okp := fun _ => True) rfl (fun _ hk => hk) trivial (by omega) (by omega) (Below.refl _ _) (Nat.le_refl _) ?_; intro v140 w6 ho7 hb hg_ hnew_; clear hg_ hnew_; (first | rw [← Ny139.out] at ho7 | (simp only [Int.reduceToNat] at ho7; rw [← Ny139.out] at ho7)); have n0_ := Aside0.mk (Kd.R_lower ho7 (below_size (by repeat (first | (with_reducible first | exact HB.out | apply below_alloc | apply pw_below_drewN | apply below_drew1) | exact HB.out)))); have n1_ := Aside0.mk (below_step (by repeat (first | (with_reducible first | exact HB.out | apply below_alloc | apply pw_below_drewN | apply below_drew1) | exact HB.out)) hb); clear HB; have HO141 := n0_; have HB := n1_; clear n0_ n1_; clear hb ho7) | ((with_reducible refine gate_dst (N := 10) rfl ?_); (try (refine gate_guard (by rfl) ?_; dsimp only)); refine Kd.R_lit k59 _ 59 ?hg (N := 10) ?hd (xs := ([(⟨0, 2, 2⟩ : S59)] : List (S59))) (inner := [.int .i64 0, .int .i64 2, .int .i64 2]) (ok := fun _ => True) (okp := fun _ => True) ?hr ?hp (fun _ hk => hk) trivial (Below.refl _ _) (Nat.le_refl _) (by simp) ?_; (case hd => rfl); (case hg => rfl); (case hr => first | (go_simp; done) | (go_simp; rfl)); (case hp => exact (Reps.c3 (show Kd.M k59 _ _ _ (⟨0, 2, 2⟩ : S59) [.int .i64 0, .int .i64 2, .int .i64 2] from (k59_mkM _ _ _ (⟨0, 2, 2⟩ : S59) )) (Reps.none _ _))); intro v143 w8 ho9 hb hg_ hnew_; clear hg_ hnew_; (first | rw [← Ny142.out] at ho9 | (simp only [Int.reduceToNat] at ho9; rw [← Ny142.out] at ho9)); have n0_ := Aside0.mk (Kd.R_below (by (with_reducible repeat (first | apply Kd.R_alloc | apply Kd.R_drewN | apply Kd.R_drew)); exact HO141.out) hb); have n1_ := Aside0.mk (Kd.R_lower ho9 (below_size (by repeat (first | (with_reducible first | exact HB.out | apply below_alloc | apply pw_below_drewN | apply below_drew1) | exact HB.out)))); have n2_ := Aside0.mk (below_step (by repeat (first | (with_reducible first | exact HB.out | apply below_alloc | apply pw_below_drewN | apply below_drew1) | exact HB.out)) hb); clear HO141; clear HB; have HO141 := n0_; have HO144 := n1_; have HB := n2_; clear n0_ n1_ n2_; clear hb ho9; obtain ⟨Ao10, co10, eo10⟩ := Kd.R_slice HO144.out; subst eo10; obtain ⟨Ao11, co11, eo11⟩ := Kd.R_slice HO141.out; subst eo11) | ((with_reducible refine gate_dst (N := 1) rfl ?_); (try (refine gate_guard (by rfl) ?_; dsimp only)); refine box_event ?hg (N := 1) ?hd (cs := #[.slice none 0 0, .slice none 0 0]) (t := 26) ?hr ?_; (case hd => rfl); (case hg => rfl); (case hr => first | (go_simp; done) | (go_simp; rfl)); intro gb145 hg w12 hbox hb; have n0_ := Aside0.mk (Kd.R_below (by (with_reducible repeat (first | apply Kd.R_alloc | apply Kd.R_drewN | apply Kd.R_drew)); exact HO141.out) hb); have n1_ := Aside0.mk (Kd.R_below (by (with_reducible repeat (first | apply Kd.R_alloc | apply Kd.R_drewN | apply Kd.R_drew)); exact HO144.out) hb); have n2_ := Aside0.mk (below_step (by repeat (first | (with_reducible first | exact HB.out | apply below_alloc | apply pw_below_drewN | apply below_drew1) | exact HB.out)) hb); have n3_ := Aside0.mk (hbox); have n4_ := Aside0.mk ((by rw [hg]; exact (below_size (by repeat (first | (with_reducible first | exact HB.out | apply below_alloc | apply pw_below_drewN | apply below_drew1) | exact HB.out))) : w.heap.size ≤ gb145)); have n5_ := Aside0.mk ((by rw [hg]; exact (below_size (by repeat (first | (with_reducible first | exact HB.out | apply below_alloc | apply pw_below_drewN | apply below_drew1) | exact HB.out))) : w.heap.size ≤ gb145)); clear HO141; clear HO144; clear HB; have HO141 := n0_; have HO144 := n1_; have HB := n2_; have BK145 := n3_; have GW145 := n4_; have GE145 := n5_; clear n0_ n1_ n2_ n3_ n4_ n5_; clear hb hbox hg; have hcz13_0 : w12.cell? ⟨gb145, 0, none⟩ = some (.slice none 0 0) := (blk_cell BK145.out 0).trans rfl; have hcz13_1 : w12.cell? ⟨gb145, 1, none⟩ = some (.slice none 0 0) := (blk_cell BK145.out 1).trans rfl; have hfz13_0 := blk_frozen BK145.out 0; have hfz13_1 := blk_frozen BK145.out 1) | ((with_reducible refine gate_callee (f := 11) rfl ?_); refine goesL_ (some 14) rfl rfl Try.func11 (by kernel_rfl) rfl #[.agg #[.slice Ao11 y139.length co11, .slice Ao10 y142.length co10], .int .i64 0, .int .i64 1] rfl (by (try simp only [List.map_toArray, List.map_cons, List.map_nil]); first | done | rfl | (simp only [List.length_drop, List.length_take]; rfl)) ?_; (with_reducible refine (drive_Answer.calls k _ _ y139 _ _ y142 0 1 t146 t149 t150 _ ?side1 ?side2 ?side3 ?side4 A2.out).mono ?_); (case side1 => refine (Kd.R_reads' (e := 5) (base := w.heap.size) (ok := fun k_ => True) (n := y139.length) (c := co11) ?_).2.2; exact (by (with_reducible repeat (first | apply Kd.R_alloc | apply Kd.R_drewN | apply Kd.R_drew)); exact (Kd.R_mono (Kd.R_far (p := ⟨gb145, 1, none⟩) (Kd.R_far (p := ⟨gb145, 0, none⟩) (Kd.R_types HO141.out BK145.out (by decide)) (fun _ hk => hk.2) (.slice Ao11 y139.length co11)) (fun _ hk => hk.2) (.slice Ao10 y142.length co10)) (fun _ h_ => h_.1)))); (case side2 => exact (Kd.R_reads' HO141.out).2.1); (case side3 => refine (Kd.R_reads' (e := 59) (base := w.heap.size) (ok := fun k_ => True) (n := y142.length) (c := co10) ?_).2.2; exact (by (with_reducible repeat (first | apply Kd.R_alloc | apply Kd.R_drewN | apply Kd.R_drew)); exact (Kd.R_mono (Kd.R_far (p := ⟨gb145, 1, none⟩) (Kd.R_far (p := ⟨gb145, 0, none⟩) (Kd.R_types HO144.out BK145.out (by decide)) (fun _ hk => hk.2) (.slice Ao11 y139.length co11)) (fun _ hk => hk.2) (.slice Ao10 y142.length co10)) (fun _ h_ => h_.1)))); (case side4 => exact (Kd.R_reads' HO144.out).2.1); rintro e w14 ⟨v147, rfl, ho0, hb⟩; refine ⟨_, rfl, ?_⟩; have n0_ := Aside0.mk (Kd.R_elder' (by (with_reducible repeat (first | apply Kd.R_alloc | apply Kd.R_drewN | apply Kd.R_drew)); exact (Kd.R_mono (Kd.R_far (p := ⟨gb145, 1, none⟩) (Kd.R_far (p := ⟨gb145, 0, none⟩) (Kd.R_types HO141.out BK145.out (by decide)) (fun _ hk => hk.2) (.slice Ao11 y139.length co11)) (fun _ hk => hk.2) (.slice Ao10 y142.length co10)) (fun _ h_ => h_.1))) (Kd.R_base ho0) hb); have n1_ := Aside0.mk (Kd.R_below (by (with_reducible repeat (first | apply Kd.R_alloc | apply Kd.R_drewN | apply Kd.R_drew)); exact (Kd.R_mono (Kd.R_far (p := ⟨gb145, 1, none⟩) (Kd.R_far (p := ⟨gb145, 0, none⟩) (Kd.R_types HO144.out BK145.out (by decide)) (fun _ hk => hk.2) (.slice Ao11 y139.length co11)) (fun _ hk => hk.2) (.slice Ao10 y142.length co10)) (fun _ h_ => h_.1))) hb); have n2_ := Aside0.mk (Kd.R_lower (Kd.R_new' ho0 (Kd.R_lt (by (with_reducible repeat (first | apply Kd.R_alloc | apply Kd.R_drewN | apply Kd.R_drew)); exact (Kd.R_mono (Kd.R_far (p := ⟨gb145, 1, none⟩) (Kd.R_far (p := ⟨gb145, 0, none⟩) (Kd.R_types HO141.out BK145.out (by decide)) (fun _ hk => hk.2) (.slice Ao11 y139.length co11)) (fun _ hk => hk.2) (.slice Ao10 y142.length co10)) (fun _ h_ => h_.1))))) (below_size (by repeat (first | (with_reducible first | exact HB.out | apply below_alloc | apply pw_below_drewN | apply below_drew1 | refine below_set ?_ GE145.out) | exact HB.out)))); have n3_ := Aside0.mk (blk_below (g := gb145) (o := .cells #[.slice Ao11 y139.length co11, .slice Ao10 y142.length co10] 26 (0, 0)) (by (with_reducible repeat (first | refine blk_drewN ?_ _ | refine blk_drew ?_ | refine blk_alloc ?_ _)); refine blk_put (cs := #[.slice Ao11 y139.length co11, .slice none 0 0]) ?_ 1 _ rfl; (with_reducible repeat (first | refine blk_drewN ?_ _ | refine blk_drew ?_ | refine blk_alloc ?_ _)); refine blk_put (cs := #[.slice none 0 0, .slice none 0 0]) ?_ 0 _ rfl; (with_reducible repeat (first | refine blk_drewN ?_ _ | refine blk_drew ?_ | refine blk_alloc ?_ _)); exact BK145.out) hb); have n4_ := Aside0.mk (below_step (by repeat (first | (with_reducible first | exact HB.out | apply below_alloc | apply pw_below_drewN | apply below_drew1 | refine below_set ?_ GE145.out) | exact HB.out)) hb); clear HO141; clear HO144; clear BK145; clear HB; have HO141 := n0_; have HO144 := n1_; have HO148 := n2_; have BK145 := n3_; have HB := n4_; clear n0_ n1_ n2_ n3_ n4_; (try clear hb); (try clear hb2); (try clear hk); (try clear hi); (try clear ho0); have hcz15_0 : w14.cell? ⟨gb145, 0, none⟩ = some (.slice Ao11 y139.length co11) := (blk_cell BK145.out 0).trans rfl; have hcz15_1 : w14.cell? ⟨gb145, 1, none⟩ = some (.slice Ao10 y142.length co10) := (blk_cell BK145.out 1).trans rfl; have hfz15_0 := blk_frozen BK145.out 0; have hfz15_1 := blk_frozen BK145.out 1) | ((with_reducible refine gate_callee (f := 11) rfl ?_); refine goesL_ (some 20) rfl rfl Try.func11 (by kernel_rfl) rfl #[.agg #[.slice Ao11 y139.length co11, .slice Ao10 y142.length co10], .int .i64 0, .int .i64 2] rfl (by (try simp only [List.map_toArray, List.map_cons, List.map_nil]); first | done | rfl | (simp only [List.length_drop, List.length_take]; rfl)) ?_; (with_reducible refine (drive_Answer.calls k _ _ y139 _ _ y142 0 2 t151 t154 t155 _ ?side1 ?side2 ?side3 ?side4 A3.out).mono ?_); (case side1 => repeat (first | exact (Kd.R_reads' HO141.out).2.2 | (with_reducible refine Kd.C_alloc ?_ _) | (with_reducible refine Kd.C_drewN ?_ _) | (with_reducible refine Kd.C_drew ?_))); (case side2 => exact (Kd.R_reads' HO141.out).2.1); (case side3 => repeat (first | exact (Kd.R_reads' HO144.out).2.2 | (with_reducible refine Kd.C_alloc ?_ _) | (with_reducible refine Kd.C_drewN ?_ _) | (with_reducible refine Kd.C_drew ?_))); (case side4 => exact (Kd.R_reads' HO144.out).2.1); rintro e w16 ⟨v152, rfl, ho0, hb⟩; refine ⟨_, rfl, ?_⟩; have n0_ := Aside0.mk (Kd.R_elder' (by (with_reducible repeat (first | apply Kd.R_alloc | apply Kd.R_drewN | apply Kd.R_drew)); exact HO141.out) (Kd.R_base ho0) hb); have n1_ := Aside0.mk (Kd.R_below (by (with_reducible repeat (first | apply Kd.R_alloc | apply Kd.R_drewN | apply Kd.R_drew)); exact HO144.out) hb); have n2_ := Aside0.mk (Kd.R_elder' (by (with_reducible repeat (first | apply Kd.R_alloc | apply Kd.R_drewN | apply Kd.R_drew)); exact HO148.out) (Kd.R_base ho0) hb); have n3_ := Aside0.mk (Kd.R_lower (Kd.R_new' (Kd.R_new' ho0 (Kd.R_lt (by (with_reducible repeat (first | apply Kd.R_alloc | apply Kd.R_drewN | apply Kd.R_drew)); exact HO141.out))) (Kd.R_lt (by (with_reducible repeat (first | apply Kd.R_alloc | apply Kd.R_drewN | apply Kd.R_drew)); exact HO148.out))) (below_size (by repeat (first | (with_reducible first | exact HB.out | apply below_alloc | apply pw_below_drewN | apply below_drew1 | refine below_set ?_ GE145.out) | exact HB.out)))); have n4_ := Aside0.mk (blk_below (g := gb145) (o := .cells #[.slice Ao11 y139.length co11, .slice Ao10 y142.length co10] 26 (0, 0)) (by (with_reducible repeat (first | refine blk_drewN ?_ _ | refine blk_drew ?_ | refine blk_alloc ?_ _)); exact BK145.out) hb); have n5_ := Aside0.mk (below_step (by repeat (first | (with_reducible first | exact HB.out | apply below_alloc | apply pw_below_drewN | apply below_drew1 | refine below_set ?_ GE145.out) | exact HB.out)) hb); clear HO141; clear HO144; clear HO148; clear BK145; clear HB; have HO141 := n0_; have HO144 := n1_; have HO148 := n2_; have HO153 := n3_; have BK145 := n4_; have HB := n5_; clear n0_ n1_ n2_ n3_ n4_ n5_; (try clear hb); (try clear hb2); (try clear hk); (try clear hi); (try clear ho0); obtain ⟨Ao17, co17, eo17⟩ := Kd.R_slice HO153.out; subst eo17))
        go_ret
        exact ⟨by first | rfl | (simp [errW_none, errW_some] <;> rfl) | (simp [*, errW_none, errW_some] <;> rfl), by repeat (first | (with_reducible first | exact HB.out | apply below_alloc | apply pw_below_drewN | apply below_drew1 | refine below_set ?_ GE145.out) | exact HB.out)⟩
      · rw [if_neg c5] at H
        have c5b0 : (t155 == 0) = false := beq_eq_false_iff_ne.mpr c5
        have c5b1 : (t155 != 0) = true := bne_iff_ne.mpr c5
        obtain rfl := Option.some.inj H
        go_enter Try.func8, Try.ntmps8
        go_wp2_with (first | ((with_reducible refine gate_dst (N := 8) rfl ?_); (try (refine gate_guard (by rfl) ?_; dsimp only)); refine Kd.R_make (Kd.int .u8) _ 5 rfl (N := 8) rfl 23 _ _ rfl 64 rfl rfl Try.underlying23 (.int .u8 0) 1 info5 rfl (by decide) (by omega) 0 (ok := fun _ => True) (okp := fun _ => True) rfl (fun _ hk => hk) trivial (by omega) (by omega) (Below.refl _ _) (Nat.le_refl _) ?_; intro v140 w18 ho19 hb hg_ hnew_; clear hg_ hnew_; (first | rw [← Ny139.out] at ho19 | (simp only [Int.reduceToNat] at ho19; rw [← Ny139.out] at ho19)); have n0_ := Aside0.mk (Kd.R_lower ho19 (below_size (by repeat (first | (with_reducible first | exact HB.out | apply below_alloc | apply pw_below_drewN | apply below_drew1) | exact HB.out)))); have n1_ := Aside0.mk (below_step (by repeat (first | (with_reducible first | exact HB.out | apply below_alloc | apply pw_below_drewN | apply below_drew1) | exact HB.out)) hb); clear HB; have HO141 := n0_; have HB := n1_; clear n0_ n1_; clear hb ho19) | ((with_reducible refine gate_dst (N := 10) rfl ?_); (try (refine gate_guard (by rfl) ?_; dsimp only)); refine Kd.R_lit k59 _ 59 ?hg (N := 10) ?hd (xs := ([(⟨0, 2, 2⟩ : S59)] : List (S59))) (inner := [.int .i64 0, .int .i64 2, .int .i64 2]) (ok := fun _ => True) (okp := fun _ => True) ?hr ?hp (fun _ hk => hk) trivial (Below.refl _ _) (Nat.le_refl _) (by simp) ?_; (case hd => rfl); (case hg => rfl); (case hr => first | (go_simp; done) | (go_simp; rfl)); (case hp => exact (Reps.c3 (show Kd.M k59 _ _ _ (⟨0, 2, 2⟩ : S59) [.int .i64 0, .int .i64 2, .int .i64 2] from (k59_mkM _ _ _ (⟨0, 2, 2⟩ : S59) )) (Reps.none _ _))); intro v143 w20 ho21 hb hg_ hnew_; clear hg_ hnew_; (first | rw [← Ny142.out] at ho21 | (simp only [Int.reduceToNat] at ho21; rw [← Ny142.out] at ho21)); have n0_ := Aside0.mk (Kd.R_below (by (with_reducible repeat (first | apply Kd.R_alloc | apply Kd.R_drewN | apply Kd.R_drew)); exact HO141.out) hb); have n1_ := Aside0.mk (Kd.R_lower ho21 (below_size (by repeat (first | (with_reducible first | exact HB.out | apply below_alloc | apply pw_below_drewN | apply below_drew1) | exact HB.out)))); have n2_ := Aside0.mk (below_step (by repeat (first | (with_reducible first | exact HB.out | apply below_alloc | apply pw_below_drewN | apply below_drew1) | exact HB.out)) hb); clear HO141; clear HB; have HO141 := n0_; have HO144 := n1_; have HB := n2_; clear n0_ n1_ n2_; clear hb ho21; obtain ⟨Ao22, co22, eo22⟩ := Kd.R_slice HO144.out; subst eo22; obtain ⟨Ao23, co23, eo23⟩ := Kd.R_slice HO141.out; subst eo23) | ((with_reducible refine gate_dst (N := 1) rfl ?_); (try (refine gate_guard (by rfl) ?_; dsimp only)); refine box_event ?hg (N := 1) ?hd (cs := #[.slice none 0 0, .slice none 0 0]) (t := 26) ?hr ?_; (case hd => rfl); (case hg => rfl); (case hr => first | (go_simp; done) | (go_simp; rfl)); intro gb145 hg w24 hbox hb; have n0_ := Aside0.mk (Kd.R_below (by (with_reducible repeat (first | apply Kd.R_alloc | apply Kd.R_drewN | apply Kd.R_drew)); exact HO141.out) hb); have n1_ := Aside0.mk (Kd.R_below (by (with_reducible repeat (first | apply Kd.R_alloc | apply Kd.R_drewN | apply Kd.R_drew)); exact HO144.out) hb); have n2_ := Aside0.mk (below_step (by repeat (first | (with_reducible first | exact HB.out | apply below_alloc | apply pw_below_drewN | apply below_drew1) | exact HB.out)) hb); have n3_ := Aside0.mk (hbox); have n4_ := Aside0.mk ((by rw [hg]; exact (below_size (by repeat (first | (with_reducible first | exact HB.out | apply below_alloc | apply pw_below_drewN | apply below_drew1) | exact HB.out))) : w.heap.size ≤ gb145)); have n5_ := Aside0.mk ((by rw [hg]; exact (below_size (by repeat (first | (with_reducible first | exact HB.out | apply below_alloc | apply pw_below_drewN | apply below_drew1) | exact HB.out))) : w.heap.size ≤ gb145)); clear HO141; clear HO144; clear HB; have HO141 := n0_; have HO144 := n1_; have HB := n2_; have BK145 := n3_; have GW145 := n4_; have GE145 := n5_; clear n0_ n1_ n2_ n3_ n4_ n5_; clear hb hbox hg; have hcz25_0 : w24.cell? ⟨gb145, 0, none⟩ = some (.slice none 0 0) := (blk_cell BK145.out 0).trans rfl; have hcz25_1 : w24.cell? ⟨gb145, 1, none⟩ = some (.slice none 0 0) := (blk_cell BK145.out 1).trans rfl; have hfz25_0 := blk_frozen BK145.out 0; have hfz25_1 := blk_frozen BK145.out 1) | ((with_reducible refine gate_callee (f := 11) rfl ?_); refine goesL_ (some 14) rfl rfl Try.func11 (by kernel_rfl) rfl #[.agg #[.slice Ao23 y139.length co23, .slice Ao22 y142.length co22], .int .i64 0, .int .i64 1] rfl (by (try simp only [List.map_toArray, List.map_cons, List.map_nil]); first | done | rfl | (simp only [List.length_drop, List.length_take]; rfl)) ?_; (with_reducible refine (drive_Answer.calls k _ _ y139 _ _ y142 0 1 t146 t149 t150 _ ?side1 ?side2 ?side3 ?side4 A2.out).mono ?_); (case side1 => refine (Kd.R_reads' (e := 5) (base := w.heap.size) (ok := fun k_ => True) (n := y139.length) (c := co23) ?_).2.2; exact (by (with_reducible repeat (first | apply Kd.R_alloc | apply Kd.R_drewN | apply Kd.R_drew)); exact (Kd.R_mono (Kd.R_far (p := ⟨gb145, 1, none⟩) (Kd.R_far (p := ⟨gb145, 0, none⟩) (Kd.R_types HO141.out BK145.out (by decide)) (fun _ hk => hk.2) (.slice Ao23 y139.length co23)) (fun _ hk => hk.2) (.slice Ao22 y142.length co22)) (fun _ h_ => h_.1)))); (case side2 => exact (Kd.R_reads' HO141.out).2.1); (case side3 => refine (Kd.R_reads' (e := 59) (base := w.heap.size) (ok := fun k_ => True) (n := y142.length) (c := co22) ?_).2.2; exact (by (with_reducible repeat (first | apply Kd.R_alloc | apply Kd.R_drewN | apply Kd.R_drew)); exact (Kd.R_mono (Kd.R_far (p := ⟨gb145, 1, none⟩) (Kd.R_far (p := ⟨gb145, 0, none⟩) (Kd.R_types HO144.out BK145.out (by decide)) (fun _ hk => hk.2) (.slice Ao23 y139.length co23)) (fun _ hk => hk.2) (.slice Ao22 y142.length co22)) (fun _ h_ => h_.1)))); (case side4 => exact (Kd.R_reads' HO144.out).2.1); rintro e w26 ⟨v147, rfl, ho0, hb⟩; refine ⟨_, rfl, ?_⟩; have n0_ := Aside0.mk (Kd.R_elder' (by (with_reducible repeat (first | apply Kd.R_alloc | apply Kd.R_drewN | apply Kd.R_drew)); exact (Kd.R_mono (Kd.R_far (p := ⟨gb145, 1, none⟩) (Kd.R_far (p := ⟨gb145, 0, none⟩) (Kd.R_types HO141.out BK145.out (by decide)) (fun _ hk => hk.2) (.slice Ao23 y139.length co23)) (fun _ hk => hk.2) (.slice Ao22 y142.length co22)) (fun _ h_ => h_.1))) (Kd.R_base ho0) hb); have n1_ := Aside0.mk (Kd.R_below (by (with_reducible repeat (first | apply Kd.R_alloc | apply Kd.R_drewN | apply Kd.R_drew)); exact (Kd.R_mono (Kd.R_far (p := ⟨gb145, 1, none⟩) (Kd.R_far (p := ⟨gb145, 0, none⟩) (Kd.R_types HO144.out BK145.out (by decide)) (fun _ hk => hk.2) (.slice Ao23 y139.length co23)) (fun _ hk => hk.2) (.slice Ao22 y142.length co22)) (fun _ h_ => h_.1))) hb); have n2_ := Aside0.mk (Kd.R_lower (Kd.R_new' ho0 (Kd.R_lt (by (with_reducible repeat (first | apply Kd.R_alloc | apply Kd.R_drewN | apply Kd.R_drew)); exact (Kd.R_mono (Kd.R_far (p := ⟨gb145, 1, none⟩) (Kd.R_far (p := ⟨gb145, 0, none⟩) (Kd.R_types HO141.out BK145.out (by decide)) (fun _ hk => hk.2) (.slice Ao23 y139.length co23)) (fun _ hk => hk.2) (.slice Ao22 y142.length co22)) (fun _ h_ => h_.1))))) (below_size (by repeat (first | (with_reducible first | exact HB.out | apply below_alloc | apply pw_below_drewN | apply below_drew1 | refine below_set ?_ GE145.out) | exact HB.out)))); have n3_ := Aside0.mk (blk_below (g := gb145) (o := .cells #[.slice Ao23 y139.length co23, .slice Ao22 y142.length co22] 26 (0, 0)) (by (with_reducible repeat (first | refine blk_drewN ?_ _ | refine blk_drew ?_ | refine blk_alloc ?_ _)); refine blk_put (cs := #[.slice Ao23 y139.length co23, .slice none 0 0]) ?_ 1 _ rfl; (with_reducible repeat (first | refine blk_drewN ?_ _ | refine blk_drew ?_ | refine blk_alloc ?_ _)); refine blk_put (cs := #[.slice none 0 0, .slice none 0 0]) ?_ 0 _ rfl; (with_reducible repeat (first | refine blk_drewN ?_ _ | refine blk_drew ?_ | refine blk_alloc ?_ _)); exact BK145.out) hb); have n4_ := Aside0.mk (below_step (by repeat (first | (with_reducible first | exact HB.out | apply below_alloc | apply pw_below_drewN | apply below_drew1 | refine below_set ?_ GE145.out) | exact HB.out)) hb); clear HO141; clear HO144; clear BK145; clear HB; have HO141 := n0_; have HO144 := n1_; have HO148 := n2_; have BK145 := n3_; have HB := n4_; clear n0_ n1_ n2_ n3_ n4_; (try clear hb); (try clear hb2); (try clear hk); (try clear hi); (try clear ho0); have hcz27_0 : w26.cell? ⟨gb145, 0, none⟩ = some (.slice Ao23 y139.length co23) := (blk_cell BK145.out 0).trans rfl; have hcz27_1 : w26.cell? ⟨gb145, 1, none⟩ = some (.slice Ao22 y142.length co22) := (blk_cell BK145.out 1).trans rfl; have hfz27_0 := blk_frozen BK145.out 0; have hfz27_1 := blk_frozen BK145.out 1) | ((with_reducible refine gate_callee (f := 11) rfl ?_); refine goesL_ (some 20) rfl rfl Try.func11 (by kernel_rfl) rfl #[.agg #[.slice Ao23 y139.length co23, .slice Ao22 y142.length co22], .int .i64 0, .int .i64 2] rfl (by (try simp only [List.map_toArray, List.map_cons, List.map_nil]); first | done | rfl | (simp only [List.length_drop, List.length_take]; rfl)) ?_; (with_reducible refine (drive_Answer.calls k _ _ y139 _ _ y142 0 2 t151 t154 t155 _ ?side1 ?side2 ?side3 ?side4 A3.out).mono ?_); (case side1 => repeat (first | exact (Kd.R_reads' HO141.out).2.2 | (with_reducible refine Kd.C_alloc ?_ _) | (with_reducible refine Kd.C_drewN ?_ _) | (with_reducible refine Kd.C_drew ?_))); (case side2 => exact (Kd.R_reads' HO141.out).2.1); (case side3 => repeat (first | exact (Kd.R_reads' HO144.out).2.2 | (with_reducible refine Kd.C_alloc ?_ _) | (with_reducible refine Kd.C_drewN ?_ _) | (with_reducible refine Kd.C_drew ?_))); (case side4 => exact (Kd.R_reads' HO144.out).2.1); rintro e w28 ⟨v152, rfl, ho0, hb⟩; refine ⟨_, rfl, ?_⟩; have n0_ := Aside0.mk (Kd.R_elder' (by (with_reducible repeat (first | apply Kd.R_alloc | apply Kd.R_drewN | apply Kd.R_drew)); exact HO141.out) (Kd.R_base ho0) hb); have n1_ := Aside0.mk (Kd.R_below (by (with_reducible repeat (first | apply Kd.R_alloc | apply Kd.R_drewN | apply Kd.R_drew)); exact HO144.out) hb); have n2_ := Aside0.mk (Kd.R_elder' (by (with_reducible repeat (first | apply Kd.R_alloc | apply Kd.R_drewN | apply Kd.R_drew)); exact HO148.out) (Kd.R_base ho0) hb); have n3_ := Aside0.mk (Kd.R_lower (Kd.R_new' (Kd.R_new' ho0 (Kd.R_lt (by (with_reducible repeat (first | apply Kd.R_alloc | apply Kd.R_drewN | apply Kd.R_drew)); exact HO141.out))) (Kd.R_lt (by (with_reducible repeat (first | apply Kd.R_alloc | apply Kd.R_drewN | apply Kd.R_drew)); exact HO148.out))) (below_size (by repeat (first | (with_reducible first | exact HB.out | apply below_alloc | apply pw_below_drewN | apply below_drew1 | refine below_set ?_ GE145.out) | exact HB.out)))); have n4_ := Aside0.mk (blk_below (g := gb145) (o := .cells #[.slice Ao23 y139.length co23, .slice Ao22 y142.length co22] 26 (0, 0)) (by (with_reducible repeat (first | refine blk_drewN ?_ _ | refine blk_drew ?_ | refine blk_alloc ?_ _)); exact BK145.out) hb); have n5_ := Aside0.mk (below_step (by repeat (first | (with_reducible first | exact HB.out | apply below_alloc | apply pw_below_drewN | apply below_drew1 | refine below_set ?_ GE145.out) | exact HB.out)) hb); clear HO141; clear HO144; clear HO148; clear BK145; clear HB; have HO141 := n0_; have HO144 := n1_; have HO148 := n2_; have HO153 := n3_; have BK145 := n4_; have HB := n5_; clear n0_ n1_ n2_ n3_ n4_ n5_; (try clear hb); (try clear hb2); (try clear hk); (try clear hi); (try clear ho0)))
        go_ret
        exact ⟨by first | rfl | (simp [errW_none, errW_some] <;> rfl) | (simp [*, errW_none, errW_some] <;> rfl), by repeat (first | (with_reducible first | exact HB.out | apply below_alloc | apply pw_below_drewN | apply below_drew1 | refine below_set ?_ GE145.out) | exact HB.out)⟩
    · rw [if_neg c4] at H
      have c4b0 : (t150 == 19) = false := beq_eq_false_iff_ne.mpr c4
      have c4b1 : (t150 != 19) = true := bne_iff_ne.mpr c4
      obtain rfl := Option.some.inj H
      go_enter Try.func8, Try.ntmps8
      go_wp2_with (first | ((with_reducible refine gate_dst (N := 8) rfl ?_); (try (refine gate_guard (by rfl) ?_; dsimp only)); refine Kd.R_make (Kd.int .u8) _ 5 rfl (N := 8) rfl 23 _ _ rfl 64 rfl rfl Try.underlying23 (.int .u8 0) 1 info5 rfl (by decide) (by omega) 0 (ok := fun _ => True) (okp := fun _ => True) rfl (fun _ hk => hk) trivial (by omega) (by omega) (Below.refl _ _) (Nat.le_refl _) ?_; intro v140 w29 ho30 hb hg_ hnew_; clear hg_ hnew_; (first | rw [← Ny139.out] at ho30 | (simp only [Int.reduceToNat] at ho30; rw [← Ny139.out] at ho30)); have n0_ := Aside0.mk (Kd.R_lower ho30 (below_size (by repeat (first | (with_reducible first | exact HB.out | apply below_alloc | apply pw_below_drewN | apply below_drew1) | exact HB.out)))); have n1_ := Aside0.mk (below_step (by repeat (first | (with_reducible first | exact HB.out | apply below_alloc | apply pw_below_drewN | apply below_drew1) | exact HB.out)) hb); clear HB; have HO141 := n0_; have HB := n1_; clear n0_ n1_; clear hb ho30) | ((with_reducible refine gate_dst (N := 10) rfl ?_); (try (refine gate_guard (by rfl) ?_; dsimp only)); refine Kd.R_lit k59 _ 59 ?hg (N := 10) ?hd (xs := ([(⟨0, 2, 2⟩ : S59)] : List (S59))) (inner := [.int .i64 0, .int .i64 2, .int .i64 2]) (ok := fun _ => True) (okp := fun _ => True) ?hr ?hp (fun _ hk => hk) trivial (Below.refl _ _) (Nat.le_refl _) (by simp) ?_; (case hd => rfl); (case hg => rfl); (case hr => first | (go_simp; done) | (go_simp; rfl)); (case hp => exact (Reps.c3 (show Kd.M k59 _ _ _ (⟨0, 2, 2⟩ : S59) [.int .i64 0, .int .i64 2, .int .i64 2] from (k59_mkM _ _ _ (⟨0, 2, 2⟩ : S59) )) (Reps.none _ _))); intro v143 w31 ho32 hb hg_ hnew_; clear hg_ hnew_; (first | rw [← Ny142.out] at ho32 | (simp only [Int.reduceToNat] at ho32; rw [← Ny142.out] at ho32)); have n0_ := Aside0.mk (Kd.R_below (by (with_reducible repeat (first | apply Kd.R_alloc | apply Kd.R_drewN | apply Kd.R_drew)); exact HO141.out) hb); have n1_ := Aside0.mk (Kd.R_lower ho32 (below_size (by repeat (first | (with_reducible first | exact HB.out | apply below_alloc | apply pw_below_drewN | apply below_drew1) | exact HB.out)))); have n2_ := Aside0.mk (below_step (by repeat (first | (with_reducible first | exact HB.out | apply below_alloc | apply pw_below_drewN | apply below_drew1) | exact HB.out)) hb); clear HO141; clear HB; have HO141 := n0_; have HO144 := n1_; have HB := n2_; clear n0_ n1_ n2_; clear hb ho32; obtain ⟨Ao33, co33, eo33⟩ := Kd.R_slice HO144.out; subst eo33; obtain ⟨Ao34, co34, eo34⟩ := Kd.R_slice HO141.out; subst eo34) | ((with_reducible refine gate_dst (N := 1) rfl ?_); (try (refine gate_guard (by rfl) ?_; dsimp only)); refine box_event ?hg (N := 1) ?hd (cs := #[.slice none 0 0, .slice none 0 0]) (t := 26) ?hr ?_; (case hd => rfl); (case hg => rfl); (case hr => first | (go_simp; done) | (go_simp; rfl)); intro gb145 hg w35 hbox hb; have n0_ := Aside0.mk (Kd.R_below (by (with_reducible repeat (first | apply Kd.R_alloc | apply Kd.R_drewN | apply Kd.R_drew)); exact HO141.out) hb); have n1_ := Aside0.mk (Kd.R_below (by (with_reducible repeat (first | apply Kd.R_alloc | apply Kd.R_drewN | apply Kd.R_drew)); exact HO144.out) hb); have n2_ := Aside0.mk (below_step (by repeat (first | (with_reducible first | exact HB.out | apply below_alloc | apply pw_below_drewN | apply below_drew1) | exact HB.out)) hb); have n3_ := Aside0.mk (hbox); have n4_ := Aside0.mk ((by rw [hg]; exact (below_size (by repeat (first | (with_reducible first | exact HB.out | apply below_alloc | apply pw_below_drewN | apply below_drew1) | exact HB.out))) : w.heap.size ≤ gb145)); have n5_ := Aside0.mk ((by rw [hg]; exact (below_size (by repeat (first | (with_reducible first | exact HB.out | apply below_alloc | apply pw_below_drewN | apply below_drew1) | exact HB.out))) : w.heap.size ≤ gb145)); clear HO141; clear HO144; clear HB; have HO141 := n0_; have HO144 := n1_; have HB := n2_; have BK145 := n3_; have GW145 := n4_; have GE145 := n5_; clear n0_ n1_ n2_ n3_ n4_ n5_; clear hb hbox hg; have hcz36_0 : w35.cell? ⟨gb145, 0, none⟩ = some (.slice none 0 0) := (blk_cell BK145.out 0).trans rfl; have hcz36_1 : w35.cell? ⟨gb145, 1, none⟩ = some (.slice none 0 0) := (blk_cell BK145.out 1).trans rfl; have hfz36_0 := blk_frozen BK145.out 0; have hfz36_1 := blk_frozen BK145.out 1) | ((with_reducible refine gate_callee (f := 11) rfl ?_); refine goesL_ (some 14) rfl rfl Try.func11 (by kernel_rfl) rfl #[.agg #[.slice Ao34 y139.length co34, .slice Ao33 y142.length co33], .int .i64 0, .int .i64 1] rfl (by (try simp only [List.map_toArray, List.map_cons, List.map_nil]); first | done | rfl | (simp only [List.length_drop, List.length_take]; rfl)) ?_; (with_reducible refine (drive_Answer.calls k _ _ y139 _ _ y142 0 1 t146 t149 t150 _ ?side1 ?side2 ?side3 ?side4 A2.out).mono ?_); (case side1 => refine (Kd.R_reads' (e := 5) (base := w.heap.size) (ok := fun k_ => True) (n := y139.length) (c := co34) ?_).2.2; exact (by (with_reducible repeat (first | apply Kd.R_alloc | apply Kd.R_drewN | apply Kd.R_drew)); exact (Kd.R_mono (Kd.R_far (p := ⟨gb145, 1, none⟩) (Kd.R_far (p := ⟨gb145, 0, none⟩) (Kd.R_types HO141.out BK145.out (by decide)) (fun _ hk => hk.2) (.slice Ao34 y139.length co34)) (fun _ hk => hk.2) (.slice Ao33 y142.length co33)) (fun _ h_ => h_.1)))); (case side2 => exact (Kd.R_reads' HO141.out).2.1); (case side3 => refine (Kd.R_reads' (e := 59) (base := w.heap.size) (ok := fun k_ => True) (n := y142.length) (c := co33) ?_).2.2; exact (by (with_reducible repeat (first | apply Kd.R_alloc | apply Kd.R_drewN | apply Kd.R_drew)); exact (Kd.R_mono (Kd.R_far (p := ⟨gb145, 1, none⟩) (Kd.R_far (p := ⟨gb145, 0, none⟩) (Kd.R_types HO144.out BK145.out (by decide)) (fun _ hk => hk.2) (.slice Ao34 y139.length co34)) (fun _ hk => hk.2) (.slice Ao33 y142.length co33)) (fun _ h_ => h_.1)))); (case side4 => exact (Kd.R_reads' HO144.out).2.1); rintro e w37 ⟨v147, rfl, ho0, hb⟩; refine ⟨_, rfl, ?_⟩; have n0_ := Aside0.mk (Kd.R_elder' (by (with_reducible repeat (first | apply Kd.R_alloc | apply Kd.R_drewN | apply Kd.R_drew)); exact (Kd.R_mono (Kd.R_far (p := ⟨gb145, 1, none⟩) (Kd.R_far (p := ⟨gb145, 0, none⟩) (Kd.R_types HO141.out BK145.out (by decide)) (fun _ hk => hk.2) (.slice Ao34 y139.length co34)) (fun _ hk => hk.2) (.slice Ao33 y142.length co33)) (fun _ h_ => h_.1))) (Kd.R_base ho0) hb); have n1_ := Aside0.mk (Kd.R_below (by (with_reducible repeat (first | apply Kd.R_alloc | apply Kd.R_drewN | apply Kd.R_drew)); exact (Kd.R_mono (Kd.R_far (p := ⟨gb145, 1, none⟩) (Kd.R_far (p := ⟨gb145, 0, none⟩) (Kd.R_types HO144.out BK145.out (by decide)) (fun _ hk => hk.2) (.slice Ao34 y139.length co34)) (fun _ hk => hk.2) (.slice Ao33 y142.length co33)) (fun _ h_ => h_.1))) hb); have n2_ := Aside0.mk (Kd.R_lower (Kd.R_new' ho0 (Kd.R_lt (by (with_reducible repeat (first | apply Kd.R_alloc | apply Kd.R_drewN | apply Kd.R_drew)); exact (Kd.R_mono (Kd.R_far (p := ⟨gb145, 1, none⟩) (Kd.R_far (p := ⟨gb145, 0, none⟩) (Kd.R_types HO141.out BK145.out (by decide)) (fun _ hk => hk.2) (.slice Ao34 y139.length co34)) (fun _ hk => hk.2) (.slice Ao33 y142.length co33)) (fun _ h_ => h_.1))))) (below_size (by repeat (first | (with_reducible first | exact HB.out | apply below_alloc | apply pw_below_drewN | apply below_drew1 | refine below_set ?_ GE145.out) | exact HB.out)))); have n3_ := Aside0.mk (blk_below (g := gb145) (o := .cells #[.slice Ao34 y139.length co34, .slice Ao33 y142.length co33] 26 (0, 0)) (by (with_reducible repeat (first | refine blk_drewN ?_ _ | refine blk_drew ?_ | refine blk_alloc ?_ _)); refine blk_put (cs := #[.slice Ao34 y139.length co34, .slice none 0 0]) ?_ 1 _ rfl; (with_reducible repeat (first | refine blk_drewN ?_ _ | refine blk_drew ?_ | refine blk_alloc ?_ _)); refine blk_put (cs := #[.slice none 0 0, .slice none 0 0]) ?_ 0 _ rfl; (with_reducible repeat (first | refine blk_drewN ?_ _ | refine blk_drew ?_ | refine blk_alloc ?_ _)); exact BK145.out) hb); have n4_ := Aside0.mk (below_step (by repeat (first | (with_reducible first | exact HB.out | apply below_alloc | apply pw_below_drewN | apply below_drew1 | refine below_set ?_ GE145.out) | exact HB.out)) hb); clear HO141; clear HO144; clear BK145; clear HB; have HO141 := n0_; have HO144 := n1_; have HO148 := n2_; have BK145 := n3_; have HB := n4_; clear n0_ n1_ n2_ n3_ n4_; (try clear hb); (try clear hb2); (try clear hk); (try clear hi); (try clear ho0); have hcz38_0 : w37.cell? ⟨gb145, 0, none⟩ = some (.slice Ao34 y139.length co34) := (blk_cell BK145.out 0).trans rfl; have hcz38_1 : w37.cell? ⟨gb145, 1, none⟩ = some (.slice Ao33 y142.length co33) := (blk_cell BK145.out 1).trans rfl; have hfz38_0 := blk_frozen BK145.out 0; have hfz38_1 := blk_frozen BK145.out 1) | ((with_reducible refine gate_callee (f := 11) rfl ?_); refine goesL_ (some 20) rfl rfl Try.func11 (by kernel_rfl) rfl #[.agg #[.slice Ao34 y139.length co34, .slice Ao33 y142.length co33], .int .i64 0, .int .i64 2] rfl (by (try simp only [List.map_toArray, List.map_cons, List.map_nil]); first | done | rfl | (simp only [List.length_drop, List.length_take]; rfl)) ?_; (with_reducible refine (drive_Answer.calls k _ _ y139 _ _ y142 0 2 t151 t154 t155 _ ?side1 ?side2 ?side3 ?side4 A3.out).mono ?_); (case side1 => repeat (first | exact (Kd.R_reads' HO141.out).2.2 | (with_reducible refine Kd.C_alloc ?_ _) | (with_reducible refine Kd.C_drewN ?_ _) | (with_reducible refine Kd.C_drew ?_))); (case side2 => exact (Kd.R_reads' HO141.out).2.1); (case side3 => repeat (first | exact (Kd.R_reads' HO144.out).2.2 | (with_reducible refine Kd.C_alloc ?_ _) | (with_reducible refine Kd.C_drewN ?_ _) | (with_reducible refine Kd.C_drew ?_))); (case side4 => exact (Kd.R_reads' HO144.out).2.1); rintro e w39 ⟨v152, rfl, ho0, hb⟩; refine ⟨_, rfl, ?_⟩; have n0_ := Aside0.mk (Kd.R_elder' (by (with_reducible repeat (first | apply Kd.R_alloc | apply Kd.R_drewN | apply Kd.R_drew)); exact HO141.out) (Kd.R_base ho0) hb); have n1_ := Aside0.mk (Kd.R_below (by (with_reducible repeat (first | apply Kd.R_alloc | apply Kd.R_drewN | apply Kd.R_drew)); exact HO144.out) hb); have n2_ := Aside0.mk (Kd.R_elder' (by (with_reducible repeat (first | apply Kd.R_alloc | apply Kd.R_drewN | apply Kd.R_drew)); exact HO148.out) (Kd.R_base ho0) hb); have n3_ := Aside0.mk (Kd.R_lower (Kd.R_new' (Kd.R_new' ho0 (Kd.R_lt (by (with_reducible repeat (first | apply Kd.R_alloc | apply Kd.R_drewN | apply Kd.R_drew)); exact HO141.out))) (Kd.R_lt (by (with_reducible repeat (first | apply Kd.R_alloc | apply Kd.R_drewN | apply Kd.R_drew)); exact HO148.out))) (below_size (by repeat (first | (with_reducible first | exact HB.out | apply below_alloc | apply pw_below_drewN | apply below_drew1 | refine below_set ?_ GE145.out) | exact HB.out)))); have n4_ := Aside0.mk (blk_below (g := gb145) (o := .cells #[.slice Ao34 y139.length co34, .slice Ao33 y142.length co33] 26 (0, 0)) (by (with_reducible repeat (first | refine blk_drewN ?_ _ | refine blk_drew ?_ | refine blk_alloc ?_ _)); exact BK145.out) hb); have n5_ := Aside0.mk (below_step (by repeat (first | (with_reducible first | exact HB.out | apply below_alloc | apply pw_below_drewN | apply below_drew1 | refine below_set ?_ GE145.out) | exact HB.out)) hb); clear HO141; clear HO144; clear HO148; clear BK145; clear HB; have HO141 := n0_; have HO144 := n1_; have HO148 := n2_; have HO153 := n3_; have BK145 := n4_; have HB := n5_; clear n0_ n1_ n2_ n3_ n4_ n5_; (try clear hb); (try clear hb2); (try clear hk); (try clear hi); (try clear ho0)))
      go_ret
      exact ⟨by first | rfl | (simp [errW_none, errW_some] <;> rfl) | (simp [*, errW_none, errW_some] <;> rfl), by repeat (first | (with_reducible first | exact HB.out | apply below_alloc | apply pw_below_drewN | apply below_drew1 | refine below_set ?_ GE145.out) | exact HB.out)⟩
  · rw [if_neg c1] at H
    exact absurd H (by simp)

/-! ### slices_Equal_byte_byte: function 13 -/
def slices_Equal_byte_byte.l0 : Nat → List Int → List Int → Int → Int → Option (Bool)
  | 0, _, _, _, _ => none
  | k + 1, x0, x1, x12, x13 => if x13 < x12 then (if 0 ≤ x13 then (if x13 < (x0.length : Int) then (if x13 < (x1.length : Int) then (if (rd x0 x13) = (rd x1 x13) then (slices_Equal_byte_byte.l0 k x0 x1 x12 (wrap64 (x13 + 1))) else (some false)) else (none)) else (none)) else (none)) else (some true)
def slices_Equal_byte_byte.f (k : Nat) (l0 : List Int) (l1 : List Int) : Option (Bool) := if (l0.length : Int) = (l1.length : Int) then (slices_Equal_byte_byte.l0 k l0 l1 (l0.length : Int) 0) else (some false)
theorem slices_Equal_byte_byte.mono_l : ∀ k, (∀ y0 y1 y2 y3, LeO (slices_Equal_byte_byte.l0 k y0 y1 y2 y3) (slices_Equal_byte_byte.l0 (k + 1) y0 y1 y2 y3))
  | 0 => fun _ _ _ _ r h => by simp [slices_Equal_byte_byte.l0] at h
  | k + 1 => by
    have ih0 := slices_Equal_byte_byte.mono_l k
    · intro y0 y1 y2 y3
      unfold slices_Equal_byte_byte.l0
      repeat' first
      | (with_reducible exact ih0 _ _ _ _)
      | (with_reducible exact LeO.refl _)
      | (with_reducible exact LeO.none _)
      | (with_reducible refine LeO.ite ?_ ?_)
      | (with_reducible refine LeO.bind ?_ (fun _ => ?_))
      | exact ih0 _ _ _ _
      | exact LeO.none _
      | refine LeO.ite ?_ ?_
      | refine LeO.bind ?_ (fun _ => ?_)
theorem slices_Equal_byte_byte.mono : ∀ a0 a1 k, LeO (slices_Equal_byte_byte.f k a0 a1) (slices_Equal_byte_byte.f (k + 1) a0 a1) := by
  intro a0 a1 k
  have ih0 := slices_Equal_byte_byte.mono_l k
  unfold slices_Equal_byte_byte.f
  repeat' first
      | (with_reducible exact ih0 _ _ _ _)
      | (with_reducible exact LeO.refl _)
      | (with_reducible exact LeO.none _)
      | (with_reducible refine LeO.ite ?_ ?_)
      | (with_reducible refine LeO.bind ?_ (fun _ => ?_))
      | exact ih0 _ _ _ _
      | exact LeO.none _
      | refine LeO.ite ?_ ?_
      | refine LeO.bind ?_ (fun _ => ?_)
set_option maxHeartbeats 8000000 in
set_option maxRecDepth 100000 in
theorem slices_Equal_byte_byte.calls (k : Nat) (A0 : Option Addr) (c0 : Nat) (l0 : List Int) (A1 : Option Addr) (c1 : Nat) (l1 : List Int) (r : Bool) (w : World) (hr0 : Kd.C (Kd.int .u8) w A0 l0.length l0) (hc0 : l0.length ≤ c0) (hr1 : Kd.C (Kd.int .u8) w A1 l1.length l1) (hc1 : l1.length ≤ c1) (h : slices_Equal_byte_byte.f k l0 l1 = some r) :
    Calls Try.prog 13 #[.slice A0 l0.length c0, .slice A1 l1.length c1] w fun e w' => e = .returned (.bool r) ∧ Drawn0 w w' := by
  have HR0 := Aside0.mk hr0
  have HC0 := Aside0.mk hc0
  clear hr0 hc0
  have HR1 := Aside0.mk hr1
  have HC1 := Aside0.mk hc1
  clear hr1 hc1
  have H : (if (l0.length : Int) = (l1.length : Int) then (slices_Equal_byte_byte.l0 k l0 l1 (l0.length : Int) 0) else (some false)) = some r := h
  clear h
  by_cases c3 : (l0.length : Int) = (l1.length : Int)
  · rw [if_pos c3] at H
    have c3b0 : ((l0.length : Int) == (l1.length : Int)) = true := beq_iff_eq.mpr c3
    have c3b1 : ((l0.length : Int) != (l1.length : Int)) = false := bne_eq_false_iff_eq.mpr c3
    have c3b2 : (l0.length == l1.length) = true := by first | simpa using c3 | (simp at c3 ⊢; omega)
    clear c3
    have H' := Aside0.mk H
    clear H
    go_enter Try.func13, Try.ntmps13
    go_wp2
    repeat (go_quiet (fail); try go_wp2)
    go_loopg [13] k (fun kq v13 w' => ∃ (x13_1 : Int), v13 = .int .i64 x13_1 ∧ Aside0 (slices_Equal_byte_byte.l0 kq l0 l1 (l0.length : Int) x13_1 = some r) ∧ Aside0 (kq ≤ k) ∧ Drawn0 w w')
    case atStart => exact ⟨(0), (by first | rfl | (simp; done) | (simp [*]; done)), H', ⟨Nat.le_refl _⟩, by repeat (first | exact Drawn0.refl _ | apply Drawn0.step)⟩
    case round =>
      clear H'
      try clear c1
      try clear p2
      try clear c3
      try clear c3b0
      try clear c3b1
      try clear c3b2
      obtain ⟨x13_1, rfl, HA, HK1, ⟨m1, rfl⟩⟩ := hrel
      cases gk with
      | zero => exact absurd HA.out (by simp [slices_Equal_byte_byte.l0])
      | succ k1 =>
        have H := HA.out
        clear HA
        simp only [slices_Equal_byte_byte.l0] at H
        by_cases c4 : x13_1 < (l0.length : Int)
        · rw [if_pos c4] at H
          have c4b0 : decide (x13_1 < (l0.length : Int)) = true := decide_eq_true c4
          clear c4
          by_cases c5 : 0 ≤ x13_1
          · rw [if_pos c5] at H
            have c5b0 : decide (0 ≤ x13_1) = true := decide_eq_true c5
            clear c5
            by_cases c6 : x13_1 < (l0.length : Int)
            · rw [if_pos c6] at H
              have c6b0 : decide (x13_1 < (l0.length : Int)) = true := decide_eq_true c6
              clear c6
              by_cases c7 : x13_1 < (l1.length : Int)
              · rw [if_pos c7] at H
                have c7b0 : decide (x13_1 < (l1.length : Int)) = true := decide_eq_true c7
                clear c7
                by_cases c8 : (rd l0 x13_1) = (rd l1 x13_1)
                · rw [if_pos c8] at H
                  have c8b0 : ((rd l0 x13_1) == (rd l1 x13_1)) = true := beq_iff_eq.mpr c8
                  have c8b1 : ((rd l0 x13_1) != (rd l1 x13_1)) = false := bne_eq_false_iff_eq.mpr c8
                  clear c8
                  have H' := Aside0.mk H
                  clear H
                  have p156 : 0 ≤ (x13_1 : Int) := of_decide_eq_true (by first | (with_reducible assumption) | assumption)
                  have q156 : x13_1 < (l0.length : Int) := of_decide_eq_true (by first | (with_reducible assumption) | assumption)
                  obtain ⟨ad156, e156, hx156_0⟩ := Kd.at_int HR0.out x13_1 p156 q156
                  cases e156
                  replace p156 := eq_true p156
                  replace q156 := eq_true q156
                  have p157 : 0 ≤ (x13_1 : Int) := of_decide_eq_true (by first | (with_reducible assumption) | assumption)
                  have q157 : x13_1 < (l1.length : Int) := of_decide_eq_true (by first | (with_reducible assumption) | assumption)
                  obtain ⟨ad157, e157, hx157_0⟩ := Kd.at_int HR1.out x13_1 p157 q157
                  cases e157
                  replace p157 := eq_true p157
                  replace q157 := eq_true q157
                  go_wp2
                  repeat (go_quiet (fail); try go_wp2)
                  go_roundg k1
                  case measure => have := HK1.out; omega
                  case rel => exact ⟨(wrap64 (x13_1 + 1)), (by first | rfl | (simp; done) | (simp [*]; done)), H', ⟨by have := HK1.out; omega⟩, by repeat (first | exact Drawn0.refl _ | apply Drawn0.step)⟩
                · rw [if_neg c8] at H
                  have c8b0 : ((rd l0 x13_1) == (rd l1 x13_1)) = false := beq_eq_false_iff_ne.mpr c8
                  have c8b1 : ((rd l0 x13_1) != (rd l1 x13_1)) = true := bne_iff_ne.mpr c8
                  obtain rfl := Option.some.inj H
                  have p156 : 0 ≤ (x13_1 : Int) := of_decide_eq_true (by first | (with_reducible assumption) | assumption)
                  have q156 : x13_1 < (l0.length : Int) := of_decide_eq_true (by first | (with_reducible assumption) | assumption)
                  obtain ⟨ad156, e156, hx156_0⟩ := Kd.at_int HR0.out x13_1 p156 q156
                  cases e156
                  replace p156 := eq_true p156
                  replace q156 := eq_true q156
                  have p157 : 0 ≤ (x13_1 : Int) := of_decide_eq_true (by first | (with_reducible assumption) | assumption)
                  have q157 : x13_1 < (l1.length : Int) := of_decide_eq_true (by first | (with_reducible assumption) | assumption)
                  obtain ⟨ad157, e157, hx157_0⟩ := Kd.at_int HR1.out x13_1 p157 q157
                  cases e157
                  replace p157 := eq_true p157
                  replace q157 := eq_true q157
                  go_wp2
                  repeat (go_quiet (fail); try go_wp2)
                  go_ret
                  exact ⟨by first | rfl | (simp; done) | (simp [*]; done), by repeat (first | exact Drawn0.refl _ | apply Drawn0.step)⟩
              · rw [if_neg c7] at H
                exact absurd H (by simp)
            · rw [if_neg c6] at H
              exact absurd H (by simp)
          · rw [if_neg c5] at H
            exact absurd H (by simp)
        · rw [if_neg c4] at H
          have c4b0 : decide (x13_1 < (l0.length : Int)) = false := decide_eq_false c4
          clear c4
          obtain rfl := Option.some.inj H
          go_wp2
          repeat (go_quiet (fail); try go_wp2)
          go_ret
          exact ⟨by first | rfl | (simp; done) | (simp [*]; done), by repeat (first | exact Drawn0.refl _ | apply Drawn0.step)⟩
  · rw [if_neg c3] at H
    have c3b0 : ((l0.length : Int) == (l1.length : Int)) = false := beq_eq_false_iff_ne.mpr c3
    have c3b1 : ((l0.length : Int) != (l1.length : Int)) = true := bne_iff_ne.mpr c3
    have c3b2 : (l0.length == l1.length) = false := by first | simpa using c3 | (simp at c3 ⊢; omega)
    obtain rfl := Option.some.inj H
    go_enter Try.func13, Try.ntmps13
    go_wp2
    repeat (go_quiet (fail); try go_wp2)
    go_ret
    exact ⟨by first | rfl | (simp; done) | (simp [*]; done), by repeat (first | exact Drawn0.refl _ | apply Drawn0.step)⟩

/-! ### wrackkeep1_plan: function 16 -/
def wrackkeep1_plan.f (a0 : Int) (a1 : Int) : Option (Int × Int) := (wrackmake_Below.f a0 8).bind fun t159 => ((wrackmake_Below.f a1 8).bind fun t160 => (some (t159, wrap64 (1 + t160))))
set_option maxHeartbeats 8000000 in
set_option maxRecDepth 100000 in
theorem wrackkeep1_plan.calls (a0 : Int) (a1 : Int) (r1 : Int) (r2 : Int) (w : World) (h : wrackkeep1_plan.f a0 a1 = some (r1, r2)) :
    Calls Try.prog 16 #[.int .i64 a0, .int .i64 a1] w fun e w' => e = .returned (.agg #[.int .i64 r1, .int .i64 r2]) ∧ Below w.heap.size w w' := by
  have hu43 := Try.underlying43
  have HB := Aside0.mk (Below.refl w.heap.size w)
  have H : ((wrackmake_Below.f a0 8).bind fun t159 => ((wrackmake_Below.f a1 8).bind fun t160 => (some (t159, wrap64 (1 + t160))))) = some (r1, r2) := h
  clear h
  replace H := Option.bind_eq_some_iff.mp H
  obtain ⟨t159, A30, H⟩ := H
  replace H : ((wrackmake_Below.f a1 8).bind fun t160 => (some (t159, wrap64 (1 + t160)))) = some (r1, r2) := H
  have A3 := Aside0.mk A30
  clear A30
  replace H := Option.bind_eq_some_iff.mp H
  obtain ⟨t160, A40, H⟩ := H
  replace H : (some (t159, wrap64 (1 + t160))) = some (r1, r2) := H
  have A4 := Aside0.mk A40
  clear A40
  simp only [Option.some.injEq, Prod.mk.injEq] at H
  obtain ⟨rfl, rfl⟩ := H
  go_enter Try.func16, Try.ntmps16
  go_wp2_with (first | ((with_reducible refine gate_dst (N := 4) rfl ?_); refine box_event ?hg (N := 4) ?hd (cs := #[.int .i64 0, .int .i64 0]) (t := 43) ?hr ?_; (case hd => rfl); (case hg => rfl); (case hr => first | (go_simp; done) | (go_simp; rfl)); intro gb158 hg w5 hbox hb; have n0_ := Aside0.mk (below_step (by repeat (first | (with_reducible first | exact HB.out | apply below_alloc | apply pw_below_drewN | apply below_drew1) | exact HB.out)) hb); have n1_ := Aside0.mk (hbox); have n2_ := Aside0.mk ((by rw [hg]; exact (below_size (by repeat (first | (with_reducible first | exact HB.out | apply below_alloc | apply pw_below_drewN | apply below_drew1) | exact HB.out))) : w.heap.size ≤ gb158)); have n3_ := Aside0.mk ((by rw [hg]; exact (below_size (by repeat (first | (with_reducible first | exact HB.out | apply below_alloc | apply pw_below_drewN | apply below_drew1) | exact HB.out))) : w.heap.size ≤ gb158)); clear HB; have HB := n0_; have BK158 := n1_; have GW158 := n2_; have GE158 := n3_; clear n0_ n1_ n2_ n3_; clear hb hbox hg) | ((with_reducible refine gate_callee (f := 9) rfl ?_); refine goesL_ (some 6) rfl rfl Try.func9 (by kernel_rfl) rfl #[.int .i64 a0, .int .i64 8] rfl (by (try simp only [List.map_toArray, List.map_cons, List.map_nil]); first | done | rfl | (simp only [List.length_drop, List.length_take]; rfl)) ?_; (with_reducible refine (wrackmake_Below.calls a0 8 t159 _ A3.out).mono ?_); rintro e w' ⟨rfl, ⟨nd, rfl⟩⟩; refine ⟨_, rfl, ?_⟩; (try (rw [drewN_self w5]; generalize hq_ : World.drewN w5 _ = w5; have n0_ : Aside0 (w5.heap[gb158]? = some (.cells #[.int .i64 0, .int .i64 0] 43 (0, 0))) := ⟨by rw [← hq_]; exact (by (with_reducible repeat (first | refine blk_drewN ?_ _ | refine blk_drew ?_ | refine blk_alloc ?_ _)); exact BK158.out)⟩; have n1_ : Aside0 (Below w.heap.size w w5) := ⟨by rw [← hq_]; exact (by repeat (first | (with_reducible first | exact HB.out | apply below_alloc | apply pw_below_drewN | apply below_drew1 | refine below_set ?_ GE158.out) | exact HB.out))⟩; clear BK158 HB hq_; have BK158 := n0_; have HB := n1_; clear n0_ n1_))) | ((with_reducible refine gate_callee (f := 9) rfl ?_); refine goesL_ (some 8) rfl rfl Try.func9 (by kernel_rfl) rfl #[.int .i64 a1, .int .i64 8] rfl (by (try simp only [List.map_toArray, List.map_cons, List.map_nil]); first | done | rfl | (simp only [List.length_drop, List.length_take]; rfl)) ?_; (with_reducible refine (wrackmake_Below.calls a1 8 t160 _ A4.out).mono ?_); rintro e w' ⟨rfl, ⟨nd, rfl⟩⟩; refine ⟨_, rfl, ?_⟩; (try (rw [drewN_self w5]; generalize hq_ : World.drewN w5 _ = w5; have n0_ : Aside0 (w5.heap[gb158]? = some (.cells #[.int .i64 0, .int .i64 0] 43 (0, 0))) := ⟨by rw [← hq_]; exact (by (with_reducible repeat (first | refine blk_drewN ?_ _ | refine blk_drew ?_ | refine blk_alloc ?_ _)); exact BK158.out)⟩; have n1_ : Aside0 (Below w.heap.size w w5) := ⟨by rw [← hq_]; exact (by repeat (first | (with_reducible first | exact HB.out | apply below_alloc | apply pw_below_drewN | apply below_drew1 | refine below_set ?_ GE158.out) | exact HB.out))⟩; clear BK158 HB hq_; have BK158 := n0_; have HB := n1_; clear n0_ n1_)); have hcz6_0 : w5.cell? ⟨gb158, 0, none⟩ = some (.int .i64 0) := (blk_cell BK158.out 0).trans rfl; have hcz6_1 : w5.cell? ⟨gb158, 1, none⟩ = some (.int .i64 0) := (blk_cell BK158.out 1).trans rfl; have hfz6_0 := blk_frozen BK158.out 0; have hfz6_1 := blk_frozen BK158.out 1))
  refine bodyPost_ret (results_cell_row rfl _ _ gb158 43 #[.int .i64 t159, .int .i64 (wrap64 (1 + t160))] (0, 0) _ rfl (by (with_reducible repeat (first | refine blk_drewN ?_ _ | refine blk_drew ?_ | refine blk_alloc ?_ _)); refine blk_put (cs := #[.int .i64 t159, .int .i64 0]) ?_ 1 _ rfl; (with_reducible repeat (first | refine blk_drewN ?_ _ | refine blk_drew ?_ | refine blk_alloc ?_ _)); refine blk_put (cs := #[.int .i64 0, .int .i64 0]) ?_ 0 _ rfl; (with_reducible repeat (first | refine blk_drewN ?_ _ | refine blk_drew ?_ | refine blk_alloc ?_ _)); exact BK158.out) Try.underlying43 rfl (by kernel_rfl)) rfl ?_
  exact ⟨by first | rfl | (simp [errW_none, errW_some] <;> rfl) | (simp [*, errW_none, errW_some] <;> rfl), by repeat (first | (with_reducible first | exact HB.out | apply below_alloc | apply pw_below_drewN | apply below_drew1 | refine below_set ?_ GE158.out) | exact HB.out)⟩

/-! ### api_Fault: function 25 -/
def api_Fault.f (l0 : List S59) : Option (List S59) := if l0.length ≤ 65536 then some l0 else none
set_option maxHeartbeats 2000000 in
set_option maxRecDepth 100000 in
theorem api_Fault.calls (A0 : Option Addr) (c0 : Nat) (l0 : List S59) (r : List S59) (w : World) (hr0 : Kd.C k59 w A0 l0.length l0) (hc0 : l0.length ≤ c0) (h : api_Fault.f l0 = some r) :
    Calls Try.prog 25 #[.slice A0 l0.length c0] w fun e w' => ∃ v0_ : Value, e = .returned (v0_) ∧ Kd.R k59 59 w' w.heap.size (fun _ => True) v0_ r ∧ Below w.heap.size w w' := by
  unfold api_Fault.f at h
  split at h
  case isFalse => exact absurd h (by simp)
  case isTrue c1 =>
  obtain rfl := Option.some.inj h
  clear h
  have q1 : ∀ (w : World) (a : Option Addr) (n c n' c' : Nat), (binOp .eql 24 (.slice a n c) (.slice none n' c')).run Try.prog w = .ok (.bool a.isNone) w := fun w a n c n' c' => Go.Lib.run_eql_slice_nil w _ _ a n c n' c' Try.underlying24
  cases A0 with
  | none =>
    have h0 : l0.length = 0 := by
      rcases Nat.eq_zero_or_pos l0.length with h0 | h0
      · exact h0
      · obtain ⟨ad, h, _⟩ := hr0.2.2 h0
        cases h
    obtain rfl := List.eq_nil_of_length_eq_zero h0
    clear hr0 hc0 c1 h0
    go_enter Try.func25, Try.ntmps25
    go_wp2
    go_ret
    exact ⟨_, rfl, Kd.R_nil _ _ _ _ _, Below.refl _ _⟩
  | some ad =>
    have HR := Aside0.mk hr0
    have C1 := Aside0.mk (show (([] : List S59).length + l0.length) * 24 ≤ 140737488355328 from by simp only [List.length_nil]; omega)
    clear hr0 hc0 c1
    go_enter Try.func25, Try.ntmps25
    go_wp2_with (first | (at_builtin; refine Kd.R_append_rows k59 (w0 := w) w.heap.size rfl (.tmp 5) (.tmp 6) 24 59 (.agg #[(.int .i64 0), (.int .i64 0), (.int .i64 0)]) 24 rfl Try.underlying24 info59 rfl (by decide) (by omega) (.slice (some ⟨w.heap.size, 0, none⟩) 0 0) [] l0 (some ad) _ _ (fun _ => True) (fun _ => False) rfl rfl ⟨fun _ _ => trivial, [], World.ownsRow_made w #[] 0 (Nat.le_refl _) (Nat.zero_le _) (by simp), Reps.none _ _⟩ (Kd.C_below HR.out (below_alloc (Below.refl _ _) _)) (fun _ _ h => h) (fun _ h => h.elim) (fun _ _ => trivial) (below_alloc (Below.refl _ _) _) (by simp) C1.out ?_; intro v1 w1 ho hb hg hat; clear hg hat; rw [List.nil_append] at ho; have HO := Aside0.mk ho; have HB := Aside0.mk hb; clear ho hb))
    go_ret
    exact ⟨_, rfl, HO.out, HB.out⟩

/-! ### drive_New: function 7 -/
theorem blk_new2 (w : World) (o o' : Obj) : ((w.alloc o).alloc o').heap[w.heap.size + 1]? = some o' := by
  have h := blk_new (w.alloc o) o'
  rw [show (w.alloc o).heap.size = w.heap.size + 1 from by simp] at h
  exact h
def drive_New.f (k : Nat) (D : List Int) (F : List S59) : Option Unit := (drive_Check.f k D F).bind fun c => if c = 0 ∧ D.length ≤ 65536 ∧ F.length ≤ 65536 then some () else none
set_option maxHeartbeats 4000000 in
set_option maxRecDepth 100000 in
theorem drive_New.calls (k : Nat) (A0 : Option Addr) (c0 : Nat) (D : List Int) (A1 : Option Addr) (c1 : Nat) (F : List S59) (w : World) (hr0 : Kd.C (Kd.int .u8) w A0 D.length D) (hc0 : D.length ≤ c0) (hr1 : Kd.C k59 w A1 F.length F) (hc1 : F.length ≤ c1) (h : drive_New.f k D F = some ()) :
    Calls Try.prog 7 #[.agg #[.slice A0 D.length c0, .slice A1 F.length c1]] w fun e w' => ∃ g, e = .returned (.tuple #[.pointer (some ⟨g, 0, none⟩), .int .i64 0]) ∧ IsDisk w.heap.size w'.heap.size w' g D F (fun _ => 0) 0 0 ∧ Below w.heap.size w w' := by
  unfold drive_New.f at h
  obtain ⟨c, h1, h⟩ := Option.bind_eq_some_iff.mp h
  split at h
  case isFalse => exact absurd h (by simp)
  case isTrue hh =>
  obtain ⟨rfl, q1, q2⟩ := hh
  have HF0 := Aside0.mk (show slices_Clone_byte_byte.f D = some D from by unfold slices_Clone_byte_byte.f; rw [if_pos (by omega)])
  have HF1 := Aside0.mk (show api_Fault.f F = some F from by unfold api_Fault.f; rw [if_pos (by omega)])
  have H1 := Aside0.mk h1
  have HR0 := Aside0.mk hr0
  have HR1 := Aside0.mk hr1
  have HC0 := Aside0.mk hc0
  have HC1 := Aside0.mk hc1
  clear h h1 hr0 hr1 hc0 hc1
  have hmm := @run_makeMap Try.prog
  go_enter Try.func7, Try.ntmps7
  go_upto_region 1 with (first | ((with_reducible refine gate_dst (N := 1) rfl ?_); refine box_event ?hg (N := 1) ?hd (cs := #[.slice A0 D.length c0, .slice A1 F.length c1]) (t := 26) ?hr ?_; (case hd => rfl); (case hg => rfl); (case hr => first | (go_simp; done) | (go_simp; rfl)); intro g1 hg W1 hbox hb; have BK1 := Aside0.mk hbox; have HB1 := Aside0.mk (below_step (Below.refl _ _) hb); clear hb hbox hg))
  have x0 : W1.cell? ⟨g1, 0, none⟩ = some (.slice A0 D.length c0) := (blk_cell BK1.out 0).trans rfl
  have x1 : W1.cell? ⟨g1, 1, none⟩ = some (.slice A1 F.length c1) := (blk_cell BK1.out 1).trans rfl
  go_upto_region 2 with (go_at_call 23; refine (drive_Check.calls k A0 c0 D A1 c1 F 0 _ (Kd.C_below HR0.out HB1.out) HC0.out (Kd.C_below HR1.out HB1.out) HC1.out H1.out).mono ?_; rintro e w2 ⟨rfl, hb⟩; have HB2 := Aside0.mk (below_step HB1.out hb); have BK2 := Aside0.mk (blk_below BK1.out hb); clear hb)
  clear x0 x1
  have x0 : w2.cell? ⟨g1, 0, none⟩ = some (.slice A0 D.length c0) := (blk_cell BK2.out 0).trans rfl
  have x1 : w2.cell? ⟨g1, 1, none⟩ = some (.slice A1 F.length c1) := (blk_cell BK2.out 1).trans rfl
  go_upto_region 4 with (fail)
  have hlt2 : g1 < w2.heap.size := blk_lt BK2.out
  have hne2 : g1 ≠ w2.heap.size := Nat.ne_of_lt hlt2
  go_region_with (first | (go_at_call 24; refine (slices_Clone_byte_byte.calls A0 c0 D D _ (Kd.C_below HR0.out (by repeat (first | (with_reducible first | exact HB2.out | apply below_alloc | apply pw_below_drewN | apply below_drew1) | exact HB2.out))) HC0.out HF0.out).mono ?_; rintro e w4 ⟨v4, rfl, hR, hb⟩; have HR4 := Aside0.mk hR; have HS4 := Aside0.mk hb; have HB4 := Aside0.mk (below_step (by repeat (first | (with_reducible first | exact HB2.out | apply below_alloc | apply pw_below_drewN | apply below_drew1) | exact HB2.out)) hb); have HC4 : Aside0 (Below w2.heap.size w2 w4) := ⟨below_step (by repeat (first | (with_reducible first | exact Below.refl _ _ | apply below_alloc | apply pw_below_drewN | apply below_drew1) | exact Below.refl _ _)) hb⟩; have x2 : w4.cell? ⟨g1, 1, none⟩ = some (.slice A1 F.length c1) := (HC4.out.cell (World.block_lt_of_cell? w2 _ x1)).trans x1; have hlt4 : g1 < w4.heap.size := Nat.lt_of_lt_of_le hlt2 HC4.out.size; have hne4 : g1 ≠ w4.heap.size := Nat.ne_of_lt hlt4; clear hR hb; obtain ⟨Aa, ca, ea⟩ := Kd.R_slice HR4.out; subst ea) | (go_at_call 25; refine (api_Fault.calls A1 c1 F F _ (Kd.C_below HR1.out (by repeat (first | (with_reducible first | exact HB4.out | apply below_alloc | apply pw_below_drewN | apply below_drew1) | exact HB4.out))) HC1.out HF1.out).mono ?_; rintro e w5 ⟨v5, rfl, hR, hb⟩; have HR5 := Aside0.mk hR; have HS5 := Aside0.mk hb; have HB5 := Aside0.mk (below_step (by repeat (first | (with_reducible first | exact HB4.out | apply below_alloc | apply pw_below_drewN | apply below_drew1) | exact HB4.out)) hb); clear hR hb; obtain ⟨Ab, cb, eb⟩ := Kd.R_slice HR5.out; subst eb))
  all_goals
    have S4 := HS4.out.size
    have S5 := HS5.out.size
    have HC5 := Aside0.mk (below_step (by repeat (first | (with_reducible first | exact Below.refl _ _ | apply below_alloc | apply pw_below_drewN | apply below_drew1) | exact Below.refl _ _)) HS5.out : Below w4.heap.size w4 w5)
    try simp at S4
    try simp at S5
    go_wp2
    go_ret2
    refine ⟨_, rfl, ⟨Aa, ca, Ab, cb, _, (by first | exact blk_new _ _ | exact blk_new2 _ _ _), ?_, ?_, ?_, ?_, ?_, ?_⟩, ?_⟩
    · refine ⟨?_, by simp⟩
      first | exact below_size HB5.out | exact below_size (below_alloc HB5.out _) | (have := below_size HB5.out; omega)
    · refine ⟨?_, by simp <;> omega⟩
      first | exact below_size HB5.out | exact below_size HB4.out | exact below_size HB2.out
    · simp <;> omega
    · refine Kd.R_lower (Kd.R_mono (Kd.R_below (Kd.R_below (Kd.R_bound HR4.out) HC5.out) (by repeat (first | (with_reducible first | exact Below.refl _ _ | apply below_alloc | apply pw_below_drewN | apply below_drew1) | exact Below.refl _ _))) (fun k hk => ?_)) (by (try simp); have := below_size HB2.out; have := below_size HB4.out; omega)
      have h1 := hk.2.1
      have h2 := hk.2.2.1
      try simp at h1
      refine ⟨?_, ?_, ?_⟩ <;> (simp; omega)
    · refine Kd.R_lower (Kd.R_mono (Kd.R_below (Kd.R_bound HR5.out) (by repeat (first | (with_reducible first | exact Below.refl _ _ | apply below_alloc | apply pw_below_drewN | apply below_drew1) | exact Below.refl _ _))) (fun k hk => ?_)) (by (try simp); have := below_size HB2.out; have := below_size HB4.out; omega)
      have h1 := hk.2.1
      have h2 := hk.2.2.1
      try simp at h1
      refine ⟨?_, ?_, ?_⟩ <;> (simp; omega)
    · refine (MapF.made _).below ?_
      repeat (first | (with_reducible first | exact Below.refl _ _ | apply below_alloc | apply pw_below_drewN | apply below_drew1) | exact Below.refl _ _ | refine below_step ?_ HS5.out | refine below_step ?_ HS4.out)
    · exact (by repeat (first | (with_reducible first | exact HB5.out | apply below_alloc | apply pw_below_drewN | apply below_drew1) | exact HB5.out))

/-! ### drive_Disk_Blocks: function 10 -/
theorem drive_Disk_Blocks.calls (m n : Nat) (g : Nat) (D : List Int) (F : List S59) (mp : Int → Int) (N : Nat) (tm : Int) (w : World) (hI : IsDisk m n w g D F mp N tm) :
    Calls Try.prog 10 #[.pointer (some ⟨g, 0, none⟩)] w fun e w' => e = .returned (.int .i64 ((D.length : Int) / 64)) ∧ w = w' := by
  obtain ⟨A, c, B, d, b, h1, h2, h3, h4, h5, h6, h7⟩ := hI
  have x0 : w.cell? ⟨g, 0, none⟩ = some (.slice A D.length c) := (blk_cell h1 0).trans rfl
  have hmax := (Kd.R_reads' h5).2.2.2.1
  unfold maxLen at hmax
  clear h1 h2 h3 h4 h5 h6 h7
  go_enter Try.func10, Try.ntmps10
  go_wp2
  go_ret
  exact ⟨rfl, rfl⟩

end Go.Proofs.Ytcnabemeadnecaa.PPassReads
