-- written by prn.py, a program of this session, over the kit's printer
import Derived.Test.YtchjgjpoephljaaPWordChainx0
import Derived.Test.YtchjgjpoephljaaPWordChainx2
namespace Go.Proofs.Ytchjgjpoephljaa.PWordChain
open Go.RowKit Go.Proofs.YtchjgjpoephljaaW.PrintWords Go.Proofs.YtchjgjpoephljaaW.PrintLast Go.Proofs.YtchjgjpoephljaaW.PrintMore Go.Proofs.YtchjgjpoephljaaW.PrintMine
attribute [local go_sem] max2_int min2_int max_two min_two max_three min_three max_four min_four   -- for this text's walks alone
set_option linter.unusedVariables false
set_option linter.unusedSimpArgs false

/-- A state of type 39 at block g of W; what its slices lead to came in by w0. -/
def IsS39 (w0 W : World) (g : Nat) (f0 : Int) (f1 : Int) : Prop := W.heap[g]? = some (.cells #[.int .i64 f0, .int .i64 f1] 39 (0, 0)) ∧ w0.heap.size ≤ g
theorem IsS39.grown {w0 W : World} {g : Nat} {f0 : Int} {f1 : Int} {W1 : World} {row : Option Nat} (h : IsS39 w0 W g f0 f1) (hw : W.grownBy W1 row) (hne : some g ≠ row) : IsS39 w0 W1 g f0 f1 := by
  obtain ⟨hb, hg⟩ := h
  exact ⟨blk_grown hb hw hne, hg⟩
theorem IsS39.own_neN {w0 W : World} {g : Nat} {f0 : Int} {f1 : Int} {α : Type} {d : Kd α} {e : Nat} {base : Nat} {ok : Nat → Prop} {v : Value} {xs : List α} (h : IsS39 w0 W g f0 f1) (ho : Kd.N d e W base ok v xs) (ht : e ≠ 39) : some g ≠ v.ownBlock := by
  obtain ⟨hb, hg⟩ := h
  exact Kd.N_ne ho hb ht
theorem IsS39.fresh {w0 W : World} {g : Nat} {f0 : Int} {f1 : Int} (h : IsS39 w0 W g f0 f1) : ∀ k, W.heap.size ≤ k → k ≠ g := by
  obtain ⟨hb, hg⟩ := h
  exact Kd.freshB hb
theorem IsS39.kept {w0 W : World} {g : Nat} {f0 : Int} {f1 : Int} {W1 : World} {S : Nat → Prop} (h : IsS39 w0 W g f0 f1) (hk : Kept W W1 S) (hne : ¬ S g) : IsS39 w0 W1 g f0 f1 := by
  obtain ⟨hb, hg⟩ := h
  exact ⟨blk_kept hb hk hne, hg⟩
theorem IsS39.below {w0 W : World} {g : Nat} {f0 : Int} {f1 : Int} {W1 : World} (h : IsS39 w0 W g f0 f1) (hw : Below W.heap.size W W1) : IsS39 w0 W1 g f0 f1 := h.grown (grown_of_below hw none) (by simp)
theorem IsS39.alloc {w0 W : World} {g : Nat} {f0 : Int} {f1 : Int} (h : IsS39 w0 W g f0 f1) (o : Obj) : IsS39 w0 (W.alloc o) g f0 f1 := h.below (below_alloc (Below.refl _ _) o)
theorem IsS39.drewN {w0 W : World} {g : Nat} {f0 : Int} {f1 : Int} (h : IsS39 w0 W g f0 f1) (m : Nat) : IsS39 w0 (W.drewN m) g f0 f1 := h
theorem IsS39.drew {w0 W : World} {g : Nat} {f0 : Int} {f1 : Int} (h : IsS39 w0 W g f0 f1) : IsS39 w0 W.drew g f0 f1 := h
theorem IsS39.at_ {w0 W : World} {g : Nat} {f0 : Int} {f1 : Int} {w' : World} {m : Nat} (hq : W.drewN m = w') (h : IsS39 w0 W g f0 f1) : IsS39 w0 w' g f0 f1 := by subst hq; exact IsS39.drewN h m
theorem IsS39.apart {w0 W : World} {g : Nat} {f0 : Int} {f1 : Int} {α : Type} {d : Kd α} {e : Nat} {base : Nat} {ok : Nat → Prop} {v : Value} {xs : List α} (h : IsS39 w0 W g f0 f1) (ho : d.R e W base ok v xs) (ht : ∀ q, q ∈ e :: d.E → q ≠ 39) : d.R e W base (fun k => ok k ∧ k ≠ g) v xs := by
  obtain ⟨hb, hg⟩ := h
  exact Kd.R_types ho hb ht
theorem IsS39.own_ne {w0 W : World} {g : Nat} {f0 : Int} {f1 : Int} {α : Type} {d : Kd α} {e : Nat} {base : Nat} {ok : Nat → Prop} {v : Value} {xs : List α} (h : IsS39 w0 W g f0 f1) (ho : d.R e W base ok v xs) (ht : e ≠ 39) : some g ≠ v.ownBlock := by
  obtain ⟨hb, hg⟩ := h
  exact Kd.R_ne ho hb ht
theorem IsS39.apartQ {w0 W : World} {g : Nat} {f0 : Int} {f1 : Int} {α : Type} {d : Kd α} {e : Nat} {base : Nat} {ok : Nat → Prop} {v : Value} {xs : List α} (h : IsS39 w0 W g f0 f1) (ho : d.Q e W base ok v xs) (ht : ∀ q, q ∈ e :: d.E → q ≠ 39) : d.Q e W base (fun k => ok k ∧ k ≠ g) v xs := by
  obtain ⟨hb, hg⟩ := h
  exact Kd.Q_types ho hb ht
theorem IsS39.own_neQ {w0 W : World} {g : Nat} {f0 : Int} {f1 : Int} {α : Type} {d : Kd α} {e : Nat} {base : Nat} {ok : Nat → Prop} {v : Value} {xs : List α} (h : IsS39 w0 W g f0 f1) (ho : d.Q e W base ok v xs) (ht : e ≠ 39) : some g ≠ v.ownBlock := by
  obtain ⟨hb, hg⟩ := h
  exact Kd.Q_ne ho hb ht
theorem IsS39.apartS {w0 W : World} {g : Nat} {f0 : Int} {f1 : Int} {α : Type} {d : Kd α} {e : Nat} {base : Nat} {ok : Nat → Prop} {v : Value} {xs : List α} (h : IsS39 w0 W g f0 f1) (ho : d.S e W base ok v xs) (ht : ∀ q, q ∈ e :: d.E → q ≠ 39) : d.S e W base (fun k => ok k ∧ k ≠ g) v xs := by
  obtain ⟨hb, hg⟩ := h
  exact Kd.S_types ho hb ht
theorem IsS39.own_neS {w0 W : World} {g : Nat} {f0 : Int} {f1 : Int} {α : Type} {d : Kd α} {e : Nat} {base : Nat} {ok : Nat → Prop} {v : Value} {xs : List α} (h : IsS39 w0 W g f0 f1) (ho : d.S e W base ok v xs) (ht : e ≠ 39) : some g ≠ v.ownBlock := by
  obtain ⟨hb, hg⟩ := h
  exact Kd.S_ne ho hb ht
theorem IsS39.lt {w0 W : World} {g : Nat} {f0 : Int} {f1 : Int} (h : IsS39 w0 W g f0 f1) : g < W.heap.size := by
  obtain ⟨hb, hg⟩ := h
  exact blk_lt hb
theorem IsS39.ge {w0 W : World} {g : Nat} {f0 : Int} {f1 : Int} (h : IsS39 w0 W g f0 f1) : w0.heap.size ≤ g := by
  obtain ⟨hb, hg⟩ := h
  exact hg
theorem IsS39.ne_blk {w0 W : World} {g : Nat} {f0 : Int} {f1 : Int} {a : Nat} {cs : Array Value} {t : TypeId} {fr : Nat × Nat} (h : IsS39 w0 W g f0 f1) (hb2 : W.heap[a]? = some (.cells cs t fr)) (ht : t ≠ 39) : g ≠ a := by
  obtain ⟨hb, hg⟩ := h
  rintro rfl
  rw [hb] at hb2
  injection hb2 with hb2
  injection hb2 with _ ht2
  exact ht ht2.symm
theorem IsS39.far {w0 W : World} {g : Nat} {f0 : Int} {f1 : Int} {p : Addr} (h : IsS39 w0 W g f0 f1) (hne : g ≠ p.block) (u : Value) : IsS39 w0 (W.setCell p u) g f0 f1 := by
  obtain ⟨hb, hg⟩ := h
  exact ⟨blk_far hb hne u, hg⟩
theorem cellS39_0 {W : World} {g : Nat} {f0 : Int} {f1 : Int} (h : W.heap[g]? = some (.cells #[.int .i64 f0, .int .i64 f1] 39 (0, 0))) : W.cell? ⟨g, 0, none⟩ = some (.int .i64 f0) := (blk_cell h 0).trans rfl
theorem IsS39.set_0 {w0 W : World} {g : Nat} {f0 : Int} {f1 : Int} (h : IsS39 w0 W g f0 f1) (x : Int) : IsS39 w0 (W.setCell ⟨g, 0, none⟩ (.int .i64 x)) g x f1 := by
  obtain ⟨hb, hg⟩ := h
  exact ⟨by simpa using blk_set hb 0 (.int .i64 x), hg⟩
theorem cellS39_1 {W : World} {g : Nat} {f0 : Int} {f1 : Int} (h : W.heap[g]? = some (.cells #[.int .i64 f0, .int .i64 f1] 39 (0, 0))) : W.cell? ⟨g, 1, none⟩ = some (.int .i64 f1) := (blk_cell h 1).trans rfl
theorem IsS39.set_1 {w0 W : World} {g : Nat} {f0 : Int} {f1 : Int} (h : IsS39 w0 W g f0 f1) (x : Int) : IsS39 w0 (W.setCell ⟨g, 1, none⟩ (.int .i64 x)) g f0 x := by
  obtain ⟨hb, hg⟩ := h
  exact ⟨by simpa using blk_set hb 1 (.int .i64 x), hg⟩
theorem IsS39.new (w0 W : World) (f0 : Int) (f1 : Int) (hB : Below w0.heap.size w0 W) : IsS39 w0 (W.alloc (.cells #[.int .i64 f0, .int .i64 f1] 39)) W.heap.size f0 f1 := ⟨by simpa using heap_alloc_new W _, hB.size⟩

/-! ### word_Index_Add: function 18 -/
/-! ### drv_base: function 9999 -/
/-- A slice of places of the index' own, as its header: none: nil. -/
abbrev Hdr := Option (Nat × Nat × Nat)
def hdrV : Hdr → Value
  | none => .slice none 0 0
  | some (g, n, c) => .slice (some ⟨g, 0, none⟩) n c
def hdrD : Hdr → DataW Unit
  | none => .nil
  | some (g, n, c) => .agg [.lit (.int .i64 g), .lit (.int .i64 n), .lit (.int .i64 c)]
def hdrB : Hdr → Option Nat
  | none => none
  | some (g, _, _) => some g
/-- How an element of the map reads: as its header. -/
def hdrOf : Value → Option (DataW Unit × List MemPlace)
  | .slice none 0 0 => some (.nil, [])
  | .slice (some ⟨g, 0, none⟩) n c => some (.agg [.lit (.int .i64 g), .lit (.int .i64 n), .lit (.int .i64 c)], [])
  | _ => none
theorem hdrOf_mk (x : Hdr) : hdrOf (hdrV x) = some (hdrD x, []) := by
  rcases x with _ | ⟨g, n, c⟩ <;> rfl
theorem hdr_inv {v : Value} {z : DataW Unit × List MemPlace} (h : hdrOf v = some z) : ∃ x, v = hdrV x ∧ z = (hdrD x, []) := by
  unfold hdrOf at h
  split at h
  · exact ⟨none, rfl, (Option.some.inj h).symm⟩
  · exact ⟨some (_, _, _), rfl, (Option.some.inj h).symm⟩
  · exact absurd h (by simp)
theorem hdrD_inj {x y : Hdr} (h : hdrD x = hdrD y) : x = y := by
  rcases x with _ | ⟨g, n, c⟩ <;> rcases y with _ | ⟨g', n', c'⟩
  · rfl
  · exact absurd h (by simp [hdrD])
  · exact absurd h (by simp [hdrD])
  · simp only [hdrD, DataW.agg.injEq, List.cons.injEq, DataW.lit.injEq, Lit.int.injEq, true_and, and_true] at h
    obtain ⟨h1, h2, h3⟩ := h
    rw [show g = g' by omega, show n = n' by omega, show c = c' by omega]
theorem hdrV_own (x : Hdr) : (hdrV x).ownBlock = hdrB x := by
  rcases x with _ | ⟨g, n, c⟩ <;> rfl
def updS {α : Type} (m : ByteArray → α) (s : ByteArray) (v : α) : ByteArray → α := fun y => if y = s then v else m y
theorem str_lit {s t : ByteArray} (h : Lit.string s.data.toList = Lit.string t.data.toList) : s = t := by
  injection h with h
  cases s; cases t
  simp only at h
  rw [Array.toList_inj.1 h]
/-- Block b is a map of strings to headers. -/
def MapS (w : World) (b : Nat) (m : ByteArray → Hdr) (N : Nat) : Prop := ∃ Dt : DataW Unit, w.ownsMap Try.prog 9 hdrOf b N Dt ∧ Go.Maps.IsMap Dt ∧ ∀ (s : ByteArray) (z : DataW Unit), s.size ≤ maxLen → Dt.atKey (.string s.data.toList) z = match m s with | none => z | some x => hdrD (some x)
theorem keyOf_s {s : ByteArray} (h : s.size ≤ maxLen) : keyOf Try.prog 9 (.string s) = some (.string s.data.toList) := by
  have hu := Try.underlying9
  simp [keyOf, hu, mapKey, h]
theorem MapS.look {w : World} {b N : Nat} {m : ByteArray → Hdr} (h : MapS w b m N) (s : ByteArray) (hs : s.size ≤ maxLen) : (Instr.lookup 55 (.map (some b)) (.string s) false).run Try.prog w = .ok (hdrV (m s)) w := by
  obtain ⟨Dt, h1, h2, h3⟩ := h
  obtain ⟨v, ps, hr, hv⟩ := h1.lookup (t := 55) (z := .slice none 0 0) (zd := .nil) (zp := []) (Go.Maps.string_keyed Try.underlying9) Try.underlying55 (by kernel_rfl) rfl (keyOf_s hs)
  obtain ⟨x, rfl, e⟩ := hdr_inv hv
  have e1 := (Prod.mk.inj e).1
  rw [h3 s .nil hs] at e1
  have : m s = x := by
    refine hdrD_inj ?_
    rw [← e1]
    cases m s <;> rfl
  rw [this]
  exact hr
theorem MapS.put {w : World} {b N : Nat} {m : ByteArray → Hdr} (h : MapS w b m N) (hN : N < maxLen) (s : ByteArray) (x : Nat × Nat × Nat) (hs : s.size ≤ maxLen) :
    ∃ w', (Instr.mapUpdate 55 (.map (some b)) (.string s) (hdrV (some x))).run Try.prog w = .ok () w' ∧ MapS w' b (updS m s (some x)) (N + 1) ∧ w.grownBy w' (some b) := by
  obtain ⟨Dt, h1, h2, h3⟩ := h
  obtain ⟨w', hr, ho, hg⟩ := h1.update (t := 55) (Go.Maps.string_keyed Try.underlying9) Try.underlying55 hN (keyOf_s hs) (hdrOf_mk (some x))
  refine ⟨w', hr, ⟨_, ho, h2.put _ _, fun y z hy => ?_⟩, hg⟩
  unfold updS
  by_cases c : y = s
  · subst c
    rw [if_pos rfl]
    exact Go.Maps.atKey_put_same h2 (show WideAt.IsKeyLit (.string y.data.toList) from trivial) _ _
  · rw [if_neg c, Go.Maps.atKey_put_other (fun e => c (str_lit e))]
    exact h3 y z hy
theorem MapS.made (w : World) : MapS (w.alloc (.map #[] 0)) w.heap.size (fun _ => none) 0 := ⟨.map [], World.ownsMap_made _ _ _ _, Go.Maps.isMap_empty, fun _ _ _ => rfl⟩
theorem MapS.kept {w w' : World} {b N : Nat} {m : ByteArray → Hdr} {row : Option Nat} (h : MapS w b m N) (hg : w.grownBy w' row) (hne : some b ≠ row) : MapS w' b m N := by
  obtain ⟨Dt, h1, h2⟩ := h
  exact ⟨Dt, h1.kept hg hne, h2⟩
theorem grown_below {w w' : World} (h : Below w.heap.size w w') : w.grownBy w' none := ⟨h.os, h.tape, h.output, h.size, fun k hk _ => h.block k hk⟩
theorem MapS.below {w w' : World} {b N : Nat} {m : ByteArray → Hdr} (h : MapS w b m N) (hb : Below w.heap.size w w') : MapS w' b m N := h.kept (grown_below hb) (by simp)
theorem grown_set (w : World) (g j : Nat) (v : Value) : w.grownBy (w.setCell ⟨g, j, none⟩ v) (some g) := ⟨rfl, rfl, rfl, by simp [World.setCell], fun k hk hne => Below.heap_setCell w ⟨g, j, none⟩ v k (fun e => hne (by rw [e]))⟩
/-- The rows of places that the map's headers lead to; no two keys have one row. -/
def RowsS (m0 : Nat) (w : World) (hdr : ByteArray → Hdr) (P : ByteArray → List S39) : Prop :=
  ∀ s, s.size ≤ maxLen → Kd.R k39 39 w m0 (fun k => ∀ t, t.size ≤ maxLen → t ≠ s → some k ≠ hdrB (hdr t)) (hdrV (hdr s)) (P s) ∧ (hdr s = none ↔ P s = [])
theorem RowsS.below {m0 : Nat} {w w' : World} {hdr : ByteArray → Hdr} {P : ByteArray → List S39} (h : RowsS m0 w hdr P) (hb : Below w.heap.size w w') : RowsS m0 w' hdr P := fun s hs => ⟨Kd.R_below (h s hs).1 hb, (h s hs).2⟩
theorem RowsS.kept {m0 : Nat} {w w' : World} {hdr : ByteArray → Hdr} {P : ByteArray → List S39} {row : Option Nat} (h : RowsS m0 w hdr P) (hg : w.grownBy w' row) (hr : ∀ k, some k = row → ∀ cs, w.heap[k]? ≠ some (.cells cs 39 (0, 0))) : RowsS m0 w' hdr P := fun s hs => by
  refine ⟨Kd.R_mono (Kd.R_step (Kd.R_bound (h s hs).1) (fun k ho hl => hg.block k hl (fun e => ?_))) (fun k hk => hk.1), (h s hs).2⟩
  obtain ⟨_, _, _, q, hq, cs, hc⟩ := ho
  have : q = 39 := by simpa [k39, Kd.iso, Kd.pair, Kd.int, Kd.scalar] using hq
  rw [this] at hc
  exact hr k e cs hc
/-- Block g is an index: the places of each word, how many words each text has; all of it from block m0 on. -/
def IsIdx (m0 : Nat) (w : World) (g : Nat) (P : ByteArray → List S39) (Z : List Int) (N : Nat) : Prop :=
  ∃ (b : Nat) (hdr : ByteArray → Hdr) (A : Option Addr) (c : Nat), w.heap[g]? = some (.cells #[.map (some b), .slice A Z.length c] 57 (0, 0)) ∧ m0 ≤ g ∧ m0 ≤ b ∧ MapS w b hdr N ∧ Kd.R (Kd.int .i64) 3 w m0 (fun _ => True) (.slice A Z.length c) Z ∧ RowsS m0 w hdr P
theorem IsIdx.below {m0 : Nat} {w w' : World} {g : Nat} {P : ByteArray → List S39} {Z : List Int} {N : Nat} (h : IsIdx m0 w g P Z N) (hb : Below w.heap.size w w') : IsIdx m0 w' g P Z N := by
  obtain ⟨b, hdr, A, c, h1, h2, h3, h4, h5, h6⟩ := h
  exact ⟨b, hdr, A, c, blk_below h1 hb, h2, h3, h4.below hb, Kd.R_below h5 hb, h6.below hb⟩
theorem drawn_below {w w' : World} (h : Drawn0 w w') : Below w.heap.size w w' := by
  obtain ⟨nd, rfl⟩ := h
  exact pw_below_drewN (Below.refl _ _) nd
/-- What the index has at a word, as a row that is read. -/
theorem IsIdx.row {m0 gx : Nat} {P : ByteArray → List S39} {Z : List Int} {N : Nat} {w : World} (hI : IsIdx m0 w gx P Z N) : ∃ b, w.cell? ⟨gx, 0, none⟩ = some (.map (some b)) ∧ ∀ s : ByteArray, s.size ≤ maxLen → ∃ A c, (∀ w', Below w.heap.size w w' → (Instr.lookup 55 (.map (some b)) (.string s) false).run Try.prog w' = .ok (.slice A (P s).length c) w') ∧ Kd.C k39 w A (P s).length (P s) ∧ (P s).length ≤ c := by
  obtain ⟨b, hdr, AZ, cZ, h1, h2, h3, h4, h5, h6⟩ := hI
  refine ⟨b, (blk_cell h1 0).trans rfl, fun s hs => ?_⟩
  have hr := (h6 s hs).1
  obtain ⟨A, c, e⟩ := Kd.R_slice hr
  rw [e] at hr
  refine ⟨A, c, fun w' hb => ?_, (Kd.R_reads' hr).2.2, (Kd.R_reads' hr).2.1⟩
  have h := (h4.below hb).look s hs
  rw [e] at h
  exact h

/-! ### word_Index_Add: function 18 -/
def addW (P : ByteArray → List S39) (n : Int) : Nat → List ByteArray → ByteArray → List S39
  | _, [] => P
  | i, s :: t => addW (updS P s (P s ++ [(⟨n, (i : Int)⟩ : S39)])) n (i + 1) t
theorem addW_append (n : Int) : ∀ (a b : List ByteArray) (P : ByteArray → List S39) (i : Nat), addW P n i (a ++ b) = addW (addW P n i a) n (i + a.length) b
  | [], b, P, i => rfl
  | s :: t, b, P, i => by
    show addW _ n (i + 1) (t ++ b) = _
    rw [addW_append n t b _ (i + 1)]
    show addW _ n (i + 1 + t.length) b = addW _ n (i + (t.length + 1)) b
    rw [show i + 1 + t.length = i + (t.length + 1) by omega]
    rfl
theorem addW_len {n : Int} {s : ByteArray} : ∀ (a : List ByteArray) (P : ByteArray → List S39) (i : Nat), (addW P n i a s).length ≤ (P s).length + a.length
  | [], P, i => by simp [addW]
  | x :: t, P, i => by
    have h := addW_len (n := n) (s := s) t (updS P x (P x ++ [(⟨n, (i : Int)⟩ : S39)])) (i + 1)
    have h2 : (updS P x (P x ++ [(⟨n, (i : Int)⟩ : S39)]) s).length ≤ (P s).length + 1 := by
      unfold updS
      split
      case isTrue e => rw [e]; simp
      case isFalse => omega
    show (addW _ n (i + 1) t s).length ≤ _
    rw [List.length_cons]
    omega
theorem grown_drew (w : World) (r : Option Nat) : w.grownBy w.drew r := ⟨rfl, rfl, rfl, Nat.le_refl _, fun _ _ _ => rfl⟩
/-- A store into the map, behind an append to the key's row. -/
theorem RowsS.turn {m0 : Nat} {w w1 w2 : World} {b : Nat} {hdr : ByteArray → Hdr} {P : ByteArray → List S39} {s : ByteArray} {g1 n1 c1 : Nat} {q : S39} (h : RowsS m0 w hdr P) (hs : s.size ≤ maxLen)
    (ho : Kd.R k39 39 w1 m0 (fun k => ∀ t, t.size ≤ maxLen → t ≠ s → some k ≠ hdrB (hdr t)) (.slice (some ⟨g1, 0, none⟩) n1 c1) (P s ++ [q])) (hg : w.grownBy w1 (hdrB (hdr s))) (hat : some g1 = hdrB (hdr s) ∨ w.heap.size ≤ g1)
    (hg2 : w1.grownBy w2 (some b)) (hb : ∀ cs, w1.heap[b]? ≠ some (.cells cs 39 (0, 0))) : RowsS m0 w2 (updS hdr s (some (g1, n1, c1))) (updS P s (P s ++ [q])) := by
  have h2 : RowsS m0 w1 (updS hdr s (some (g1, n1, c1))) (updS P s (P s ++ [q])) := fun t ht => by
    by_cases e : t = s
    · subst e
      unfold updS
      rw [if_pos rfl, if_pos rfl]
      refine ⟨Kd.R_mono ho (fun k hk y hy hne => ?_), by simp⟩
      rw [if_neg hne]
      exact hk y hy hne
    · unfold updS
      rw [if_neg e, if_neg e]
      refine ⟨?_, (h t ht).2⟩
      have h0 := Kd.R_bound (h t ht).1
      have hown : ∀ k, some k = hdrB (hdr s) → k < w.heap.size := fun k hk => by
        have := (Kd.R_bound (h s hs).1).1 k (by rw [hdrV_own]; exact hk.symm)
        exact this.2.2.1
      refine Kd.R_mono (Kd.R_step h0 (fun k ho2 hl => hg.block k hl (fun e2 => ?_))) (fun k hk y hy hne => ?_)
      · exact ho2.1 s hs (fun e3 => e e3.symm) e2
      · by_cases ey : y = s
        · rw [ey, if_pos rfl]
          intro e2
          have e3 : some k = some g1 := e2
          rcases hat with hat | hat
          · exact hk.1 s hs (fun e4 => e e4.symm) (e3.trans hat)
          · injection e3 with e3
            have := hk.2.2.1
            omega
        · rw [if_neg ey]
          exact hk.1 y hy hne
  exact h2.kept hg2 (fun k e cs hc => by injection e with e; subst e; exact hb cs hc)
theorem map_no39 {w : World} {b N : Nat} {m : ByteArray → Hdr} (h : MapS w b m N) : ∀ (cs : Array Value) (t : TypeId), w.heap[b]? ≠ some (.cells cs t (0, 0)) := fun cs t e => by
  obtain ⟨Dt, ⟨es, ck, hb, -⟩, -⟩ := h
  rw [hb] at e
  simp at e
theorem RowsS.own {m0 : Nat} {w : World} {hdr : ByteArray → Hdr} {P : ByteArray → List S39} (h : RowsS m0 w hdr P) {s : ByteArray} (hs : s.size ≤ maxLen) {k : Nat} (e : some k = hdrB (hdr s)) : m0 ≤ k ∧ k < w.heap.size ∧ ∃ cs, w.heap[k]? = some (.cells cs 39 (0, 0)) := by
  have h0 := (Kd.R_bound (h s hs).1).1 k (by rw [hdrV_own]; exact e.symm)
  obtain ⟨_, a, b, y, hy, cs, hc⟩ := h0
  have e2 : y = 39 := by simpa [k39, Kd.iso, Kd.pair, Kd.int, Kd.scalar] using hy
  subst e2
  exact ⟨a, b, cs, hc⟩
theorem IsIdx.turn {m0 : Nat} {w w1 w2 : World} {gx b N g1 n1 c1 : Nat} {hdr : ByteArray → Hdr} {AZ : Option Addr} {cZ : Nat} {Z : List Int} {P : ByteArray → List S39} {s : ByteArray} {q : S39}
    (h1 : w.heap[gx]? = some (.cells #[.map (some b), .slice AZ Z.length cZ] 57 (0, 0))) (h2 : m0 ≤ gx) (h3 : m0 ≤ b) (h4 : MapS w b hdr N) (h5 : Kd.R (Kd.int .i64) 3 w m0 (fun _ => True) (.slice AZ Z.length cZ) Z) (h6 : RowsS m0 w hdr P) (hs : s.size ≤ maxLen) (hm : m0 ≤ w.heap.size)
    (ho : Kd.R k39 39 w1 m0 (fun k => ∀ t, t.size ≤ maxLen → t ≠ s → some k ≠ hdrB (hdr t)) (.slice (some ⟨g1, 0, none⟩) n1 c1) (P s ++ [q])) (hg : w.grownBy w1 (hdrB (hdr s))) (hat : some g1 = hdrB (hdr s) ∨ w.heap.size ≤ g1)
    (hmb : MapS w2 b (updS hdr s (some (g1, n1, c1))) (N + 1)) (hg2 : w1.grownBy w2 (some b)) :
    IsIdx m0 w2 gx (updS P s (P s ++ [q])) Z (N + 1) ∧ Below m0 w w2 ∧ ∀ (v : Value) (xs : List ByteArray), Kd.string.R 9 w m0 (fun _ => True) v xs → Kd.string.R 9 w2 m0 (fun _ => True) v xs := by
  have hne : ∀ (k : Nat) (t : TypeId) (cs : Array Value), t ≠ 39 → w.heap[k]? = some (.cells cs t (0, 0)) → w2.heap[k]? = w.heap[k]? := fun k t cs ht hk => by
    have e1 : w1.heap[k]? = w.heap[k]? := hg.block k (blk_lt hk) (fun e => by
      obtain ⟨_, _, cs2, hc⟩ := h6.own hs e
      rw [hk] at hc
      injection hc with hc
      injection hc with _ hc _
      exact ht hc)
    have e2 : w2.heap[k]? = w1.heap[k]? := hg2.block k (Nat.lt_of_lt_of_le (blk_lt hk) hg.size) (fun e => by
      injection e with e
      subst e
      exact map_no39 h4 cs t hk)
    exact e2.trans e1
  have hm1 : MapS w1 b hdr N := h4.kept hg (fun e => by
    obtain ⟨_, _, cs, hc⟩ := h6.own hs e
    exact map_no39 h4 cs 39 hc)
  refine ⟨⟨b, _, AZ, cZ, (hne gx 57 _ (by decide) h1).trans h1, h2, h3, hmb, ?_, h6.turn hs ho hg hat hg2 (fun cs => map_no39 hm1 cs 39)⟩, ?_, fun v xs hr => ?_⟩
  · refine Kd.R_mono (Kd.R_move (Kd.R_bound h5) (fun k hk => ?_)) (fun k hk => hk.1)
    obtain ⟨_, _, _, y, hy, cs, hc⟩ := hk
    have e2 : y = 3 := by simpa [Kd.int, Kd.scalar] using hy
    subst e2
    exact hne k 3 cs (by decide) hc
  · exact ((Below.refl m0 w).grown hg hm (fun k hk => (h6.own hs hk.symm).1)).trans ((Below.refl m0 w1).grown hg2 (Nat.le_trans hm hg.size) (fun k hk => by injection hk with hk; subst hk; exact h3))
  · refine Kd.R_mono (Kd.R_move (Kd.R_bound hr) (fun k hk => ?_)) (fun k hk => hk.1)
    obtain ⟨_, _, _, y, hy, cs, hc⟩ := hk
    have e2 : y = 9 := by simpa [Kd.string, Kd.scalar] using hy
    subst e2
    exact hne k 9 cs (by decide) hc
set_option maxHeartbeats 4000000 in
set_option maxRecDepth 100000 in
theorem word_Index_Add.calls (k m0 gx : Nat) (P : ByteArray → List S39) (Z : List Int) (N : Nat) (A : Option Addr) (c : Nat) (l : List Int) (ws : List ByteArray) (w : World) (hI : IsIdx m0 w gx P Z N) (hm : m0 ≤ w.heap.size) (hr : Kd.C (Kd.int .u8) w A l.length l) (hc : l.length ≤ c) (hW : word_Words.f k l = some ws)
    (hl : l.length ≤ 65536) (hz : Z.length < 200) (hws : ws.length ≤ 100000) (hsz : ∀ s ∈ ws, s.size ≤ maxLen) (hP : ∀ s, (P s).length ≤ 100000000) (hN : N ≤ 100000000) :
    Calls Try.prog 18 #[.pointer (some ⟨gx, 0, none⟩), .slice A l.length c] w fun e w' => e = .returned (.tuple #[.int .i64 Z.length, .int .i64 0]) ∧ IsIdx m0 w' gx (addW P Z.length 0 ws) (Z ++ [(ws.length : Int)]) (N + ws.length) ∧ Below m0 w w' := by
  have HI := Aside0.mk hI
  have HM := Aside0.mk hm
  have HR := Aside0.mk hr
  have HC := Aside0.mk hc
  have HW := Aside0.mk hW
  have HSZ := Aside0.mk hsz
  have HP := Aside0.mk hP
  have HWS := Aside0.mk hws
  have HN := Aside0.mk hN
  obtain ⟨b, hdr, AZ, cZ, h1, h2, h3, h4, h5, h6⟩ := hI
  have x1 : w.cell? ⟨gx, 1, none⟩ = some (.slice AZ Z.length cZ) := (blk_cell h1 1).trans rfl
  have t1 : decide ((l.length : Int) > 65536) = false := decide_eq_false (by omega)
  have t2 : ((Z.length : Int) == 200) = false := beq_eq_false_iff_ne.mpr (by omega)
  have HZ := Aside0.mk hz
  clear h1 h2 h3 h4 h5 h6 hm hr hc hW hsz hP hN hl hz hws
  go_enter Try.func18, Try.ntmps18
  go_upto_region 7 with (go_at_call 34; refine (word_Words.calls k A c l ws _ HR.out HC.out HW.out).mono ?_; rintro e w1 ⟨v1, rfl, hR, hb⟩; have HI1 := Aside0.mk (HI.out.below hb); have HB1 := Aside0.mk (hb.mono HM.out); have HV1 := Aside0.mk (Kd.R_lower hR HM.out); have HS1 := Aside0.mk hb.size; obtain ⟨AW, cW, eW⟩ := Kd.R_slice hR; subst eW; clear hR hb)
  clear x1 t1 t2
  go_wp2
  go_loopg [24] ws.length (fun gg s24 wr => ∃ kk : Nat, kk ≤ ws.length ∧ ws.length - kk ≤ gg ∧ s24 = .int .i64 kk ∧ Aside0 (IsIdx m0 wr gx (addW P Z.length 0 (ws.take kk)) Z (N + kk)) ∧ Aside0 (Kd.string.R 9 wr m0 (fun _ => True) (.slice AW ws.length cW) ws) ∧ Aside0 (Below m0 w wr))
  case atStart => exact ⟨0, Nat.zero_le _, by omega, rfl, HI1, HV1, HB1⟩
  case round =>
    obtain ⟨kk, hkk, hg, rfl, HI2, HV2, HB2⟩ := hrel
    by_cases hlt : kk < ws.length
    · have hltz : (kk : Int) < (ws.length : Int) := by omega
      have h0 : (0 : Int) ≤ (kk : Int) := by omega
      obtain ⟨ad, e0, hx0⟩ := Kd.at_string (Kd.R_reads' HV2.out).2.2 (kk : Int) h0 hltz
      cases e0
      have hrd : rdOf ByteArray.empty ws (kk : Int) = ws[kk] := by unfold rdOf; rw [Int.toNat_natCast, List.getD_eq_getElem?_getD, List.getElem?_eq_getElem hlt]; rfl
      have hsm : (rdOf ByteArray.empty ws (kk : Int)).size ≤ maxLen := by rw [hrd]; exact HSZ.out _ (List.getElem_mem hlt)
      have hstep : addW P Z.length 0 (ws.take (kk + 1)) = updS (addW P Z.length 0 (ws.take kk)) (rdOf ByteArray.empty ws (kk : Int)) (addW P Z.length 0 (ws.take kk) (rdOf ByteArray.empty ws (kk : Int)) ++ [(⟨(Z.length : Int), (kk : Int)⟩ : S39)]) := by
        rw [List.take_add_one, List.getElem?_eq_getElem hlt, addW_append, hrd]
        show updS _ _ _ = _
        rw [List.length_take, Nat.min_eq_left (by omega), Nat.zero_add]
      have HST := Aside0.mk hstep
      clear hrd hstep
      generalize rdOf ByteArray.empty ws (kk : Int) = s at *
      rw [show ((kk : Int)).toNat = kk from Int.toNat_natCast kk] at hx0
      have hpl : (addW P Z.length 0 (ws.take kk) s).length ≤ 100100000 := by
        have h := addW_len (n := (Z.length : Int)) (s := s) (ws.take kk) P 0
        rw [List.length_take] at h
        have := HP.out s
        have := HWS.out
        omega
      generalize addW P Z.length 0 (ws.take kk) = Pk at *
      obtain ⟨b, hdr, AZ, cZ, h1, h2, h3, h4, h5, h6⟩ := HI2.out
      have x0 : wr.cell? ⟨gx, 0, none⟩ = some (.map (some b)) := (blk_cell h1 0).trans rfl
      have x0b : (wr.alloc (.cells #[.int .i64 (Z.length : Int), .int .i64 (kk : Int)] 39)).cell? ⟨gx, 0, none⟩ = some (.map (some b)) := ((below_alloc (Below.refl wr.heap.size wr) _).cell (World.block_lt_of_cell? wr _ x0)).trans x0
      have l1 : (Instr.lookup 55 (.map (some b)) (.string s) false).run Try.prog wr = .ok (hdrV (hdr s)) wr := h4.look s hsm
      have l2 : (Instr.lookup 55 (.map (some b)) (.string s) false).run Try.prog wr.drew = .ok (hdrV (hdr s)) wr.drew := (show MapS wr.drew b hdr (N + kk) from h4).look s hsm
      have l3 : (Instr.lookup 55 (.map (some b)) (.string s) false).run Try.prog ((wr.alloc (.cells #[.int .i64 (Z.length : Int), .int .i64 (kk : Int)] 39)).drew) = .ok (hdrV (hdr s)) ((wr.alloc (.cells #[.int .i64 (Z.length : Int), .int .i64 (kk : Int)] 39)).drew) := (show MapS ((wr.alloc (.cells #[.int .i64 (Z.length : Int), .int .i64 (kk : Int)] 39)).drew) b hdr (N + kk) from h4.below (below_drew1 (below_alloc (Below.refl _ _) _))).look s hsm
      have H1 := Aside0.mk h1
      have H2 := Aside0.mk h2
      have H3 := Aside0.mk h3
      have H4 := Aside0.mk h4
      have H5 := Aside0.mk h5
      have H6 := Aside0.mk h6
      have HSM := Aside0.mk hsm
      have HPL := Aside0.mk hpl
      have HNB : Aside0 (∀ q, some q = hdrB (hdr s) → q ≠ gx ∧ q ≠ b) := ⟨fun q e => by
        have h := (Kd.R_bound (h6 s hsm).1).1 q (by rw [hdrV_own]; exact e.symm)
        obtain ⟨_, _, _, y, hy, cs, hc⟩ := h
        have e2 : y = 39 := by simpa [k39, Kd.iso, Kd.pair, Kd.int, Kd.scalar] using hy
        subst e2
        refine ⟨fun e3 => ?_, fun e3 => ?_⟩
        · rw [e3, h1] at hc; simp at hc
        · obtain ⟨Dt, ⟨es, ck, hb, -⟩, -⟩ := h4
          rw [e3, hb] at hc
          simp at hc⟩
      have XA : Aside0 (∀ wa, wr.grownBy wa (hdrB (hdr s)) → wa.cell? ⟨gx, 0, none⟩ = some (.map (some b))) := ⟨fun wa hg => (blk_cell ((hg.block gx (blk_lt h1) (fun e => (HNB.out gx e).1 rfl)).trans h1) 0).trans rfl⟩
      have MA : Aside0 (∀ wa, wr.grownBy wa (hdrB (hdr s)) → MapS wa b hdr (N + kk)) := ⟨fun wa hg => h4.kept hg (fun e => (HNB.out b e).2 rfl)⟩
      clear h1 h2 h3 h4 h5 h6 hsm hpl
      go_upto_region 10 with (fail)
      have HFR : Aside0 (∀ k, wr.heap.size ≤ k → ∀ t, t.size ≤ maxLen → t ≠ s → some k ≠ hdrB (hdr t)) := ⟨fun k hk t ht _ e => by
        have h := (Kd.R_bound (H6.out t ht).1).1 k (by rw [hdrV_own]; exact e.symm)
        have := h.2.2.1
        omega⟩
      have HRO : Aside0 (Kd.R k39 39 wr.drew m0 (fun k => ∀ t, t.size ≤ maxLen → t ≠ s → some k ≠ hdrB (hdr t)) (hdrV (hdr s)) (Pk s)) := ⟨Kd.R_below (H6.out s HSM.out).1 (below_drew1 (Below.refl _ _))⟩
      have HMB : Aside0 (m0 ≤ wr.heap.size) := ⟨Nat.le_trans HM.out HB2.out.size⟩
      have HK1 : Aside0 (wrap64 ((kk : Int) + 1) = ((kk + 1 : Nat) : Int)) := ⟨by have := HWS.out; unfold wrap64; omega⟩
      have HNN : Aside0 (N + kk < maxLen) := ⟨by have := HN.out; have := HWS.out; unfold maxLen; omega⟩
      have HLL : Aside0 (((Pk s).length + 1) * 16 ≤ 140737488355328) := ⟨by have := HPL.out; omega⟩
      go_region_law (first | (refine Kd.R_append_step k39 (w0 := wr) (W := wr.drew) m0 rfl (.tmp 39) (.tmp 43) 33 39 (.agg #[(.int .i64 0), (.int .i64 0)]) 16 rfl Try.underlying33 info39 rfl (by decide) (by omega) (hdrV (hdr s)) (Pk s) (⟨(Z.length : Int), (kk : Int)⟩ : S39) [.int .i64 (Z.length : Int), .int .i64 (kk : Int)] (fun k => ∀ t, t.size ≤ maxLen → t ≠ s → some k ≠ hdrB (hdr t)) (fun _ => False) rfl rfl (k39_mkM _ _ _ _) (fun _ hk => hk.elim) (fun k hk => HFR.out k hk) HRO.out (below_drew1 (Below.refl _ _)) HMB.out HLL.out ?_; intro v1 wa ho hb hg hat; rw [hdrV_own] at hg hat; have hga : wr.grownBy wa (hdrB (hdr s)) := (grown_drew wr _).trans hg; obtain ⟨g1, c1, e1, -, -, -⟩ := Kd.R_form ho (by simp); subst e1; generalize (Pk s ++ [(⟨(Z.length : Int), (kk : Int)⟩ : S39)]).length = n1 at ho ⊢; have hta : some g1 = hdrB (hdr s) ∨ wr.heap.size ≤ g1 := hat.elim .inl (fun ⟨y, e, hy⟩ => .inr (Nat.le_trans hy (Nat.le_of_eq (Option.some.inj e).symm))); have xa : wa.cell? ⟨gx, 0, none⟩ = some (.map (some b)) := XA.out wa hga; have hma : MapS wa b hdr (N + kk) := MA.out wa hga; obtain ⟨wb, hput, hmb, hgb⟩ := hma.put HNN.out s (g1, n1, c1) HSM.out; have hput2 : (Instr.mapUpdate 55 (.map (some b)) (.string s) (.slice (some ⟨g1, 0, none⟩) n1 c1)).run Try.prog wa = .ok () wb := hput))
      all_goals
        obtain ⟨q1, q2, q3⟩ := IsIdx.turn H1.out H2.out H3.out H4.out H5.out H6.out HSM.out HMB.out ho hga hta hmb hgb
        rw [← HST.out] at q1
        have Q1 := Aside0.mk q1
        have Q2 := Aside0.mk (HB2.out.trans q2)
        have Q3 := Aside0.mk (q3 _ _ HV2.out)
        clear q1 q2 q3 ho hga hta hmb hgb hput hput2 xa hma x0 x0b l1 l2 l3 hg hat
        go_wp2
        go_roundg (ws.length - (kk + 1))
        case measure => omega
        case rel => exact ⟨kk + 1, by omega, by omega, by rw [HK1.out], Q1, Q3, Q2⟩
    · have hltz : ¬ (kk : Int) < (ws.length : Int) := by omega
      have hk : kk = ws.length := by omega
      subst hk
      have HI3 : Aside0 (IsIdx m0 wr gx (addW P Z.length 0 ws) Z (N + ws.length)) := ⟨by have h := HI2.out; rwa [List.take_length] at h⟩
      obtain ⟨b, hdr, AZ, cZ, h1, h2, h3, h4, h5, h6⟩ := HI3.out
      have H1 := Aside0.mk h1
      have H2 := Aside0.mk h2
      have H3 := Aside0.mk h3
      have H4 := Aside0.mk h4
      have H5 := Aside0.mk h5
      have H6 := Aside0.mk h6
      have x1 : wr.cell? ⟨gx, 1, none⟩ = some (.slice AZ Z.length cZ) := (blk_cell h1 1).trans rfl
      have HMB : Aside0 (m0 ≤ wr.heap.size) := ⟨Nat.le_trans HM.out HB2.out.size⟩
      have HLL : Aside0 ((Z.length + 1) * 8 ≤ 140737488355328) := ⟨by have := HZ.out; omega⟩
      have hlen : (Z ++ [(ws.length : Int)]).length = Z.length + 1 := by simp
      have HLN := Aside0.mk hlen
      have F1 : Aside0 (∀ wa, wr.grownBy wa (Value.slice AZ Z.length cZ).ownBlock → wa.heap[gx]? = some (.cells #[.map (some b), .slice AZ Z.length cZ] 57 (0, 0)) ∧ MapS wa b hdr (N + ws.length) ∧ RowsS m0 wa hdr (addW P Z.length 0 ws)) := ⟨fun wa hg => by
        have hb : ∀ k, some k = (Value.slice AZ Z.length cZ).ownBlock → m0 ≤ k ∧ ∃ cs, wr.heap[k]? = some (.cells cs 3 (0, 0)) := fun k e => by
          obtain ⟨_, a, _, y, hy, cs, hc⟩ := (Kd.R_bound H5.out).1 k e.symm
          have e2 : y = 3 := by simpa [Kd.int, Kd.scalar] using hy
          subst e2
          exact ⟨a, cs, hc⟩
        refine ⟨(hg.block gx (blk_lt H1.out) (fun e => ?_)).trans H1.out, H4.out.kept hg (fun e => ?_), H6.out.kept hg (fun k e cs hc => ?_)⟩
        · obtain ⟨_, cs, hc⟩ := hb gx e
          rw [H1.out] at hc
          simp at hc
        · obtain ⟨_, cs, hc⟩ := hb b e
          exact map_no39 H4.out cs 3 hc
        · obtain ⟨_, cs2, hc2⟩ := hb k e
          rw [hc] at hc2
          simp at hc2⟩
      have F2 : Aside0 (∀ k, (Value.slice AZ Z.length cZ).ownBlock = some k → m0 ≤ k) := ⟨fun k e => ((Kd.R_bound H5.out).1 k e).2.1⟩
      clear h1 h2 h3 h4 h5 h6 hlen
      go_upto_region 12 with (fail)
      go_wp2_with (first | ((with_reducible refine gate_builtin (b := .append) (xs := #[.tmp 50, .tmp 53]) rfl ?_); at_builtin; refine Kd.R_append (Kd.int .i64) (w0 := wr) (W := wr) m0 rfl (.tmp 50) (.tmp 53) 23 3 (.int .i64 0) 8 rfl Try.underlying23 info3 rfl (by decide) (by omega) (.slice AZ Z.length cZ) Z (ws.length : Int) [.int .i64 (ws.length : Int)] (fun _ => True) (fun _ => False) rfl rfl rfl (fun _ hk => hk.elim) (fun _ _ => trivial) H5.out (Below.refl _ _) HMB.out HLL.out ?_; intro v1 wa ho hb hg hat; obtain ⟨A1, c1, e1⟩ := Kd.R_slice ho; subst e1; generalize hnz : (Z ++ [(ws.length : Int)]).length = nz at ho ⊢; have HNZ := Aside0.mk hnz; clear hnz; obtain ⟨f1, f2, f3⟩ := F1.out wa hg; have xa := blk_cell f1 1; have xf := blk_frozen f1 1; have G1 := Aside0.mk f1; have G2 := Aside0.mk f2; have G3 := Aside0.mk f3; have G4 := Aside0.mk ho; have G5 := Aside0.mk hg; clear f1 f2 f3 ho hg hb hat))
      go_ret2
      have hgs := grown_set wa gx 1 (.slice A1 nz c1)
      have e0 : (wa.setCell ⟨gx, 1, none⟩ (.slice A1 nz c1)).heap[gx]? = some (.cells #[.map (some b), .slice A1 nz c1] 57 (0, 0)) := blk_put G1.out 1 _ rfl
      have r0 : Kd.R (Kd.int .i64) 3 (wa.setCell ⟨gx, 1, none⟩ (.slice A1 nz c1)) m0 (fun _ => True) (.slice A1 nz c1) (Z ++ [(ws.length : Int)]) := by
        refine Kd.R_mono (Kd.R_move (Kd.R_bound G4.out) (fun k hk => ?_)) (fun k hk => hk.1)
        obtain ⟨_, _, hl, y, hy, cs, hc⟩ := hk
        have e2 : y = 3 := by simpa [Kd.int, Kd.scalar] using hy
        subst e2
        exact hgs.block k hl (fun e => by
          injection e with e
          subst e
          have := G1.out
          rw [hc] at this
          simp at this)
      have m1 : MapS (wa.setCell ⟨gx, 1, none⟩ (.slice A1 nz c1)) b hdr (N + ws.length) := G2.out.kept hgs (fun e => by
        injection e with e
        subst e
        exact map_no39 G2.out _ 57 G1.out)
      have w3 : RowsS m0 (wa.setCell ⟨gx, 1, none⟩ (.slice A1 nz c1)) hdr (addW P Z.length 0 ws) := G3.out.kept hgs (fun k e cs hc => by
        injection e with e
        subst e
        have := G1.out
        rw [hc] at this
        simp at this)
      refine ⟨rfl, ⟨b, hdr, A1, c1, by rw [HNZ.out]; exact e0, H2.out, H3.out, m1, by rw [HNZ.out]; exact r0, w3⟩, ?_⟩
      exact (HB2.out.trans ((Below.refl m0 wr).grown G5.out HMB.out (fun k hk => F2.out k hk))).trans (Below.setCell (Below.refl m0 wa) (p := ⟨gx, 1, none⟩) H2.out _)

/-! ### word_New: function 5 -/
/-- The places behind some texts (each as its words), and how many words they have. -/
def idxP : (ByteArray → List S39) → Nat → List (List ByteArray) → ByteArray → List S39
  | P, _, [] => P
  | P, n, ws :: t => idxP (addW P n 0 ws) (n + 1) t
def idxZ (wss : List (List ByteArray)) : List Int := wss.map fun ws => (ws.length : Int)
def idxN : List (List ByteArray) → Nat
  | [] => 0
  | ws :: t => ws.length + idxN t
theorem idxP_snoc (ws : List ByteArray) : ∀ (wss : List (List ByteArray)) (P : ByteArray → List S39) (n : Nat), idxP P n (wss ++ [ws]) = addW (idxP P n wss) ((n + wss.length : Nat) : Int) 0 ws
  | [], P, n => rfl
  | x :: t, P, n => by
    show idxP (addW P n 0 x) (n + 1) (t ++ [ws]) = _
    rw [idxP_snoc ws t _ (n + 1), List.length_cons, show n + 1 + t.length = n + (t.length + 1) by omega]
    rfl
theorem idxN_snoc (ws : List ByteArray) : ∀ wss : List (List ByteArray), idxN (wss ++ [ws]) = idxN wss + ws.length
  | [] => by simp [idxN]
  | x :: t => by
    show x.length + idxN (t ++ [ws]) = x.length + idxN t + ws.length
    rw [idxN_snoc ws t]
    omega
theorem idxP_len (s : ByteArray) : ∀ (wss : List (List ByteArray)) (P : ByteArray → List S39) (n : Nat), (idxP P n wss s).length ≤ (P s).length + idxN wss
  | [], P, n => by simp [idxP]
  | x :: t, P, n => by
    have h := idxP_len s t (addW P n 0 x) (n + 1)
    have h2 := addW_len (n := (n : Int)) (s := s) x P 0
    show (idxP (addW P n 0 x) (n + 1) t s).length ≤ (P s).length + (x.length + idxN t)
    omega
theorem idxN_le {wss : List (List ByteArray)} {m : Nat} (h : ∀ ws ∈ wss, ws.length ≤ m) : idxN wss ≤ wss.length * m := by
  induction wss with
  | nil => simp [idxN]
  | cons x t ih =>
    have h1 := h x List.mem_cons_self
    have h2 := ih (fun ws hw => h ws (List.mem_cons_of_mem _ hw))
    show x.length + idxN t ≤ (t.length + 1) * m
    rw [Nat.add_mul, Nat.one_mul]
    omega
/-- What the words of the texts are. -/
def WordsOf (k : Nat) (l : List (List Int)) (wss : List (List ByteArray)) : Prop := l.length ≤ 100 ∧ wss.length = l.length ∧ (∀ i, i < l.length → word_Words.f k (l.getD i []) = some (wss.getD i []) ∧ (l.getD i []).length ≤ 65536) ∧ ∀ ws ∈ wss, ws.length ≤ 1000 ∧ ∀ s ∈ ws, s.size ≤ maxLen
theorem WordsOf.sum {k : Nat} {l : List (List Int)} {wss : List (List ByteArray)} (h : WordsOf k l wss) (j : Nat) : idxN (wss.take j) ≤ 100000 := by
  have h1 := idxN_le (wss := wss.take j) (m := 1000) (fun ws hw => (h.2.2.2 ws (List.mem_of_mem_take hw)).1)
  have h2 : (wss.take j).length ≤ 100 := by rw [List.length_take]; have := h.1; have := h.2.1; omega
  have : (wss.take j).length * 1000 ≤ 100 * 1000 := Nat.mul_le_mul_right _ h2
  omega
set_option maxHeartbeats 4000000 in
set_option maxRecDepth 100000 in
theorem word_New.calls (k : Nat) (A : Option Addr) (c : Nat) (l : List (List Int)) (wss : List (List ByteArray)) (w : World) (hr : Kd.C (Kd.slice 5 (Kd.int .u8)) w A l.length l) (hc : l.length ≤ c) (hW : WordsOf k l wss) :
    Calls Try.prog 5 #[.slice A l.length c] w fun e w' => ∃ gx, e = .returned (.tuple #[.pointer (some ⟨gx, 0, none⟩), .int .i64 0]) ∧ IsIdx w.heap.size w' gx (idxP (fun _ => []) 0 wss) (idxZ wss) (idxN wss) ∧ Below w.heap.size w w' := by
  have HR := Aside0.mk hr
  have HC := Aside0.mk hc
  have HW := Aside0.mk hW
  have HL := Aside0.mk hW.1
  clear hr hc hW
  have hmm := @run_makeMap Try.prog
  go_enter Try.func5, Try.ntmps5
  go_upto_region 2 with (first | ((with_reducible refine gate_dst (N := 11) rfl ?_); refine box_event ?hg (N := 11) ?hd (cs := #[.map (some w.heap.size), .slice none 0 0]) (t := 57) ?hr ?_; (case hd => rfl); (case hg => rfl); (case hr => first | (go_simp; done) | (go_simp; rfl)); intro g1 hg W1 hbox hb; have BK1 := Aside0.mk hbox; have HB1 := Aside0.mk hb; have HG1 := Aside0.mk hg; clear hb hbox hg))
  have HI0 : Aside0 (IsIdx w.heap.size W1 g1 (fun _ => []) [] 0) := ⟨by
    refine ⟨w.heap.size, fun _ => none, none, 0, BK1.out, ?_, Nat.le_refl _, (MapS.made w).below HB1.out, Kd.R_nil _ _ _ _ _, fun s _ => ⟨Kd.R_nil _ _ _ _ _, by simp⟩⟩
    rw [HG1.out]
    simp⟩
  have HB2 : Aside0 (Below w.heap.size w W1) := ⟨below_step (below_alloc (Below.refl _ _) _) HB1.out⟩
  clear hmm BK1 HB1 HG1
  go_wp2
  go_loopg [14] l.length (fun gg s14 wr => ∃ kk : Nat, kk ≤ l.length ∧ l.length - kk ≤ gg ∧ s14 = .int .i64 kk ∧ Aside0 (IsIdx w.heap.size wr g1 (idxP (fun _ => []) 0 (wss.take kk)) (idxZ (wss.take kk)) (idxN (wss.take kk))) ∧ Aside0 (Below w.heap.size w wr))
  case atStart => exact ⟨0, Nat.zero_le _, by omega, rfl, HI0, HB2⟩
  case round =>
    obtain ⟨kk, hkk, hg, rfl, HI2, HB3⟩ := hrel
    by_cases hlt : kk < l.length
    · have hltz : (kk : Int) < (l.length : Int) := by omega
      have h0 : (0 : Int) ≤ (kk : Int) := by omega
      obtain ⟨ad, cs, e0, hcl1, ⟨A2, c2, rfl, hl2, hC2⟩, hcell⟩ := ReadsRow.get_ HR.out [] (kk : Int) h0 hltz
      cases e0
      have hx0 := hcell 0 _ rfl
      rw [show ((kk : Int)).toNat = kk from Int.toNat_natCast kk, Nat.add_zero, show (Kd.slice 5 (Kd.int .u8)).sz = 1 from rfl, Nat.mul_one] at hx0
      rw [show ((kk : Int)).toNat = kk from Int.toNat_natCast kk] at hl2 hC2
      clear hcell hcl1
      replace hx0 := (HB3.out.cell (World.block_lt_of_cell? w _ hx0)).trans hx0
      obtain ⟨w1, w2, w3, w4⟩ := HW.out
      have hkw : kk < wss.length := by rw [w2]; exact hlt
      have hgd : wss.getD kk [] = wss[kk] := by rw [List.getD_eq_getElem?_getD, List.getElem?_eq_getElem hkw]; rfl
      obtain ⟨w5, w6⟩ := w3 kk hlt
      have w7 := w4 _ (List.getElem_mem hkw)
      rw [hgd] at w5
      have hsn : wss.take (kk + 1) = wss.take kk ++ [wss[kk]] := by rw [List.take_add_one, List.getElem?_eq_getElem hkw]; rfl
      have htl : (wss.take kk).length = kk := by rw [List.length_take]; omega
      have e1 : idxP (fun _ => []) 0 (wss.take (kk + 1)) = addW (idxP (fun _ => []) 0 (wss.take kk)) ((idxZ (wss.take kk)).length : Int) 0 wss[kk] := by
        rw [hsn, idxP_snoc]
        unfold idxZ
        rw [List.length_map, Nat.zero_add]
      have e2 : idxZ (wss.take (kk + 1)) = idxZ (wss.take kk) ++ [((wss[kk]).length : Int)] := by rw [hsn]; unfold idxZ; rw [List.map_append]; rfl
      have e3 : idxN (wss.take (kk + 1)) = idxN (wss.take kk) + (wss[kk]).length := by rw [hsn, idxN_snoc]
      have hsum := HW.out.sum kk
      have hPl : ∀ s, (idxP (fun _ => []) 0 (wss.take kk) s).length ≤ 100000000 := fun s => by
        have h := idxP_len s (wss.take kk) (fun _ => []) 0
        simp only [List.length_nil] at h
        omega
      have hZl : (idxZ (wss.take kk)).length < 200 := by unfold idxZ; rw [List.length_map, htl]; omega
      have hcall := word_Index_Add.calls k w.heap.size g1 (idxP (fun _ => []) 0 (wss.take kk)) (idxZ (wss.take kk)) (idxN (wss.take kk)) A2 c2 (l.getD kk []) wss[kk] wr HI2.out HB3.out.size (Kd.C_below hC2 HB3.out) hl2 w5 w6 hZl (by omega) w7.2 hPl (by omega)
      rw [← e1, ← e2, ← e3] at hcall
      have HK1 : Aside0 (wrap64 ((kk : Int) + 1) = ((kk + 1 : Nat) : Int)) := ⟨by have := HL.out; unfold wrap64; omega⟩
      clear e1 e2 e3 hsn htl w1 w2 w3 w4 w5 w6 w7 hgd hl2 hC2 hPl hZl hsum
      obtain ⟨nz, hnz⟩ : ∃ n, (idxZ (wss.take kk)).length = n := ⟨_, rfl⟩
      rw [hnz] at hcall
      clear hnz
      generalize l.getD kk [] = xl at hx0 hcall
      go_wp2_with (go_at_call 18; refine hcall.mono ?_; rintro e w2 ⟨rfl, hi, hb⟩; have HI4 := Aside0.mk hi; have HB4 := Aside0.mk (HB3.out.trans hb); clear hi hb)
      go_roundg (l.length - (kk + 1))
      case measure => omega
      case rel => exact ⟨kk + 1, by omega, by omega, by rw [HK1.out], HI4, HB4⟩
    · have hltz : ¬ (kk : Int) < (l.length : Int) := by omega
      have hk : kk = l.length := by omega
      subst hk
      have HI3 : Aside0 (IsIdx w.heap.size wr g1 (idxP (fun _ => []) 0 wss) (idxZ wss) (idxN wss)) := ⟨by have h := HI2.out; rwa [List.take_of_length_le (by rw [HW.out.2.1]; exact Nat.le_refl _)] at h⟩
      go_wp2
      go_ret2
      exact ⟨g1, rfl, HI3.out, HB3.out⟩

/-! ### wrackmake_Below: function 8 -/
def wrackmake_Below.f (a0 : Int) (a1 : Int) : Option (Int) := if a1 = 0 then (none) else (if (Int.tmod a0 a1) < 0 then (some (wrap64 ((Int.tmod a0 a1) + a1))) else (some (Int.tmod a0 a1)))
set_option maxHeartbeats 8000000 in
set_option maxRecDepth 100000 in
theorem wrackmake_Below.calls (a0 : Int) (a1 : Int) (r : Int) (w : World) (h : wrackmake_Below.f a0 a1 = some r) :
    Calls Try.prog 8 #[.int .i64 a0, .int .i64 a1] w fun e w' => e = .returned (.int .i64 r) ∧ Drawn0 w w' := by
  have H : (if a1 = 0 then (none) else (if (Int.tmod a0 a1) < 0 then (some (wrap64 ((Int.tmod a0 a1) + a1))) else (some (Int.tmod a0 a1)))) = some r := h
  clear h
  by_cases c3 : a1 = 0
  · rw [if_pos c3] at H
    exact absurd H (by simp)
  · rw [if_neg c3] at H
    have c3b0 : (a1 == 0) = false := beq_eq_false_iff_ne.mpr c3
    have c3b1 : (a1 != 0) = true := bne_iff_ne.mpr c3
    by_cases c4 : (Int.tmod a0 a1) < 0
    · rw [if_pos c4] at H
      have c4b0 : decide ((Int.tmod a0 a1) < 0) = true := decide_eq_true c4
      clear c4
      obtain rfl := Option.some.inj H
      go_enter Try.func8, Try.ntmps8
      go_wp2
      go_ret
      exact ⟨by first | rfl | (simp; done) | (simp [*]; done), by repeat (first | exact Drawn0.refl _ | apply Drawn0.step)⟩
    · rw [if_neg c4] at H
      have c4b0 : decide ((Int.tmod a0 a1) < 0) = false := decide_eq_false c4
      clear c4
      obtain rfl := Option.some.inj H
      go_enter Try.func8, Try.ntmps8
      go_wp2
      go_ret
      exact ⟨by first | rfl | (simp; done) | (simp [*]; done), by repeat (first | exact Drawn0.refl _ | apply Drawn0.step)⟩

/-! ### wrackkeep3_texts: function 6 -/
/-- the texts' pieces -/
def pcs : List (List Int) := [[84, 105, 100, 101, 32], [119, 114, 101, 99, 107, 44, 32], [87, 82, 69, 67, 75, 46, 32], [55, 32], [116, 105, 100, 101, 45], [115, 97, 105, 108, 10]]
def txt (x : List Int) : List Int := (x.take 30).flatMap fun n => pcs.getD (n % 6).toNat []
def txts (l : List (List Int)) : List (List Int) := (l.take 6).map txt
def pcS : List ByteArray := [⟨#[84, 105, 100, 101, 32]⟩, ⟨#[119, 114, 101, 99, 107, 44, 32]⟩, ⟨#[87, 82, 69, 67, 75, 46, 32]⟩, ⟨#[55, 32]⟩, ⟨#[116, 105, 100, 101, 45]⟩, ⟨#[115, 97, 105, 108, 10]⟩]
theorem pcS_bytes (j : Nat) (h : j < 6) : bytesOf (rdOf ByteArray.empty pcS (j : Int)) = pcs.getD j [] ∧ (pcs.getD j []).length ≤ 7 ∧ rdOf ByteArray.empty pcS (j : Int) = pcS.getD j ByteArray.empty := by
  have hh : ∀ i : Fin 6, bytesOf (rdOf ByteArray.empty pcS (i.val : Int)) = pcs.getD i.val [] ∧ (pcs.getD i.val []).length ≤ 7 := by decide +kernel
  exact ⟨(hh ⟨j, h⟩).1, (hh ⟨j, h⟩).2, by unfold rdOf; rw [Int.toNat_natCast]⟩
theorem below_emod {x n : Int} (hn : 0 < n) (hn2 : n ≤ 1000000) : wrackmake_Below.f x n = some (x % n) := by
  have h4 := Int.emod_nonneg x (show n ≠ 0 by omega)
  have h5 := Int.emod_lt_of_pos x hn
  have h6 : (n.natAbs : Int) = n := by omega
  unfold wrackmake_Below.f
  rw [if_neg (by omega), Int.tmod_eq_emod]
  by_cases hc : 0 ≤ x ∨ n ∣ x
  · rw [if_pos hc, if_neg (by omega)]; congr 1; omega
  · rw [if_neg hc, h6]
    by_cases h7 : x % n - n < 0
    · rw [if_pos h7]; congr 1; unfold wrap64; omega
    · omega
theorem own_u8 {w : World} {base : Nat} {v : Value} {xs : List Int} (h : Kd.R (Kd.int .u8) 5 w base (fun _ => True) v xs) : w.ownsRow base 5 1 v xs.length (nums .u8 xs) := by
  have h2 := Kd.own_of_R (show (Kd.scalar (Value.int .u8) (fun _ => rfl)).R 5 w base (fun _ => True) v xs from h)
  exact h2
theorem R_u8 {w : World} {base : Nat} {v : Value} {xs : List Int} (h : w.ownsRow base 5 1 v xs.length (nums .u8 xs)) : Kd.R (Kd.int .u8) 5 w base (fun _ => True) v xs :=
  show (Kd.scalar (Value.int .u8) (fun _ => rfl)).R 5 w base (fun _ => True) v xs from Kd.R_of_own h (fun _ _ => trivial)
theorem info46w : (Try.prog.info? 46).map (fun i => (i.zero, i.size, i.bytes)) = some (some (.slice none 0 0), 1, 24) := by kernel_rfl
theorem litS6 (W : World) : Kd.C Kd.string (W.alloc (.cells (pcS.map Value.string).toArray 9)) (some ⟨W.heap.size, 0, none⟩) 6 pcS :=
  (Kd.R_reads' (Kd.R_of_own (enc := Value.string) (h1 := fun _ => rfl) (ok := fun _ => True) (base := 0) (xs := pcS) (own_lit_of W 0 9 pcS (Nat.zero_le _) (by simp [pcS])) (fun _ _ => trivial))).2.2
set_option maxHeartbeats 4000000 in
set_option maxRecDepth 100000 in
theorem wrackkeep3_texts.calls (A : Option Addr) (c : Nat) (l : List (List Int)) (w : World) (hr : Kd.C (Kd.slice 3 (Kd.int .i64)) w A l.length l) (hc : l.length ≤ c) :
    Calls Try.prog 6 #[.slice A l.length c] w fun e w' => ∃ v : Value, e = .returned v ∧ Kd.R (Kd.slice 5 (Kd.int .u8)) 46 w' w.heap.size (fun _ => True) v (txts l) ∧ Below w.heap.size w w' := by
  obtain ⟨n6, hn6⟩ : ∃ n, min l.length 6 = n := ⟨_, rfl⟩
  have hm6 : (if (6 : Int) < (l.length : Int) then (6 : Int) else (l.length : Int)) = (n6 : Int) := by split <;> omega
  have hm6m : min (l.length : Int) 6 = (n6 : Int) := by omega
  have hm6a : (0 : Int) ≤ (n6 : Int) := by omega
  have hm6b : (n6 : Int) ≤ (l.length : Int) := by omega
  have HR := Aside0.mk hr
  have HC := Aside0.mk hc
  have HT : Aside0 (l.take 6 = l.take n6) := ⟨by rw [← hn6, Nat.min_comm, ← List.take_take, List.take_of_length_le (Nat.le_refl l.length)]⟩
  have hcc : ((l.length : Int)) ≤ (c : Int) := by omega
  have hcd : (n6 : Int) ≤ (c : Int) := by omega
  have hbig : l.length ≤ 9223372036854775807 := hr.2.1
  have hn6b : n6 ≤ 6 := by omega
  clear hr hc hn6
  go_enter Try.func6, Try.ntmps6
  go_wp2
  go_loopg [3, 15] n6 (fun gg v3 s15 wr => ∃ (kk : Nat) (A3 : Option Addr) (c3 n3 : Nat), kk ≤ n6 ∧ n6 - kk ≤ gg ∧ v3 = .slice A3 n3 c3 ∧ s15 = .int .i64 kk ∧ Aside0 (Kd.R (Kd.slice 5 (Kd.int .u8)) 46 wr w.heap.size (fun _ => True) (.slice A3 n3 c3) ((l.take kk).map txt)) ∧ Aside0 (Below w.heap.size w wr))
  case atStart => exact ⟨0, none, 0, 0, Nat.zero_le _, by omega, rfl, rfl, ⟨Kd.R_nil _ _ _ _ _⟩, ⟨Below.refl _ _⟩⟩
  case round =>
    obtain ⟨kk, A3, c3, n3, hkk, hg, rfl, rfl, HO3, HB3⟩ := hrel
    by_cases hlt : kk < n6
    · have hltz : (kk : Int) < (n6 : Int) := by omega
      have hltl : (kk : Int) < (l.length : Int) := by omega
      have h0 : (0 : Int) ≤ (kk : Int) := by omega
      have hkl : kk < l.length := by omega
      obtain ⟨ad, cs, e0, hcl1, ⟨A2, c2, rfl, hl2, hC2⟩, hcell⟩ := ReadsRow.get_ HR.out [] (kk : Int) h0 hltl
      cases e0
      have hx0 := hcell 0 _ rfl
      rw [show ((kk : Int)).toNat = kk from Int.toNat_natCast kk, Nat.add_zero, show (Kd.slice 3 (Kd.int .i64)).sz = 1 from rfl, Nat.mul_one] at hx0
      have hrd : l.getD kk [] = l[kk] := by rw [List.getD_eq_getElem?_getD, List.getElem?_eq_getElem hkl]; rfl
      rw [show ((kk : Int)).toNat = kk from Int.toNat_natCast kk, hrd] at hl2 hC2
      rw [hrd] at hx0
      clear hcell hcl1 hrd
      have HST : Aside0 ((l.take (kk + 1)).map txt = (l.take kk).map txt ++ [txt l[kk]]) := ⟨by rw [List.take_add_one, List.getElem?_eq_getElem hkl, List.map_append]; rfl⟩
      generalize l[kk] = x at *
      replace hx0 := (HB3.out.cell (World.block_lt_of_cell? w _ hx0)).trans hx0
      have HX := Aside0.mk (Kd.C_below hC2 HB3.out)
      have hbigx : x.length ≤ 9223372036854775807 := hC2.2.1
      obtain ⟨m30, hm30⟩ : ∃ n, min x.length 30 = n := ⟨_, rfl⟩
      have hx1 : (if (30 : Int) < (x.length : Int) then (30 : Int) else (x.length : Int)) = (m30 : Int) := by split <;> omega
      have hx1m : min (x.length : Int) 30 = (m30 : Int) := by omega
      have hx2 : (0 : Int) ≤ (m30 : Int) := by omega
      have hx3 : (m30 : Int) ≤ (x.length : Int) := by omega
      have hx4 : (x.length : Int) ≤ (c2 : Int) := by omega
      have hx5 : (m30 : Int) ≤ (c2 : Int) := by omega
      have hx6 : m30 ≤ 30 := by omega
      have HX7 : Aside0 (x.take 30 = x.take m30) := ⟨by rw [← hm30, Nat.min_comm, ← List.take_take, List.take_of_length_le (Nat.le_refl x.length)]⟩
      clear hC2 hl2 hm30
      obtain ⟨W0, hW0⟩ : ∃ W, W = wr := ⟨_, rfl⟩
      subst hW0
      go_wp2
      go_loopg [6, 25] m30 (fun gg v6 s25 wx => ∃ (jj : Nat) (A6 : Option Addr) (c6 n6' : Nat), jj ≤ m30 ∧ m30 - jj ≤ gg ∧ v6 = .slice A6 n6' c6 ∧ s25 = .int .i64 jj ∧ Aside0 (Kd.R (Kd.int .u8) 5 wx W0.heap.size (fun _ => True) (.slice A6 n6' c6) ((x.take jj).flatMap fun n => pcs.getD (n % 6).toNat [])) ∧ Aside0 (((x.take jj).flatMap fun n => pcs.getD (n % 6).toNat []).length ≤ 7 * jj) ∧ Aside0 (Below W0.heap.size W0 wx))
      case atStart => exact ⟨0, none, 0, 0, Nat.zero_le _, by omega, rfl, rfl, ⟨Kd.R_nil _ _ _ _ _⟩, ⟨by simp⟩, ⟨Below.refl _ _⟩⟩
      case round =>
        obtain ⟨jj, A6, c6, n6', hjj, hgj, rfl, rfl, HO6, HL6, HBX⟩ := hrel
        by_cases hlj : jj < m30
        · have hljz : (jj : Int) < (m30 : Int) := by omega
          have hjx : jj < x.length := by omega
          have hjxz : (jj : Int) < (x.length : Int) := by omega
          have h0j : (0 : Int) ≤ (jj : Int) := by omega
          obtain ⟨adx, ex, z0⟩ := Kd.at_int HX.out (jj : Int) h0j hjxz
          subst ex
          have hrd : rd x (jj : Int) = x[jj] := by unfold rd; rw [Int.toNat_natCast, List.getD_eq_getElem?_getD, List.getElem?_eq_getElem hjx]; rfl
          rw [hrd, Int.toNat_natCast] at z0
          have hst : (x.take (jj + 1)).flatMap (fun n => pcs.getD (n % 6).toNat []) = (x.take jj).flatMap (fun n => pcs.getD (n % 6).toNat []) ++ pcs.getD (x[jj] % 6).toNat [] := by
            rw [List.take_add_one, List.getElem?_eq_getElem hjx, List.flatMap_append]
            congr 1
            simp
          replace z0 := (HBX.out.cell (World.block_lt_of_cell? W0 _ z0)).trans z0
          have hb0 := below_emod (x := x[jj]) (n := 6) (by omega) (by omega)
          have hm0 := Int.emod_nonneg x[jj] (show (6 : Int) ≠ 0 by omega)
          have hm1 := Int.emod_lt_of_pos x[jj] (show (0 : Int) < 6 by omega)
          obtain ⟨j, hj⟩ : ∃ j : Nat, x[jj] % 6 = (j : Int) := ⟨(x[jj] % 6).toNat, by omega⟩
          rw [hj] at hb0 hm0 hm1 hst
          rw [Int.toNat_natCast] at hst
          have hj6 : j < 6 := by omega
          obtain ⟨pb, pl, pe⟩ := pcS_bytes j hj6
          have HBL := Aside0.mk hb0
          have hlz : (jj : Int) < 6 + 60 := by omega
          generalize x[jj] = n at *
          generalize hs0 : rdOf ByteArray.empty pcS (j : Int) = s0 at *
          have HST2 : Aside0 ((x.take jj).flatMap (fun n => pcs.getD (n % 6).toNat []) ++ bytesOf s0 = (x.take (jj + 1)).flatMap (fun n => pcs.getD (n % 6).toNat [])) := ⟨by rw [hst, pb]⟩
          have hsl : s0.size ≤ 7 := by
            have h := congrArg List.length pb
            rw [bytesOf_length] at h
            omega
          have HLL : Aside0 (((x.take jj).flatMap fun n => pcs.getD (n % 6).toNat []).length + s0.size ≤ 140737488355328) := ⟨by have := HL6.out; omega⟩
          have HL7 : Aside0 (((x.take (jj + 1)).flatMap fun n => pcs.getD (n % 6).toNat []).length ≤ 7 * (jj + 1)) := ⟨by rw [← HST2.out, List.length_append, bytesOf_length]; have := HL6.out; omega⟩
          have HLIT : Aside0 (∀ w7, Below (wr.alloc (.cells (pcS.map Value.string).toArray 9)).heap.size (wr.alloc (.cells (pcS.map Value.string).toArray 9)) w7 → w7.cell? ⟨wr.heap.size, j, none⟩ = some (.string s0)) := ⟨fun w7 hb => by
            obtain ⟨ad, e, h⟩ := Kd.at_string (litS6 wr) (j : Int) (by omega) (by simp [pcS]; omega)
            obtain rfl := Option.some.inj e
            rw [hs0, Int.toNat_natCast, show (Addr.mk wr.heap.size 0 none).add j = ⟨wr.heap.size, j, none⟩ by unfold Addr.add; split <;> simp_all] at h
            exact (hb.cell (World.block_lt_of_cell? _ _ h)).trans h⟩
          have hj6z : (j : Int) < 6 := by omega
          have hj0z : (0 : Int) ≤ (j : Int) := by omega
          clear hb0 hm0 hm1 hst pb pl pe hj hrd hs0 hsl
          go_wp2_with (first | (go_at_call 8; (with_reducible refine (wrackmake_Below.calls n 6 (j : Int) _ HBL.out).mono ?_); rintro e w7 ⟨rfl, hd⟩; have hb7 := drawn_below hd; have hc7 := HLIT.out w7 hb7; have HB7 : Aside0 (Below W0.heap.size W0 w7) := ⟨HBX.out.trans ((below_step (below_alloc (Below.refl _ _) _) hb7).mono HBX.out.size)⟩; have HO8 := Aside0.mk (Kd.R_below HO6.out (below_step (below_alloc (Below.refl wr.heap.size wr) _) hb7)); clear hd hb7) | (at_builtin; refine print_append_str (w0 := W0) W0.heap.size rfl (.tmp 29) (.tmp 34) 46 9 5 rfl Try.underlying46 Try.underlying9 info5 (.slice A6 n6' c6) _ s0 rfl rfl (own_u8 HO8.out) HB7.out HB7.out.size HLL.out ?_; intro v1 wa ho hb hg; rw [HST2.out] at ho; have ho2 := R_u8 ho; obtain ⟨A9, c9, e9⟩ := Kd.R_slice ho2; subst e9; generalize ((x.take (jj + 1)).flatMap fun n => pcs.getD (n % 6).toNat []).length = n9 at ho2 ⊢; have HO9 := Aside0.mk ho2; have HB9 := Aside0.mk hb; clear ho ho2 hb hg))
          go_roundg (m30 - (jj + 1))
          case measure => omega
          case rel => exact ⟨jj + 1, A9, c9, n9, by omega, by omega, rfl, by go_num, HO9, HL7, HB9⟩
        · have hljz : ¬ (jj : Int) < (m30 : Int) := by omega
          have hj : jj = m30 := by omega
          subst hj
          have HOT : Aside0 (Kd.R (Kd.int .u8) 5 wr W0.heap.size (fun _ => True) (.slice A6 n6' c6) (txt x)) := ⟨by have h := HO6.out; unfold txt; rw [HX7.out]; exact h⟩
          have HOD := Aside0.mk (Kd.R_below HO3.out HBX.out)
          have HBW : Aside0 (Below w.heap.size w wr) := ⟨HB3.out.trans (HBX.out.mono HB3.out.size)⟩
          have HLD : Aside0 ((((l.take kk).map txt).length + 1) * 24 ≤ 140737488355328) := ⟨by rw [List.length_map, List.length_take]; omega⟩
          have HD3 : Aside0 (∀ k, W0.heap.size ≤ k → some k ≠ (Value.slice A3 n3 c3).ownBlock) := ⟨fun k hk e => by
            have h := (Kd.R_bound HO3.out).1 k e.symm
            have := h.2.2.1
            omega⟩
          have HM3 : Aside0 ((Kd.slice 5 (Kd.int .u8)).M wr w.heap.size (fun k => W0.heap.size ≤ k) (txt x) [.slice A6 n6' c6]) := ⟨⟨_, rfl, Kd.R_mono (Kd.R_lower (Kd.R_bound HOT.out) HB3.out.size) (fun k hk => hk.2.1)⟩⟩
          clear HO6 HL6 HX HX7 HOT
          go_wp2_with (first | ((with_reducible refine gate_builtin (b := .append) (xs := #[.tmp 37, .tmp 39]) rfl ?_); at_builtin; refine Kd.R_append (Kd.slice 5 (Kd.int .u8)) (w0 := w) (W := wr) w.heap.size rfl (.tmp 37) (.tmp 39) 28 46 (.slice none 0 0) 24 rfl Try.underlying28 info46w rfl (by decide) (by omega) (.slice A3 n3 c3) ((l.take kk).map txt) (txt x) [.slice A6 n6' c6] (fun _ => True) (fun k => W0.heap.size ≤ k) rfl rfl HM3.out (fun k hk => ⟨trivial, HD3.out k hk⟩) (fun _ _ => trivial) HOD.out HBW.out HBW.out.size HLD.out ?_; intro v1 wa ho hb hg hat; rw [← HST.out] at ho; obtain ⟨A9, c9, e9⟩ := Kd.R_slice ho; subst e9; generalize ((l.take (kk + 1)).map txt).length = n9 at ho ⊢; have HO9 := Aside0.mk ho; have HB9 := Aside0.mk hb; clear ho hb hg hat))
          go_roundg (n6 - (kk + 1))
          case measure => omega
          case rel => exact ⟨kk + 1, A9, c9, n9, by omega, by omega, rfl, by go_num, HO9, HB9⟩
    · have hltz : ¬ (kk : Int) < (n6 : Int) := by omega
      have hk : kk = n6 := by omega
      subst hk
      have HO4 : Aside0 (Kd.R (Kd.slice 5 (Kd.int .u8)) 46 wr w.heap.size (fun _ => True) (.slice A3 n3 c3) (txts l)) := ⟨by have h := HO3.out; unfold txts; rw [HT.out]; exact h⟩
      clear HO3
      go_wp2
      go_ret
      exact ⟨_, rfl, HO4.out, HB3.out⟩

/-! ### word_check: function 23 -/
def word_check.f (l0 : List ByteArray) : Option (Int) := if (l0.length : Int) = 0 then (some 15) else (if (l0.length : Int) > 8 then (some 2) else (some 0))
set_option maxHeartbeats 8000000 in
set_option maxRecDepth 100000 in
theorem word_check.calls (A0 : Option Addr) (c0 : Nat) (l0 : List ByteArray) (r : Int) (w : World) (hr0 : Kd.C Kd.string w A0 l0.length l0) (hc0 : l0.length ≤ c0) (h : word_check.f l0 = some r) :
    Calls Try.prog 23 #[.slice A0 l0.length c0] w fun e w' => e = .returned (.int .i64 r) ∧ Drawn0 w w' := by
  have HR0 := Aside0.mk hr0
  have HC0 := Aside0.mk hc0
  clear hr0 hc0
  have H : (if (l0.length : Int) = 0 then (some 15) else (if (l0.length : Int) > 8 then (some 2) else (some 0))) = some r := h
  clear h
  by_cases c2 : (l0.length : Int) = 0
  · rw [if_pos c2] at H
    have c2b0 : ((l0.length : Int) == 0) = true := beq_iff_eq.mpr c2
    have c2b1 : ((l0.length : Int) != 0) = false := bne_eq_false_iff_eq.mpr c2
    clear c2
    obtain rfl := Option.some.inj H
    go_enter Try.func23, Try.ntmps23
    go_wp2
    go_ret
    exact ⟨by first | rfl | (simp; done) | (simp [*]; done), by repeat (first | exact Drawn0.refl _ | apply Drawn0.step)⟩
  · rw [if_neg c2] at H
    have c2b0 : ((l0.length : Int) == 0) = false := beq_eq_false_iff_ne.mpr c2
    have c2b1 : ((l0.length : Int) != 0) = true := bne_iff_ne.mpr c2
    have c2b2 : ¬ (l0 = []) := fun h_ => c2 (by rw [h_]; rfl)
    by_cases c3 : (l0.length : Int) > 8
    · rw [if_pos c3] at H
      have c3b0 : decide (8 < (l0.length : Int)) = true := decide_eq_true c3
      have c3b1 : decide (8 < l0.length) = true := decide_eq_true (by omega)
      clear c3
      obtain rfl := Option.some.inj H
      go_enter Try.func23, Try.ntmps23
      go_wp2
      go_ret
      exact ⟨by first | rfl | (simp; done) | (simp [*]; done), by repeat (first | exact Drawn0.refl _ | apply Drawn0.step)⟩
    · rw [if_neg c3] at H
      have c3b0 : decide (8 < (l0.length : Int)) = false := decide_eq_false c3
      have c3b1 : decide (8 < l0.length) = false := decide_eq_false (by omega)
      clear c3
      obtain rfl := Option.some.inj H
      go_enter Try.func23, Try.ntmps23
      go_wp2
      go_ret
      exact ⟨by first | rfl | (simp; done) | (simp [*]; done), by repeat (first | exact Drawn0.refl _ | apply Drawn0.step)⟩

/-! ### word_compare: function 25 -/
def word_compare.f (a0_0 : Int) (a0_1 : Int) (a1_0 : Int) (a1_1 : Int) : Option (Int) := if a0_0 = a1_0 then (some (wrap64 (a0_1 - a1_1))) else (some (wrap64 (a0_0 - a1_0)))
set_option maxHeartbeats 8000000 in
set_option maxRecDepth 100000 in
theorem word_compare.calls (a0_0 : Int) (a0_1 : Int) (a1_0 : Int) (a1_1 : Int) (r : Int) (w : World) (h : word_compare.f a0_0 a0_1 a1_0 a1_1 = some r) :
    Calls Try.prog 25 #[.agg #[.int .i64 a0_0, .int .i64 a0_1], .agg #[.int .i64 a1_0, .int .i64 a1_1]] w fun e w' => e = .returned (.int .i64 r) ∧ Below w.heap.size w w' := by
  have hu39 := Try.underlying39
  have HB := Aside0.mk (Below.refl w.heap.size w)
  have H : (if a0_0 = a1_0 then (some (wrap64 (a0_1 - a1_1))) else (some (wrap64 (a0_0 - a1_0)))) = some r := h
  clear h
  by_cases c3 : a0_0 = a1_0
  · rw [if_pos c3] at H
    have c3b0 : (a0_0 == a1_0) = true := beq_iff_eq.mpr c3
    have c3b1 : (a0_0 != a1_0) = false := bne_eq_false_iff_eq.mpr c3
    clear c3
    obtain rfl := Option.some.inj H
    go_enter Try.func25, Try.ntmps25
    go_wp2_with (first | ((with_reducible refine gate_dst (N := 2) rfl ?_); refine box_event ?hg (N := 2) ?hd (cs := #[.int .i64 a0_0, .int .i64 a0_1]) (t := 39) ?hr ?_; (case hd => rfl); (case hg => rfl); (case hr => first | (go_simp; done) | (go_simp; rfl)); intro gb108 hg w4 hbox hb; have n0_ := Aside0.mk (below_step (by repeat (first | (with_reducible first | exact HB.out | apply below_alloc | apply pw_below_drewN | apply below_drew1) | exact HB.out)) hb); have n1_ := Aside0.mk (hbox); have n2_ := Aside0.mk ((by rw [hg]; exact (below_size (by repeat (first | (with_reducible first | exact HB.out | apply below_alloc | apply pw_below_drewN | apply below_drew1) | exact HB.out))) : w.heap.size ≤ gb108)); have n3_ := Aside0.mk ((by rw [hg]; exact (below_size (by repeat (first | (with_reducible first | exact HB.out | apply below_alloc | apply pw_below_drewN | apply below_drew1) | exact HB.out))) : w.heap.size ≤ gb108)); clear HB; have HB := n0_; have BK108 := n1_; have GW108 := n2_; have GE108 := n3_; clear n0_ n1_ n2_ n3_; clear hb hbox hg) | ((with_reducible refine gate_dst (N := 3) rfl ?_); refine box_event ?hg (N := 3) ?hd (cs := #[.int .i64 a1_0, .int .i64 a1_1]) (t := 39) ?hr ?_; (case hd => rfl); (case hg => rfl); (case hr => first | (go_simp; done) | (go_simp; rfl)); intro gb109 hg w5 hbox hb; have n0_ := Aside0.mk (blk_below (g := gb108) (o := .cells #[.int .i64 a0_0, .int .i64 a0_1] 39 (0, 0)) (by (with_reducible repeat (first | refine blk_drewN ?_ _ | refine blk_drew ?_ | refine blk_alloc ?_ _)); exact BK108.out) hb); have n1_ := Aside0.mk (below_step (by repeat (first | (with_reducible first | exact HB.out | apply below_alloc | apply pw_below_drewN | apply below_drew1 | refine below_set ?_ GE108.out) | exact HB.out)) hb); have n2_ := Aside0.mk (hbox); have n3_ := Aside0.mk ((by rw [hg]; exact (below_size (by repeat (first | (with_reducible first | exact HB.out | apply below_alloc | apply pw_below_drewN | apply below_drew1 | refine below_set ?_ GE108.out) | exact HB.out))) : w.heap.size ≤ gb109)); have n4_ := Aside0.mk ((by rw [hg]; exact (below_size (by repeat (first | (with_reducible first | exact HB.out | apply below_alloc | apply pw_below_drewN | apply below_drew1 | refine below_set ?_ GE108.out) | exact HB.out))) : w.heap.size ≤ gb109)); have n5_ := Aside0.mk ((by rw [hg]; exact Nat.ne_of_lt (blk_lt (g := gb108) (o := .cells #[.int .i64 a0_0, .int .i64 a0_1] 39 (0, 0)) (by (with_reducible repeat (first | refine blk_drewN ?_ _ | refine blk_drew ?_ | refine blk_alloc ?_ _)); exact BK108.out)) : gb108 ≠ gb109)); have n6_ := Aside0.mk ((by rw [hg]; exact Nat.ne_of_gt (blk_lt (g := gb108) (o := .cells #[.int .i64 a0_0, .int .i64 a0_1] 39 (0, 0)) (by (with_reducible repeat (first | refine blk_drewN ?_ _ | refine blk_drew ?_ | refine blk_alloc ?_ _)); exact BK108.out)) : gb109 ≠ gb108)); clear BK108; clear HB; have BK108 := n0_; have HB := n1_; have BK109 := n2_; have GW109 := n3_; have GE109 := n4_; have NB108_109 := n5_; have NB109_108 := n6_; clear n0_ n1_ n2_ n3_ n4_ n5_ n6_; clear hb hbox hg; have hnb6 := NB108_109.out; have hnc6 := NB109_108.out; have hcz7_0 : w5.cell? ⟨gb108, 0, none⟩ = some (.int .i64 a0_0) := (blk_cell BK108.out 0).trans rfl; have hcz7_1 : w5.cell? ⟨gb108, 1, none⟩ = some (.int .i64 a0_1) := (blk_cell BK108.out 1).trans rfl; have hfz7_0 := blk_frozen BK108.out 0; have hfz7_1 := blk_frozen BK108.out 1; have hcz8_0 : w5.cell? ⟨gb109, 0, none⟩ = some (.int .i64 a1_0) := (blk_cell BK109.out 0).trans rfl; have hcz8_1 : w5.cell? ⟨gb109, 1, none⟩ = some (.int .i64 a1_1) := (blk_cell BK109.out 1).trans rfl; have hfz8_0 := blk_frozen BK109.out 0; have hfz8_1 := blk_frozen BK109.out 1))
    go_ret
    exact ⟨by first | rfl | (simp [errW_none, errW_some] <;> rfl) | (simp [*, errW_none, errW_some] <;> rfl), by repeat (first | (with_reducible first | exact HB.out | apply below_alloc | apply pw_below_drewN | apply below_drew1 | refine below_set ?_ GE108.out | refine below_set ?_ GE109.out) | exact HB.out)⟩
  · rw [if_neg c3] at H
    have c3b0 : (a0_0 == a1_0) = false := beq_eq_false_iff_ne.mpr c3
    have c3b1 : (a0_0 != a1_0) = true := bne_iff_ne.mpr c3
    obtain rfl := Option.some.inj H
    go_enter Try.func25, Try.ntmps25
    go_wp2_with (first | ((with_reducible refine gate_dst (N := 2) rfl ?_); refine box_event ?hg (N := 2) ?hd (cs := #[.int .i64 a0_0, .int .i64 a0_1]) (t := 39) ?hr ?_; (case hd => rfl); (case hg => rfl); (case hr => first | (go_simp; done) | (go_simp; rfl)); intro gb108 hg w9 hbox hb; have n0_ := Aside0.mk (below_step (by repeat (first | (with_reducible first | exact HB.out | apply below_alloc | apply pw_below_drewN | apply below_drew1) | exact HB.out)) hb); have n1_ := Aside0.mk (hbox); have n2_ := Aside0.mk ((by rw [hg]; exact (below_size (by repeat (first | (with_reducible first | exact HB.out | apply below_alloc | apply pw_below_drewN | apply below_drew1) | exact HB.out))) : w.heap.size ≤ gb108)); have n3_ := Aside0.mk ((by rw [hg]; exact (below_size (by repeat (first | (with_reducible first | exact HB.out | apply below_alloc | apply pw_below_drewN | apply below_drew1) | exact HB.out))) : w.heap.size ≤ gb108)); clear HB; have HB := n0_; have BK108 := n1_; have GW108 := n2_; have GE108 := n3_; clear n0_ n1_ n2_ n3_; clear hb hbox hg) | ((with_reducible refine gate_dst (N := 3) rfl ?_); refine box_event ?hg (N := 3) ?hd (cs := #[.int .i64 a1_0, .int .i64 a1_1]) (t := 39) ?hr ?_; (case hd => rfl); (case hg => rfl); (case hr => first | (go_simp; done) | (go_simp; rfl)); intro gb109 hg w10 hbox hb; have n0_ := Aside0.mk (blk_below (g := gb108) (o := .cells #[.int .i64 a0_0, .int .i64 a0_1] 39 (0, 0)) (by (with_reducible repeat (first | refine blk_drewN ?_ _ | refine blk_drew ?_ | refine blk_alloc ?_ _)); exact BK108.out) hb); have n1_ := Aside0.mk (below_step (by repeat (first | (with_reducible first | exact HB.out | apply below_alloc | apply pw_below_drewN | apply below_drew1 | refine below_set ?_ GE108.out) | exact HB.out)) hb); have n2_ := Aside0.mk (hbox); have n3_ := Aside0.mk ((by rw [hg]; exact (below_size (by repeat (first | (with_reducible first | exact HB.out | apply below_alloc | apply pw_below_drewN | apply below_drew1 | refine below_set ?_ GE108.out) | exact HB.out))) : w.heap.size ≤ gb109)); have n4_ := Aside0.mk ((by rw [hg]; exact (below_size (by repeat (first | (with_reducible first | exact HB.out | apply below_alloc | apply pw_below_drewN | apply below_drew1 | refine below_set ?_ GE108.out) | exact HB.out))) : w.heap.size ≤ gb109)); have n5_ := Aside0.mk ((by rw [hg]; exact Nat.ne_of_lt (blk_lt (g := gb108) (o := .cells #[.int .i64 a0_0, .int .i64 a0_1] 39 (0, 0)) (by (with_reducible repeat (first | refine blk_drewN ?_ _ | refine blk_drew ?_ | refine blk_alloc ?_ _)); exact BK108.out)) : gb108 ≠ gb109)); have n6_ := Aside0.mk ((by rw [hg]; exact Nat.ne_of_gt (blk_lt (g := gb108) (o := .cells #[.int .i64 a0_0, .int .i64 a0_1] 39 (0, 0)) (by (with_reducible repeat (first | refine blk_drewN ?_ _ | refine blk_drew ?_ | refine blk_alloc ?_ _)); exact BK108.out)) : gb109 ≠ gb108)); clear BK108; clear HB; have BK108 := n0_; have HB := n1_; have BK109 := n2_; have GW109 := n3_; have GE109 := n4_; have NB108_109 := n5_; have NB109_108 := n6_; clear n0_ n1_ n2_ n3_ n4_ n5_ n6_; clear hb hbox hg; have hnb11 := NB108_109.out; have hnc11 := NB109_108.out; have hcz12_0 : w10.cell? ⟨gb108, 0, none⟩ = some (.int .i64 a0_0) := (blk_cell BK108.out 0).trans rfl; have hcz12_1 : w10.cell? ⟨gb108, 1, none⟩ = some (.int .i64 a0_1) := (blk_cell BK108.out 1).trans rfl; have hfz12_0 := blk_frozen BK108.out 0; have hfz12_1 := blk_frozen BK108.out 1; have hcz13_0 : w10.cell? ⟨gb109, 0, none⟩ = some (.int .i64 a1_0) := (blk_cell BK109.out 0).trans rfl; have hcz13_1 : w10.cell? ⟨gb109, 1, none⟩ = some (.int .i64 a1_1) := (blk_cell BK109.out 1).trans rfl; have hfz13_0 := blk_frozen BK109.out 0; have hfz13_1 := blk_frozen BK109.out 1))
    go_ret
    exact ⟨by first | rfl | (simp [errW_none, errW_some] <;> rfl) | (simp [*, errW_none, errW_some] <;> rfl), by repeat (first | (with_reducible first | exact HB.out | apply below_alloc | apply pw_below_drewN | apply below_drew1 | refine below_set ?_ GE108.out | refine below_set ?_ GE109.out) | exact HB.out)⟩

end Go.Proofs.Ytchjgjpoephljaa.PWordChain
