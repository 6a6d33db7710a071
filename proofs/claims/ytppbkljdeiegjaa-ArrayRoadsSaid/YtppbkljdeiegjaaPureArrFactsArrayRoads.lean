/- What the law ArrayRoads asks of the bytes (RoadFacts). (ArrayRoads: the law.) -/
import Derived.Test.YtppbkljdeiegjaaPureArrCellArrayRoads
namespace Go.Proofs.Ytppbkljdeiegjaa.Pure.FactsArrayRoads
set_option linter.unusedVariables false
set_option linter.unusedSimpArgs false
open Go.RowKit Go.Proofs.Ytppbkljdeiegjaa.PArrayRoads Go.Proofs.Ytppbkljdeiegjaa.Pure.SpanArrayRoads Go.Proofs.Ytppbkljdeiegjaa.Pure.GotArrayRoads Go.Proofs.Ytppbkljdeiegjaa.Pure.CellArrayRoads Go.Proofs.YtppbkljdeiegjaaW.PrintWords Go.Proofs.YtppbkljdeiegjaaW.PrintLast Go.Proofs.YtppbkljdeiegjaaW.PrintMore Go.Proofs.YtppbkljdeiegjaaW.PrintMine Go.Proofs.YtppbkljdeiegjaaW.Plib
theorem equal_l0 (l : List Int) (hl : l.length ≤ 4000) (d : Nat) : ∀ i : Nat, i + d = l.length → Gets (fun k => slices_Equal_byte_byte.l0 k l l (l.length : Int) (i : Int)) (· = true) := by
  induction d with
  | zero =>
    intro i hi
    refine Gets.up ?_
    simp only [slices_Equal_byte_byte.l0, if_neg (show ¬ (i : Int) < (l.length : Int) by omega)]
    exact Gets.ret rfl
  | succ d ih =>
    intro i hi
    have q1 : (i : Int) < (l.length : Int) := by omega
    have q2 : (0 : Int) ≤ (i : Int) := by omega
    have hw := w1 i l.length (by omega) (by omega)
    have key := ih (i + 1) (by clear hw; omega)
    refine Gets.up ?_
    simp only [slices_Equal_byte_byte.l0, hw, if_true]
    simp -implicitDefEqProofs only [if_pos q1, if_pos q2]
    exact key
theorem equal_f (l : List Int) (hl : l.length ≤ 4000) : Gets (fun k => slices_Equal_byte_byte.f k l l) (· = true) := by
  simp only [slices_Equal_byte_byte.f, if_true]
  exact equal_l0 l hl l.length 0 (by omega)
theorem rd_L3n (xs : List (List Int)) (j : Nat) : rd_L3 xs (j : Int) = xs.getD j [] := by simp only [rd_L3, Int.toNat_natCast]
/-- The members without bytes, from place j on. -/
def gapsF (mg : List (List Int)) (j : Nat) (d : Nat) : List Int := (List.range' j d).filterMap fun i => if (mg.getD i []).length = 0 then some (i : Int) else none
def Later (mg : List (List Int)) (S j : Nat) : Prop := ∃ i, j ≤ i ∧ i < mg.length ∧ (mg.getD i []).length = S
theorem missing_l0 (mg : List (List Int)) (hm : mg.length ≤ 100) (S : Nat) (hS : 0 < S) (hg : ∀ i, i < mg.length → (mg.getD i []).length = 0 ∨ (mg.getD i []).length = S) (d : Nat) : ∀ (j : Nat) (lost : List Int) (x : Int), j + d = mg.length → lost.length ≤ j → (x = 0 ∨ x = (S : Int)) →
    Gets (fun k => array_missing.l0 k lost x mg (mg.length : Int) (j : Int)) (fun r => r.1 = lost ++ gapsF mg j d ∧ ((x = (S : Int) ∨ Later mg S j) → r.2.1 = (S : Int)) ∧ r.2.2 = true) := by
  induction d with
  | zero =>
    intro j lost x hj hl hx
    refine Gets.up ?_
    simp only [array_missing.l0, if_neg (show ¬ (j : Int) < (mg.length : Int) by omega)]
    refine Gets.ret ⟨by simp [gapsF], ?_, rfl⟩
    rintro (h | ⟨i, h1, h2, _⟩)
    · exact h
    · omega
  | succ d ih =>
    intro j lost x hj hl hx
    have q1 : (j : Int) < (mg.length : Int) := by omega
    have q2 : (0 : Int) ≤ (j : Int) := by omega
    have hw := w1 j mg.length (by omega) (by omega)
    have hgp : gapsF mg j (d + 1) = (if (mg.getD j []).length = 0 then [(j : Int)] else []) ++ gapsF mg (j + 1) d := by
      unfold gapsF
      rw [List.range'_succ, List.filterMap_cons]
      by_cases c : (mg.getD j []).length = 0
      · rw [if_pos c, if_pos c]; rfl
      · rw [if_neg c, if_neg c]; rfl
    refine Gets.up ?_
    simp only [array_missing.l0, hw, rd_L3n]
    simp -implicitDefEqProofs only [if_pos q1, if_pos q2]
    rcases hg j (by omega) with h0 | h0
    · have z : ((mg.getD j []).length : Int) = 0 := by omega
      have z2 : lost.length < 17592186044416 := by omega
      simp -implicitDefEqProofs only [if_pos z, if_pos z2]
      refine (ih (j + 1) (lost ++ [(j : Int)]) x (by omega) (by simp; omega) hx).imp fun r ⟨r1, r2, r3⟩ => ⟨?_, fun h => r2 ?_, r3⟩
      · rw [r1, hgp, if_pos h0, List.append_assoc]
      · rcases h with h | ⟨i, a1, a2, a3⟩
        · exact .inl h
        · refine .inr ⟨i, ?_, a2, a3⟩
          by_cases c : i = j
          · subst c; omega
          · omega
    · have z : ¬ ((mg.getD j []).length : Int) = 0 := by omega
      have key := ih (j + 1) lost (S : Int) (by omega) (by omega) (.inr rfl)
      have fin : Gets (fun k => array_missing.l0 k lost (S : Int) mg (mg.length : Int) ((j + 1 : Nat) : Int)) (fun r => r.1 = lost ++ gapsF mg j (d + 1) ∧ ((x = (S : Int) ∨ Later mg S j) → r.2.1 = (S : Int)) ∧ r.2.2 = true) := key.imp fun r ⟨r1, r2, r3⟩ => ⟨by rw [r1, hgp, if_neg (by omega)]; rfl, fun _ => r2 (.inl rfl), r3⟩
      rcases hx with rfl | rfl
      · exact fin.congr fun k => by rw [if_neg z, if_pos rfl, h0]
      · have z3 : ¬ (S : Int) = 0 := by omega
        exact fin.congr fun k => by rw [if_neg z, if_neg z3, if_pos (by rw [h0])]
theorem missing_f (mg : List (List Int)) (hm : mg.length ≤ 100) (S : Nat) (hS : 0 < S) (hg : ∀ i, i < mg.length → (mg.getD i []).length = 0 ∨ (mg.getD i []).length = S) (hx : Later mg S 0) (lost : List Int) (hl : gapsF mg 0 mg.length = lost) : Gets (fun k => array_missing.f k mg) (· = (lost, (S : Int), true)) := by
  simp only [array_missing.f]
  refine (missing_l0 mg hm S hS hg mg.length 0 [] 0 (by omega) (by simp) (.inl rfl)).imp fun r ⟨r1, r2, r3⟩ => ?_
  obtain ⟨x, y, z⟩ := r
  simp only at r1 r2 r3
  rw [r1, r2 (.inr hx), r3, List.nil_append, hl]
theorem fm_congr (l : List Nat) (f g : Nat → Option Int) (h : ∀ i ∈ l, f i = g i) : l.filterMap f = l.filterMap g := by
  induction l with
  | nil => rfl
  | cons x t ih => rw [List.filterMap_cons, List.filterMap_cons, h x List.mem_cons_self, ih (fun i hi => h i (List.mem_cons_of_mem _ hi))]
theorem get_of {α : Type} {g : Nat → Option α} {P : α → Prop} (h : Gets g P) : ∃ K r, P r ∧ ∀ k, K ≤ k → g k = some r := by
  obtain ⟨r, hr, K, hK⟩ := h
  exact ⟨K, r, hr, hK⟩
theorem ext_get {xs ys : List Int} (hl : xs.length = ys.length) (h : ∀ t, t < xs.length → xs.getD t 0 = ys.getD t 0) : xs = ys := by
  refine List.ext_getElem hl fun t h1 h2 => ?_
  have := h t h1
  rwa [List.getD_eq_getElem?_getD, List.getD_eq_getElem?_getD, List.getElem?_eq_getElem h1, List.getElem?_eq_getElem h2] at this
theorem facts (a : Ar) (ha : a.Ok) (rows gi o size : Nat) (hrows : 1 ≤ rows ∧ rows ≤ 4) (hgi : gi < a.m) (hs : 1 ≤ size) (ho64 : o % 64 + size ≤ 64) (ho : o + size ≤ rows * a.w * a.c) (b : List Int) (hb : b.length = rows * a.w * a.c) (hby : ∀ x ∈ b, 0 ≤ x ∧ x < 256) : RoadFacts a rows gi o size b := by
  have hby' : ∀ x ∈ b, By x := hby
  have hm := ha.m
  have hcc := ha.c_le
  have hww := ha.w_le4
  have hS0 : 0 < rows * a.c := Nat.mul_pos (by omega) (by omega)
  have hS5 : rows * a.c ≤ 4 * 128 := Nat.mul_le_mul hrows.2 hcc.2
  obtain ⟨hml0, hsg⟩ := split_get ha b rows hb (rows * a.w) (Nat.le_refl _)
  unfold RoadFacts
  obtain ⟨mg, hmg⟩ : ∃ mg, mg = memG a gi (splitL a b (rows * a.c) (rows * a.w)) := ⟨_, rfl⟩
  have hml : mg.length = a.m := by rw [hmg]; unfold memG; split <;> simp [hml0]
  have hget : ∀ i, i < a.m → (mg.getD i []).length = if a.k = 2 ∧ i = gi then 0 else rows * a.c := fun i hi => by
    rw [hmg]
    unfold memG
    by_cases hk : a.k = 2
    · rw [if_pos hk, getD_set]
      by_cases c : gi = i
      · rw [if_pos ⟨c, by omega⟩, if_pos ⟨hk, c.symm⟩]; rfl
      · rw [if_neg (fun e => c e.1), if_neg (fun e => c e.2.symm)]
        exact (hsg i hi).1
    · rw [if_neg hk, if_neg (fun e => hk e.1)]
      exact (hsg i hi).1
  have hmS : ∀ y ∈ mg, y.length ≤ rows * a.c := fun y hy => by
    obtain ⟨i, hi, e⟩ := List.getElem_of_mem hy
    have h := hget i (by omega)
    rw [List.getD_eq_getElem?_getD, List.getElem?_eq_getElem hi] at h
    rw [← e]
    show ((some mg[i]).getD []).length ≤ _
    rw [h]
    split <;> omega
  have hfull : ∃ i, i < a.m ∧ (mg.getD i []).length = rows * a.c := by
    by_cases c : gi = 0
    · exact ⟨1, by omega, by rw [hget 1 (by omega), if_neg (fun e => by omega)]⟩
    · exact ⟨0, by omega, by rw [hget 0 (by omega), if_neg (fun e => c e.2.symm)]⟩
  obtain ⟨f0, hf1, hf2⟩ := hfull
  have hex : ∃ j, j < mg.length ∧ 0 < (mg.getD j []).length := ⟨f0, by omega, by omega⟩
  have hfn := fne_lt mg hex
  have hmx : maxK mg a.m = rows * a.c := by
    have h1 : ∀ j, maxK mg j ≤ rows * a.c := maxK_le mg _ (fun j => by
      by_cases c : j < a.m
      · rw [hget j c]; split <;> omega
      · rw [List.getD_eq_getElem?_getD, List.getElem?_eq_none (by omega)]; exact Nat.zero_le _)
    have h2 : ∀ n, f0 < n → rows * a.c ≤ maxK mg n := fun n => by
      induction n with
      | zero => exact fun h => absurd h (Nat.not_lt_zero _)
      | succ n ih =>
        intro h
        show _ ≤ max (maxK mg n) (mg.getD n []).length
        by_cases c : f0 = n
        · subst c; omega
        · have := ih (by omega); omega
    exact Nat.le_antisymm (h1 _) (h2 _ hf1)
  have hgap : gapsF mg 0 mg.length = lostG a gi := by
    unfold gapsF lostG
    rw [hml, ← List.range_eq_range']
    have e : ∀ i ∈ List.range a.m, (if (mg.getD i []).length = 0 then some (i : Int) else none) = if a.k = 2 ∧ i = gi then some (i : Int) else none := fun i hi => by
      rw [hget i (List.mem_range.1 hi)]
      by_cases c : a.k = 2 ∧ i = gi
      · rw [if_pos c, if_pos c, if_pos rfl]
      · rw [if_neg c, if_neg c, if_neg (by omega)]
    rw [fm_congr _ _ _ e]
    by_cases hk : a.k = 2
    · rw [if_pos hk]
      rcases (show a.m = 2 ∨ a.m = 3 ∨ a.m = 4 by omega) with q | q | q <;> rw [q] at hgi ⊢
      · rcases (show gi = 0 ∨ gi = 1 by omega) with rfl | rfl <;> simp [hk, List.range_succ]
      · rcases (show gi = 0 ∨ gi = 1 ∨ gi = 2 by omega) with rfl | rfl | rfl <;> simp [hk, List.range_succ]
      · rcases (show gi = 0 ∨ gi = 1 ∨ gi = 2 ∨ gi = 3 by omega) with rfl | rfl | rfl | rfl <;> simp [hk, List.range_succ]
    · rw [if_neg hk]
      simp [hk]
  have hlen := imgL_len (rows * a.c) mg hmS
  obtain ⟨xs, hx1, hx2, hx3, hx4⟩ := road_byte a ha rows gi o size b hb hby' hgi ho hs (in_chunk a ha o size ho64) mg hmg hml hmS (by omega)
  rw [← hmg]
  obtain ⟨im, him⟩ : ∃ im, im = imgL (rows * a.c) mg := ⟨_, rfl⟩
  rw [← him] at hlen hx4 ⊢
  have himl : im.length ≤ 2048 := by
    rw [hlen, hml]
    have : a.m * (rows * a.c) ≤ 4 * (4 * 128) := Nat.mul_le_mul hm.2 hS5
    omega
  obtain ⟨L, hL⟩ : ∃ L, L = xs.map (fun x : Nat => (⟨(x : Int), (size : Int)⟩ : S42)) := ⟨_, rfl⟩
  have hLl : L.length ≤ a.m := by rw [hL, List.length_map]; exact hx3
  have hLs : ∀ s ∈ L, 0 ≤ s.f0 ∧ s.f1 = (size : Int) ∧ s.f0 + s.f1 ≤ (im.length : Int) := fun s h => by
    rw [hL] at h
    obtain ⟨x, hx, rfl⟩ := List.mem_map.1 h
    have := hx2 x hx
    rw [hlen, hml]
    refine ⟨by simp, rfl, ?_⟩
    show (x : Int) + (size : Int) ≤ _
    omega
  have hok : ∀ s ∈ L, Ok (im.length : Int) s := fun s h => by obtain ⟨h1, h2, h3⟩ := hLs s h; exact ⟨h1, by omega, h3⟩
  have hmul : Mult size L := fun s h => by obtain ⟨h1, h2, h3⟩ := hLs s h; exact ⟨h1, by omega, by rw [h2, Int.emod_self]⟩
  have hpin := pos_in hok
  obtain ⟨hf, hp, hrl⟩ := runs_spec (M := (im.length : Int)) (pos L) hpin
  have hplen : (pos L).length = L.length * size := by
    have : ∀ l : List S42, (∀ s ∈ l, s.f1 = (size : Int)) → (pos l).length = l.length * size := fun l => by
      induction l with
      | nil => intro _; simp [pos]
      | cons s l ih =>
        intro h
        rw [pos_cons, List.length_append, posS_length, h s List.mem_cons_self, ih (fun x hx => h x (List.mem_cons_of_mem _ hx)), List.length_cons, Nat.add_mul]
        omega
    exact this L (fun s h => (hLs s h).2.1)
  have hruns : runs (pos L) = L.foldl SpanArrayRoads.step [] := (steps_runs L).symm
  obtain ⟨g1, g2, g3⟩ := steps_got size im (List.replicate size 0) L [] (fun _ h => absurd h List.not_mem_nil) hmul
  rw [← hruns, List.nil_append] at g1
  rw [← hruns] at g2 g3
  have hpl : (pos L).length ≤ 4 * 64 := by rw [hplen]; exact Nat.mul_le_mul (by omega) (by omega)
  have hrr : (runs (pos L)).length ≤ 5 := by simp at g3; omega
  have hM : (im.length : Int) ≤ 65536 := by omega
  have hfo := hf.ok
  have G1 := missing_f mg (by omega) (rows * a.c) hS0 (fun i hi => by rw [hget i (by omega)]; split <;> omega) ⟨f0, Nat.zero_le _, by omega, hf2⟩ _ hgap
  have G2 := glue_f hM L (by omega) hok
  have G3 := slice_f hM (runs (pos L)) (by omega) hfo 0 im.length (by omega) (by omega)
  have G4 := count_f hM (runs (pos L)) (by omega) (by rw [hp]; omega) hfo
  have hgot : gotL size im (runs (pos L)) (List.replicate size 0) = (b.take (o + size)).drop o := by
    rw [g1, hL]
    refine ext_get ?_ fun t ht => ?_
    · rw [gotL_len, List.length_replicate, List.length_drop, List.length_take]
      omega
    · rw [gotL_len, List.length_replicate] at ht
      rw [gotL_get size im t ht xs _ (by rw [List.length_replicate])]
      have e0 : (List.replicate size (0 : Int)).getD t 0 = 0 := by rw [List.getD_eq_getElem?_getD, List.getElem?_replicate]; split <;> rfl
      rw [e0, hx4 t ht, List.getD_eq_getElem?_getD, List.getD_eq_getElem?_getD, List.getElem?_drop, List.getElem?_take, if_pos (by omega)]
  have G5 := equal_f ((b.take (o + size)).drop o) (by rw [List.length_drop, List.length_take]; omega)
  obtain ⟨K1, r1, e1, k1⟩ := get_of G1
  obtain ⟨K2, r2, e2, k2⟩ := get_of G2
  obtain ⟨K3, r3, e3, k3⟩ := get_of G3
  obtain ⟨K4, r4, e4, k4⟩ := get_of G4
  obtain ⟨K5, r5, e5, k5⟩ := get_of G5
  subst e1 e2 e3 e4 e5
  have hsl : runs (((pos (runs (pos L))).drop 0).take im.length) = runs (pos L) := by
    have h1 : L.length * size ≤ a.m * (rows * a.c) := Nat.mul_le_mul hLl (by
      have : 1 * a.c ≤ rows * a.c := Nat.mul_le_mul_right _ hrows.1
      omega)
    rw [hp, List.drop_zero, List.take_of_length_le]
    rw [hplen, hlen, hml]
    exact h1
  rw [hsl] at k3
  rw [hx1, ← hL]
  have hK : ∀ K, K ≤ K1 + K2 + K3 + K4 + K5 → K ≤ K1 + K2 + K3 + K4 + K5 := fun _ h => h
  refine ⟨K1 + K2 + K3 + K4 + K5, runs (pos L), runs (pos L), ((pos (runs (pos L))).length : Int), k1 _ (by omega), hex, hmS, hmx, k2 _ (by omega), k3 _ (by omega), fun y hy => ?_, by simp at g3; omega, ?_, k4 _ (by omega), by omega, ?_⟩
  · obtain ⟨a1, a2, a3⟩ := g2 y hy
    exact ⟨a1, by omega, a3, (hf y hy).2.2⟩
  · rw [hgot]; exact k5 _ (by omega)
  · rw [hp, hplen]
    have : ((L.length * size : Nat) : Int) = (L.length : Int) * (size : Int) := by simp
    rw [this, Int.mul_emod_left]
end Go.Proofs.Ytppbkljdeiegjaa.Pure.FactsArrayRoads
