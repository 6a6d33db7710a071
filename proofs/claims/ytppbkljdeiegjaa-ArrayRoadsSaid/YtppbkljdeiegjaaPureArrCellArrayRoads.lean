/- What the members of an array hold, and a lost member out of the others (ArrayRoads). (ArrayRoads: the law.) -/
import Derived.Test.YtppbkljdeiegjaaPureArrGotArrayRoads
namespace Go.Proofs.Ytppbkljdeiegjaa.Pure.CellArrayRoads
set_option linter.unusedVariables false
set_option linter.unusedSimpArgs false
open Go.RowKit Go.Proofs.Ytppbkljdeiegjaa.PArrayRoads Go.Proofs.Ytppbkljdeiegjaa.Pure.SpanArrayRoads Go.Proofs.Ytppbkljdeiegjaa.Pure.GotArrayRoads Go.Proofs.YtppbkljdeiegjaaW.PrintWords Go.Proofs.YtppbkljdeiegjaaW.PrintLast Go.Proofs.YtppbkljdeiegjaaW.PrintMore Go.Proofs.YtppbkljdeiegjaaW.PrintMine Go.Proofs.YtppbkljdeiegjaaW.Plib
def bv (v : BitVec 8) : Int := ((v.toNat : Nat) : Int)
theorem bx_bv (u v : BitVec 8) : bx (bv u) (bv v) = bv (u ^^^ v) := by
  unfold bv
  rw [bx_nat u.isLt v.isLt, BitVec.toNat_xor]
theorem bv_zero : (0 : Int) = bv 0 := rfl
theorem By.bv {x : Int} (h : By x) : ∃ v, x = bv v := by
  obtain ⟨n, hn, rfl⟩ := By.nat h
  exact ⟨BitVec.ofNat 8 n, by unfold CellArrayRoads.bv; rw [BitVec.toNat_ofNat, Nat.mod_eq_of_lt hn]⟩
theorem xor_rest (m p m0 : Nat) (hm : m = 3 ∨ m = 4) (hp : p < m) (h0 : m0 < m) (hne : m0 ≠ p) (D F : Nat → Int) (hD : ∀ n, By (D n))
    (hFp : F p = (List.range (m - 1)).foldl (fun g n => bx g (D n)) 0) (hF : ∀ i, i < m → i ≠ p → F i = D (if p < i then i - 1 else i)) :
    ((List.range m).filter fun i => !(i == m0)).foldl (fun g i => bx g (F i)) 0 = D (if p < m0 then m0 - 1 else m0) := by
  obtain ⟨d0, e0⟩ := By.bv (hD 0)
  obtain ⟨d1, e1⟩ := By.bv (hD 1)
  obtain ⟨d2, e2⟩ := By.bv (hD 2)
  have x1 : ∀ u v : BitVec 8, u ^^^ (u ^^^ v) = v := fun u v => by rw [← BitVec.xor_assoc, BitVec.xor_self, BitVec.zero_xor]
  have x2 : ∀ u v : BitVec 8, u ^^^ v = v ^^^ u := BitVec.xor_comm
  rcases hm with rfl | rfl
  · have h1 : F p = bv (0 ^^^ d0 ^^^ d1) := by rw [hFp]; show bx (bx 0 (D 0)) (D 1) = _; rw [e0, e1, bv_zero, bx_bv, bx_bv]
    rcases (show p = 0 ∨ p = 1 ∨ p = 2 by omega) with rfl | rfl | rfl <;> rcases (show m0 = 0 ∨ m0 = 1 ∨ m0 = 2 by omega) with rfl | rfl | rfl <;> first
      | exact absurd rfl hne
      | (have f0 := hF 0 (by decide); have f1 := hF 1 (by decide); have f2 := hF 2 (by decide)
         simp at f0 f1 f2
         simp [List.range_succ, h1, f0, f1, f2, e0, e1, e2, bv_zero, bx_bv, -BitVec.ofNat_eq_ofNat]
         try (congr 1; ext i hi; simp only [BitVec.getElem_xor]; cases d0[i] <;> cases d1[i] <;> rfl))
  · have h1 : F p = bv (0 ^^^ d0 ^^^ d1 ^^^ d2) := by rw [hFp]; show bx (bx (bx 0 (D 0)) (D 1)) (D 2) = _; rw [e0, e1, e2, bv_zero, bx_bv, bx_bv, bx_bv]
    rcases (show p = 0 ∨ p = 1 ∨ p = 2 ∨ p = 3 by omega) with rfl | rfl | rfl | rfl <;> rcases (show m0 = 0 ∨ m0 = 1 ∨ m0 = 2 ∨ m0 = 3 by omega) with rfl | rfl | rfl | rfl <;> first
      | exact absurd rfl hne
      | (have f0 := hF 0 (by decide); have f1 := hF 1 (by decide); have f2 := hF 2 (by decide); have f3 := hF 3 (by decide)
         simp at f0 f1 f2 f3
         simp [List.range_succ, h1, f0, f1, f2, f3, e0, e1, e2, bv_zero, bx_bv, -BitVec.ofNat_eq_ofNat]
         try (congr 1; ext i hi; simp only [BitVec.getElem_xor]; cases d0[i] <;> cases d1[i] <;> cases d2[i] <;> rfl))
theorem By_get {b : List Int} (h : ∀ x ∈ b, By x) (i : Nat) : By (b.getD i 0) := by
  rw [List.getD_eq_getElem?_getD]
  by_cases c : i < b.length
  · rw [List.getElem?_eq_getElem c]
    exact h _ (List.getElem_mem c)
  · rw [List.getElem?_eq_none (by omega)]
    exact ⟨Int.le_refl _, by decide⟩
theorem xorUp_fold (a : Ar) (b : List Int) (r j : Nat) : ∀ n, xorUp a b r j n = (List.range n).foldl (fun g n => bx g (b.getD ((r * a.w + n) * a.c + j) 0)) 0
  | 0 => rfl
  | n + 1 => by
    rw [List.range_succ, List.foldl_append, ← xorUp_fold a b r j n]
    rfl
theorem cell_one {a : Ar} (ha : a.Ok) (hk : a.k = 1) (b : List Int) (rows i t : Nat) (ht : t < rows * a.c) : cellS a b (rows * a.w) i t = b.getD t 0 := by
  have hw : a.w = 1 := by unfold Ar.w; rw [if_pos hk]
  unfold cellS
  rw [if_pos hk, hw, Nat.mul_one, if_pos ((Nat.div_lt_iff_lt_mul ha.c_pos).2 ht)]
theorem cell_in {a : Ar} (ha : a.Ok) (hk : a.k ≠ 1) (b : List Int) (rows r i j : Nat) (hr : r < rows) (hi : i < a.m) (hj : j < a.c) (hn : a.odd r ≠ some i) : cellS a b (rows * a.w) i (r * a.c + j) = b.getD ((r * a.w + a.idx r i) * a.c + j) 0 := by
  obtain ⟨e1, e2⟩ := row_of (r := r) hj
  have hx := (Ar.mem_idx ha hk r i hi hn).1
  have hle : (r + 1) * a.w ≤ rows * a.w := Nat.mul_le_mul_right _ hr
  rw [Nat.add_mul, Nat.one_mul] at hle
  unfold cellS
  rw [if_neg hk, e1, e2, if_neg hn, if_pos (by omega)]
theorem cell_odd {a : Ar} (ha : a.Ok) (hk : a.k ≠ 1) (b : List Int) (rows r p j : Nat) (hr : r < rows) (hj : j < a.c) (hn : a.odd r = some p) : cellS a b (rows * a.w) p (r * a.c + j) = xorUp a b r j a.w := by
  obtain ⟨e1, e2⟩ := row_of (r := r) hj
  have hle : (r + 1) * a.w ≤ rows * a.w := Nat.mul_le_mul_right _ hr
  rw [Nat.add_mul, Nat.one_mul] at hle
  unfold cellS
  rw [if_neg hk, e1, e2, if_pos hn, Nat.min_eq_right (by omega)]
theorem fold_filter (f : Nat → Nat) (h : Nat → Int) (m0 : Nat) : ∀ (l : List Nat) (g : Int), (l.flatMap fun i => if i = m0 then [] else [f i]).foldl (fun g x => bx g (h x)) g = (l.filter fun i => !(i == m0)).foldl (fun g i => bx g (h (f i))) g
  | [], g => rfl
  | i :: l, g => by
    rw [List.flatMap_cons, List.foldl_append, fold_filter f h m0 l]
    by_cases c : i = m0
    · rw [if_pos c, List.filter_cons_of_neg (by simp [c])]
      rfl
    · rw [if_neg c, List.filter_cons_of_pos (by simp [c])]
      rfl
theorem fold_congr (l : List Nat) (F G : Nat → Int) (h : ∀ i ∈ l, F i = G i) : ∀ g : Int, l.foldl (fun g i => bx g (F i)) g = l.foldl (fun g i => bx g (G i)) g := by
  induction l with
  | nil => exact fun _ => rfl
  | cons x t ih =>
    intro g
    rw [List.foldl_cons, List.foldl_cons, h x List.mem_cons_self]
    exact ih (fun i hi => h i (List.mem_cons_of_mem _ hi)) _
/-- The road of one run: the bytes that it lays over one another are the run's. -/
theorem road_byte (a : Ar) (ha : a.Ok) (rows gi o size : Nat) (b : List Int) (hb : b.length = rows * a.w * a.c) (hby : ∀ x ∈ b, By x) (hgi : gi < a.m) (ho : o + size ≤ rows * a.w * a.c) (hs : 1 ≤ size) (hch : o % a.c + size ≤ a.c)
    (mg : List (List Int)) (hmg : mg = memG a gi (splitL a b (rows * a.c) (rows * a.w))) (hml : mg.length = a.m) (hmS : ∀ y ∈ mg, y.length ≤ rows * a.c) (hfn : fne mg < a.m) :
    ∃ xs : List Nat, roadS a (rows * a.c) (goneG a gi) (runsL a (fne mg) size o size) = xs.map (fun x : Nat => (⟨(x : Int), (size : Int)⟩ : S42)) ∧ (∀ x ∈ xs, x + size ≤ a.m * (rows * a.c)) ∧ xs.length ≤ a.m ∧ ∀ t, t < size → xs.foldl (fun g x => bx g ((imgL (rows * a.c) mg).getD (x + t) 0)) 0 = b.getD (o + t) 0 := by
  have hcp := ha.c_pos
  have hwp := ha.w_pos
  obtain ⟨q, hq⟩ : ∃ q, q = o / a.c := ⟨_, rfl⟩
  obtain ⟨r, hr⟩ : ∃ r, r = q / a.w := ⟨_, rfl⟩
  obtain ⟨j, hj⟩ : ∃ j, j = o % a.c := ⟨_, rfl⟩
  have hoq : o = q * a.c + j := by rw [hq, hj, Nat.mul_comm]; exact (Nat.div_add_mod o a.c).symm
  have hqr : q = r * a.w + q % a.w := by rw [hr, Nat.mul_comm]; exact (Nat.div_add_mod q a.w).symm
  have hql : q < rows * a.w := by rw [hq]; exact (Nat.div_lt_iff_lt_mul hcp).2 (by omega)
  have hrl : r < rows := by rw [hr]; exact (Nat.div_lt_iff_lt_mul hwp).2 hql
  have hjl : j + size ≤ a.c := by rw [hj]; exact hch
  have hrS : (r + 1) * a.c ≤ rows * a.c := Nat.mul_le_mul_right _ hrl
  rw [Nat.add_mul, Nat.one_mul] at hrS
  obtain ⟨S, hS⟩ : ∃ S, S = rows * a.c := ⟨_, rfl⟩
  have hsg := split_get ha b rows hb (rows * a.w) (Nat.le_refl _)
  have hcell : ∀ i t, i < a.m → (i : Int) ≠ goneG a gi → t < size → (imgL S mg).getD (i * S + (r * a.c + j) + t) 0 = cellS a b (rows * a.w) i (r * a.c + (j + t)) := fun i t hi hne ht => by
    rw [Nat.add_assoc, imgL_get S mg i _ (by rw [hS]; exact hmS) (by omega) (by omega)]
    have e : mg.getD i [] = (splitL a b (rows * a.c) (rows * a.w)).getD i [] := by
      rw [hmg]
      unfold memG
      split
      case isTrue c =>
        rw [getD_set, if_neg]
        rintro ⟨e, _⟩
        apply hne
        unfold goneG
        rw [if_pos c, e]
      case isFalse c => rfl
    rw [e, (hsg.2 i hi).2 _ (by omega), Nat.add_assoc]
  rw [runsL_one a ha (fne mg) size o hs hch, ← hS, ← hq, ← hr, ← hj]
  obtain ⟨m0, hm0⟩ : ∃ m0, m0 = if a.k = 1 then fne mg else a.mem q := ⟨_, rfl⟩
  have hm0l : m0 < a.m := by rw [hm0]; split; exact hfn; exact Ar.mem_lt ha q
  have hroad : roadS a S (goneG a gi) [⟨if a.k = 1 then (fne mg : Int) else (a.mem q : Int), ((r * a.c + j : Nat) : Int), (size : Int)⟩] = atL a.m S (goneG a gi) m0 (r * a.c + j) size := by
    unfold roadS
    rw [List.flatMap_cons, List.flatMap_nil, List.append_nil]
    have e : (if a.k = 1 then (fne mg : Int) else (a.mem q : Int)) = (m0 : Int) := by rw [hm0]; split <;> rfl
    simp only [e, Int.toNat_natCast]
  rw [hroad]
  have hplace : ∀ i, i < a.m → i * S + (r * a.c + j) + size ≤ a.m * S := fun i hi => by
    have h1 : (i + 1) * S ≤ a.m * S := Nat.mul_le_mul_right _ hi
    rw [Nat.add_mul, Nat.one_mul] at h1
    omega
  have hot : ∀ t, q * a.c + (j + t) = o + t := fun t => by omega
  unfold atL
  by_cases hg : (m0 : Int) ≠ goneG a gi
  · rw [if_pos hg]
    refine ⟨[m0 * S + (r * a.c + j)], rfl, fun x hx => ?_, by have := ha.m; simp; omega, fun t ht => ?_⟩
    · rw [List.mem_singleton.1 hx]
      exact hplace m0 hm0l
    · show bx 0 _ = _
      rw [hcell m0 t hm0l hg ht]
      by_cases hk : a.k = 1
      · have hw : a.w = 1 := by unfold Ar.w; rw [if_pos hk]
        have hrq : r = q := by rw [hr, hw, Nat.div_one]
        rw [cell_one ha hk b rows m0 _ (by omega), hrq, hot, bx_zero (By_get hby _)]
      · rw [if_neg hk] at hm0
        have hno : a.odd r ≠ some m0 := by rw [hm0, hr]; exact a.mem_odd q
        rw [cell_in ha hk b rows r m0 _ hrl hm0l (by omega) hno, hm0, hr, a.idx_mem q, ← hr, ← hqr, hot, bx_zero (By_get hby _)]
  · rw [if_neg hg]
    have hg' : (m0 : Int) = goneG a gi := by simpa using hg
    have hk2 : a.k = 2 := by
      unfold goneG at hg'
      by_cases c : a.k = 2
      · exact c
      · rw [if_neg c] at hg'
        omega
    have hk : a.k ≠ 1 := by omega
    rw [if_neg hk] at hm0
    refine ⟨(List.range a.m).flatMap fun i => if i = m0 then [] else [i * S + (r * a.c + j)], ?_, fun x hx => ?_, ?_, fun t ht => ?_⟩
    · rw [List.map_flatMap]
      congr 1
      funext i
      split <;> rfl
    · obtain ⟨i, hi, h2⟩ := List.mem_flatMap.1 hx
      split at h2
      · simp at h2
      · rw [List.mem_singleton.1 h2]
        exact hplace i (List.mem_range.1 hi)
    · have h1 := atK_len S m0 (r * a.c + j) size a.m
      unfold atK at h1
      refine Nat.le_trans (Nat.le_of_eq ?_) h1
      rw [List.length_flatMap, List.length_flatMap]
      congr 2
      funext i
      split <;> rfl
    · rw [fold_filter]
      obtain ⟨p, hp⟩ : ∃ p, a.odd r = some p := by unfold Ar.odd; rw [if_pos hk2]; exact ⟨_, rfl⟩
      have hpl := Ar.odd_lt ha hp
      have hno : a.odd r ≠ some m0 := by rw [hm0, hr]; exact a.mem_odd q
      have hw : a.w = a.m - 1 := by unfold Ar.w; rw [if_neg hk, if_pos hk2]
      have hx := xor_rest a.m p m0 (by have := ha.m; have := ha.p hk2; omega) hpl hm0l (fun e => hno (by rw [hp, e])) (fun n => b.getD ((r * a.w + n) * a.c + (j + t)) 0) (fun i => cellS a b (rows * a.w) i (r * a.c + (j + t))) (fun n => By_get hby _)
        (by
          show cellS a b (rows * a.w) p (r * a.c + (j + t)) = _
          rw [cell_odd ha hk b rows r p _ hrl (by omega) hp, xorUp_fold, hw])
        (fun i hi hne => by
          show cellS a b (rows * a.w) i (r * a.c + (j + t)) = _
          rw [cell_in ha hk b rows r i _ hrl hi (by omega) (by rw [hp]; intro e; injection e with e; exact hne e.symm)]
          unfold Ar.idx
          rw [hp])
      have he : a.idx r m0 = if p < m0 then m0 - 1 else m0 := by unfold Ar.idx; rw [hp]
      rw [fold_congr _ _ (fun i => cellS a b (rows * a.w) i (r * a.c + (j + t))) (fun i hi => by
        obtain ⟨h1, h2⟩ := List.mem_filter.1 hi
        exact hcell i t (List.mem_range.1 h1) (fun e => by
          rw [← hg'] at e
          have : i = m0 := by omega
          simp [this] at h2) ht), hx, ← he, hm0, hr, a.idx_mem q, ← hr, ← hqr, hot]
end Go.Proofs.Ytppbkljdeiegjaa.Pure.CellArrayRoads
