/- Lemmas of this session that the texts written by prn.py use beside the printer's words. -/
import Derived.Test.YtppbkljdeiegjaaWMore
import Derived.Lib.SlBytesConst
namespace Go.Proofs.YtppbkljdeiegjaaW.PrintMine
open Go.RowKit Go.Proofs.YtppbkljdeiegjaaW.PrintWords Go.Proofs.YtppbkljdeiegjaaW.PrintLast Go.Proofs.YtppbkljdeiegjaaW.PrintMore
section
variable {P : Program} {ops rest : List Oper} {o : Oper} {a : Act} {Q : Exit → Act → World → Prop}
/-- '[]byte("..")': a literal and the conversion behind it: a row that is only read. -/
theorem bytelit {opsA : Array Oper} {restL : List Oper} {W : World} (hgd : o.guard = none) {N : Tmp} (_hd : o.dst = some N) (t e : TypeId) (x : Operand) (ho : o.op = .convert t t x) (xs : List Int) (C : Array Value) (hC : C = (xs.map (Value.int .u8)).toArray)
    (hm : xs.length ≤ 9223372036854775807) (hx : a.eval x = .slice (some ⟨W.heap.size, 0, none⟩) xs.length xs.length) (ht : P.underlying t = some (.slice e)) (he : P.underlying e = some (.int .u8))
    (h : ∀ v1 w1, Kd.V (Kd.int .u8) e w1 W.heap.size (fun k_ => W.heap.size ≤ k_) v1 xs → Below W.heap.size W w1 → W.grownBy w1 none → True → wpList P opsA Q restL (a.put o.dst v1) w1) :
    wpList P opsA Q (o :: restL) a (W.alloc (.cells C e)) := by
  have hrun : (execOp a.eval o).run P (W.alloc (.cells C e)) = .ok (.value (.slice (some ⟨W.heap.size, 0, none⟩) xs.length xs.length)) (W.alloc (.cells C e (C.size, C.size + 1))) := by
    have hr := Lib.run_convert_bytes_const (P := P) W t e C xs.length xs.length ht he
    simp [execOp, ho, hx, hr]
  refine Kd.event_run hgd hrun (h _ _ ?_ (below_alloc (Below.refl _ _) _) (World.grownBy_alloc W _ none) trivial)
  have hnew : (W.alloc (.cells C e (C.size, C.size + 1))).heap[W.heap.size]? = some (.cells C e (C.size, C.size + 1)) := heap_alloc_new W _
  refine ⟨some ⟨W.heap.size, 0, none⟩, xs.length, rfl, Nat.le_refl _, fun W' hW => Kd.C_of_reads (d := 0) ⟨rfl, hm, fun _ => ⟨⟨W.heap.size, 0, none⟩, rfl, fun j hj => ?_⟩⟩⟩
  have h1 : W'.heap[W.heap.size]? = some (.cells C e (C.size, C.size + 1)) := (hW _ (Nat.le_refl _) (blk_lt hnew)).trans hnew
  rw [add_plain, cell_of_row W' W.heap.size j C e (C.size, C.size + 1) h1, hC]
  simp [List.getElem?_eq_getElem hj, List.getD_eq_getElem?_getD]
end
end Go.Proofs.YtppbkljdeiegjaaW.PrintMine
