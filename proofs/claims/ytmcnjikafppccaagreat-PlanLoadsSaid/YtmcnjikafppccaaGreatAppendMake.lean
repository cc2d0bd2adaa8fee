/- append(s, make([]byte, m)...) of a literal's bytes. -/
import Derived.Test.YtmcnjikafppccaaGreatBitOps
import Derived.Lib.AppendZerosOnto
import Derived.Lib.SlBytesConst
namespace Go.Proofs.YtmcnjikafppccaaGreat
open Go.RowKit

theorem zeroCells_one (z : Value) (n : Nat) : Builtin.zeroCells #[z] n = Array.replicate n z := by
  apply Array.ext
  · simp [Builtin.zeroCells]
  · intro i h1 h2
    simp [Builtin.zeroCells, Nat.mod_one]

theorem run_append_make {w : World} {g : Nat} {fr : Nat × Nat} (l : List UInt8) (hb : w.heap[g]? = some (.cells (l.map B).toArray 5 fr)) (m : Nat) (h1 : 1 ≤ m) (h2 : m ≤ 100000) (hl : l.length ≤ 1000) :
    ∃ cp w', (∀ ty, (Builtin.append_ #[25, 3] ty #[.slice (some ⟨g, 0, none⟩) l.length l.length, .int .i64 (m : Int)]).run Tryz.prog w = .ok (.slice (some ⟨w.heap.size, 0, none⟩) (l.length + m) cp) w') ∧ Upd [] w w' ∧
      w'.ownsRow w.heap.size 5 1 (.slice (some ⟨w.heap.size, 0, none⟩) (l.length + m) cp) (l.length + m) ((l ++ List.replicate m 0).map B) := by
  obtain ⟨i0, hi, hz0, hz1, hz2⟩ := info_parts info8
  have hf : (Builtin.firstCells i0.size l.length (.slice (some ⟨g, 0, none⟩) l.length l.length)).run Tryz.prog w.drew = .ok (l.map B).toArray w.drew := by
    refine run_firstCells_some _ _ _ _ _ _ _ (by rw [hz1]; simp) (fun j v hv => ?_)
    rw [add_none]
    have hh : w.drew.heap[g]? = some (.cells (l.map B).toArray 5 fr) := hb
    unfold World.cell?
    simp only [hh, Nat.zero_add]
    simpa using hv
  refine ⟨grownCap w (l.length + m) l.length 5, _, fun ty => Lib.run_append_grow_zeros (P := Tryz.prog) w 25 3 ty 5 i0 (.int .u8 0) .i64 .i64 Tryz.underlying25 Tryz.underlying3 hi hz0 (some ⟨g, 0, none⟩) l.length l.length (l.map B) hf m (by omega) (by rw [hz1]; omega) (by omega) (by omega) (by rw [hz2]; omega) (growslice_fits (by omega) (by rw [hz2]; omega)), by (with_reducible (repeat (first | exact Upd.refl _ _ | refine Upd.alloc ?_ _ | refine Upd.drew ?_ | refine Upd.drewN ?_ _ | refine Upd.setCell ?_ (by first | (left; simp; done) | (right; simp; done) | (right; simp; omega)) _))), ?_⟩
  have hge := grownCap_ge w (l.length + m) l.length 5
  refine ⟨by simp, .inr ⟨w.heap.size, _, _, rfl, Nat.le_refl _, heap_new w.drew _, hge, grownCap_le_maxLen w _ _ _ (by unfold maxLen; omega), ?_, ?_⟩⟩
  · simp [size_zeroCells, Value.cells]
    omega
  · simp only [Value.cells, zeroCells_one]
    simp only [Array.toList_append, Array.toList_replicate, List.map_append, List.map_replicate]
    rw [List.take_append_of_le_length (by simp), List.take_of_length_le (by simp)]
    rfl

/-- append at an operation that may be guarded, by its run. -/
theorem wpList_append_run {P : Program} {w w' : World} {ops : Array Oper} {rest : List Oper} {o : Oper} {a : Act} {Q : Exit → Act → World → Prop} (hw : Region.wanted o (yielded ops a.tmps) = true) (s x : Operand) (t t2 : TypeId)
    (ho : o.op = .call { callee := .builtin .append, args := #[s, x], argTypes := #[t, t2] }) {v vx r : Value} (hs : a.eval s = v) (hx : a.eval x = vx)
    (hr : ∀ ty, (Builtin.append_ #[t, t2] ty #[v, vx]).run P w = .ok r w') (h : wpList P ops Q rest (a.put o.dst r) w') : wpList P ops Q (o :: rest) a w := by
  unfold wpList
  rw [if_pos hw]
  left
  unfold Oper.wp execOp
  simp only [ho, resolve, invoke, builtin, Sem.run_bind, Sem.run_pure, Result.andThen_ok, List.map_toArray, List.map_cons, List.map_nil, hs, hx, hr]
  exact h
end Go.Proofs.YtmcnjikafppccaaGreat
