/- plan.gone: the bytes of a dictionary that is there no more. -/
import Derived.Test.YtmcnjikafppccaaGreatPlanDo
namespace Go.Proofs.YtmcnjikafppccaaGreat
open Go.RowKit

/-- Who loaded a dictionary, and its bytes. -/
def loadOf (G : PlanG) (id : Int) : Int × Int := ((getI id G.loads).map (·.1)).getD (0, 0)
def PlanG.goneG (G : PlanG) (id : Int) : PlanG := { G with u := addU G.u (loadOf G id).1 (- min (loadOf G id).2 (G.u (loadOf G id).1)), loads := G.loads.eraseP (fun x => x.1 == id) }

theorem run_loads {w : World} {lo : Nat} {G : PlanG} (h : w.heap[lo]? = some (loadO G.loads G.c4)) (k : Int) :
    (Instr.lookup 53 (.map (some lo)) (.int .i64 k) false).run Tryz.prog w = .ok (.agg #[.int .i64 (loadOf G k).1, .int .i64 (loadOf G k).2]) w := by
  have e : getI k (G.loads.map loadEnt) = (getI k G.loads).map (fun y => (loadV y.1, y.2)) := getI_map (fun y : (Int × Int) × Nat => (loadV y.1, y.2)) k G.loads
  cases hg : getI k G.loads with
  | none =>
    rw [hg] at e
    rw [run_lookup_miss Tryz.underlying53 Tryz.underlying3 h e (zero_load w)]
    simp [loadOf, hg]
  | some y =>
    rw [hg] at e
    rw [run_lookup_hit Tryz.underlying53 Tryz.underlying3 h e]
    simp [loadOf, hg, loadV]
theorem del_loads {w : World} {lo : Nat} {G : PlanG} (h : w.heap[lo]? = some (loadO G.loads G.c4)) (k : Int) (x : TypeId) (ts : Array TypeId) (hts : ts[0]? = some 53) :
    (Builtin.delete_ ts x #[.map (some lo), .int .i64 k]).run Tryz.prog w = .ok (.tuple #[]) (putB w lo (loadO (G.loads.eraseP (fun x => x.1 == k)) G.c4)) := by
  rw [run_delete Tryz.underlying53 Tryz.underlying3 h hts, List.eraseP_map]
  rfl

theorem PurseOk.sub {all each : Int} {u : Int → Int} (h : PurseOk all each u) {c n : Int} (h0 : 0 ≤ n) : PurseOk all each (addU u c (- min n (u c))) := by
  refine ⟨fun i => ?_, fun i => ?_, h.each0, h.each1, h.all0, h.all1⟩
  · have := h.pos i
    unfold addU; split
    · subst i; omega
    · omega
  · have := h.le i
    have := h.pos i
    unfold addU; split
    · subst i; omega
    · omega
set_option maxRecDepth 100000 in
theorem gone_any (G : PlanG) (id : Int) (w : World) (h : IsPlan w G) (hl : 0 ≤ (loadOf G id).1 ∧ (loadOf G id).1 < 4 ∧ 0 ≤ (loadOf G id).2 ∧ (loadOf G id).2 ≤ 1099511627776) :
    Calls Tryz.prog 50 #[.pointer (some ⟨G.b, 0, none⟩), .int .i64 id] w fun e w' => e = .returned (.tuple #[]) ∧ IsPlan w' (G.goneG id) ∧ Upd [G.lo, G.pb] w w' := by
  obtain ⟨l1, l2, l3, l4⟩ := hl
  have hc := cell_of h.plan
  have hs := lt_of_heap h.loads
  have hb := lt_of_heap h.plan
  have hr := run_loads h.loads id
  have hd := fun o => del_loads (w := w.alloc o) (G := G) (lo := G.lo) (heap_old h.loads) id 0
  have H := Lib.hid h
  obtain ⟨⟨a1, a2, a3, a4⟩, ⟨b1, b2, b3⟩, ⟨c1, c2⟩, d1, e1⟩ := PlanG.nd_parts h.nd
  clear h
  go_enter Tryz.func50, Tryz.ntmps50
  go_wp2_with fail
  have U1 : Upd [G.lo] w (putB (w.alloc (.cells #[.int .i64 (loadOf G id).1, .int .i64 (loadOf G id).2] 90)) G.lo (loadO (G.loads.eraseP (fun x => x.1 == id)) G.c4)) := ((Upd.refl _ _).alloc _).putB (.inl (by simp)) _
  have P1 := Lib.hid (H.out.setLoads (s := G.loads.eraseP (fun x => x.1 == id)) (c := G.c4) U1 (heap_putB (heap_old H.out.loads)))
  have B1 : Hid ((putB (w.alloc (.cells #[.int .i64 (loadOf G id).1, .int .i64 (loadOf G id).2] 90)) G.lo (loadO (G.loads.eraseP (fun x => x.1 == id)) G.c4)).heap[w.heap.size]? = some (.cells #[.int .i64 (loadOf G id).1, .int .i64 (loadOf G id).2] 90 (0, 0))) := (heap_putB_ne (by omega)).trans (heap_new w _)
  have HU1 := Lib.hid U1
  clear hc hr hd U1
  generalize putB (w.alloc (.cells #[.int .i64 (loadOf G id).1, .int .i64 (loadOf G id).2] 90)) G.lo (loadO (G.loads.eraseP (fun x => x.1 == id)) G.c4) = w1 at *
  have k1 := cell_of P1.out.plan
  have k2 := cell_of B1.out
  go_still_tail 8, (by kernel_rfl)
  go_wp2_with fail
  have P2 := P1.out.upd (S := []) (w' := w1.drew) (by (with_reducible (repeat (first | exact Upd.refl _ _ | refine Upd.alloc ?_ _ | refine Upd.drew ?_ | refine Upd.drewN ?_ _ | refine Upd.setCell ?_ (by first | (left; simp; done) | (right; simp; done) | (right; simp; omega)) _)))) (by simp)
  refine (give_any _ _ _ _ _ _ _ P2.purse P2.ok l1 l2 l3 l4).mono ?_
  rintro e w2 ⟨rfl, hU2, hp2⟩
  have P3 := P2.setU hU2 hp2 ?_
  · have P4 := Lib.hid P3
    have U2 := Lib.hid hU2
    clear P3 hU2 hp2 P2 k1 k2
    go_wp2
    go_end0
    exact ⟨rfl, P4.out, (HU1.out.mono (by simp)).trans (Upd.trans (by (with_reducible (repeat (first | exact Upd.refl _ _ | refine Upd.alloc ?_ _ | refine Upd.drew ?_ | refine Upd.drewN ?_ _ | refine Upd.setCell ?_ (by first | (left; simp; done) | (right; simp; done) | (right; simp; omega)) _)))) (U2.out.mono (by simp)))⟩
  · exact P2.ok.sub l3
end Go.Proofs.YtmcnjikafppccaaGreat
