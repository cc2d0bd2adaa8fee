/- desk.told. -/
import Derived.Test.YtmcnjikafppccaaGreatDeskMem
namespace Go.Proofs.YtmcnjikafppccaaGreat
open Go.RowKit

theorem set9 {w : World} {b : Nat} {T : TypeId} {f : Nat × Nat} {x0 x1 x2 x3 x4 x5 x6 x7 x8 : Value} (h : w.heap[b]? = some (.cells #[x0, x1, x2, x3, x4, x5, x6, x7, x8] T f)) (y0 y1 y2 y3 y4 y5 y6 y7 y8 : Value) :
    (((((((((w.setCell ⟨b, 0, none⟩ y0).setCell ⟨b, 1, none⟩ y1).setCell ⟨b, 2, none⟩ y2).setCell ⟨b, 3, none⟩ y3).setCell ⟨b, 4, none⟩ y4).setCell ⟨b, 5, none⟩ y5).setCell ⟨b, 6, none⟩ y6).setCell ⟨b, 7, none⟩ y7).setCell ⟨b, 8, none⟩ y8).heap[b]? = some (.cells #[y0, y1, y2, y3, y4, y5, y6, y7, y8] T f) :=
  (heap_setCell_at (heap_setCell_at (heap_setCell_at (heap_setCell_at (heap_setCell_at (heap_setCell_at (heap_setCell_at (heap_setCell_at (heap_setCell_at h 0 y0) 1 y1) 2 y2) 3 y3) 4 y4) 5 y5) 6 y6) 7 y7) 8 y8).trans (by simp)

set_option maxRecDepth 100000 in
set_option maxHeartbeats 2000000 in
theorem told_any (x : EffG) (w : World) (h : EffOk w x) (ho : x.out.length ≤ 1000000) :
    Calls Tryz.prog 37 #[.agg x.cells.toArray] w fun e w' => ∃ dv' ov', e = .returned (.agg (EffG.cells { x with c := { x.c with dv := dv' }, ov := ov' }).toArray) ∧ Upd [] w w' ∧ w'.ownsRow w.heap.size 5 1 dv' x.c.data.length (x.c.data.map B) ∧ w'.ownsRow w.heap.size 5 1 ov' x.out.length (x.out.map B) := by
  obtain ⟨client, ⟨kind, name, level, handle, data, dv⟩, er, n, out, ov⟩ := x
  obtain ⟨da, dc, hdv⟩ := own_shape h.data
  obtain ⟨oa, oc, hov⟩ := own_shape h.out
  simp only at hdv hov
  subst hdv
  subst hov
  have hd := (Rd.of_own h.data).1
  have hq := (Rd.of_own h.out).1
  have hz : data.length ≤ 1000000 := by have := h.size; simp only at this; omega
  have HD := Lib.hid hd
  have HQ := Lib.hid hq
  have hql : ∀ k, (Value.slice oa out.length oc).ownBlock = some k → k < w.heap.size := fun k hk => h.out.lt k (by simp only; simp [hk])
  have HQL := Lib.hid hql
  have HO : Hid (out.length ≤ 70368744177664) := by unfold Hid; simp only at ho; omega
  simp only at HD HQ
  clear h hd hq ho hql
  simp only [EffG.cells]
  go_enter Tryz.func37, Tryz.ntmps37
  go_wp2_with fail
  refine (copied_any kind name level handle (.slice da data.length dc) data _ (HD.out.upd (S := []) (by (with_reducible (repeat (first | exact Upd.refl _ _ | refine Upd.alloc ?_ _ | refine Upd.drew ?_ | refine Upd.drewN ?_ _ | refine Upd.setCell ?_ (by first | (left; simp; done) | (right; simp; done) | (right; simp; omega)) _)))) (by simp)) hz ⟨_, _, rfl⟩).mono ?_
  rintro e w1 ⟨dv', rfl, hU1, ho1, -⟩
  obtain ⟨a1, c1, rfl⟩ := own_shape ho1
  have B1 := Lib.hid (hU1.blk (heap_old (heap_new w _)) (by simp))
  have B2 := Lib.hid (hU1.blk (heap_new' (n := w.heap.size + 1) (by simp)) (by simp))
  have k1 := cell_of B1.out
  have f1 := froz_of B1.out
  have HU := Lib.hid hU1
  have H1 := Lib.hid ho1
  have z1 := hU1.size
  simp only [World.size_alloc] at z1
  clear hU1 ho1
  unfold callV
  go_wp2_with fail
  have U2 : Upd [w.heap.size] w1 (((((w1.setCell ⟨w.heap.size, 1, none⟩ (.int .i64 kind)).setCell ⟨w.heap.size, 2, none⟩ (.string name)).setCell ⟨w.heap.size, 3, none⟩ (.int .i64 level)).setCell ⟨w.heap.size, 4, none⟩ (.int .i64 handle)).setCell ⟨w.heap.size, 5, none⟩ (.slice a1 data.length c1)) := by (with_reducible (repeat (first | exact Upd.refl _ _ | refine Upd.alloc ?_ _ | refine Upd.drew ?_ | refine Upd.drewN ?_ _ | refine Upd.setCell ?_ (by first | (left; simp; done) | (right; simp; done) | (right; simp; omega)) _)))
  have B3 := Lib.hid ((heap_setCell_at (heap_setCell_at (heap_setCell_at (heap_setCell_at (heap_setCell_at B1.out 1 (.int .i64 kind)) 2 (.string name)) 3 (.int .i64 level)) 4 (.int .i64 handle)) 5 (.slice a1 data.length c1)).trans (show _ = some (.cells #[.int .i64 client, .int .i64 kind, .string name, .int .i64 level, .int .i64 handle, .slice a1 data.length c1, .int .i64 er, .int .i64 n, .slice oa out.length oc] 66 (0, 0)) by simp))
  have B4 := Lib.hid (U2.blk B2.out (by simp))
  have H2 := Lib.hid (own_upd H1.out U2 (fun k hk e => by have := (H1.out.lt k hk).1; simp at e this; omega) (Nat.le_refl _))
  have V2 := Lib.hid U2
  clear k1 f1 U2
  generalize ((((w1.setCell ⟨w.heap.size, 1, none⟩ (.int .i64 kind)).setCell ⟨w.heap.size, 2, none⟩ (.string name)).setCell ⟨w.heap.size, 3, none⟩ (.int .i64 level)).setCell ⟨w.heap.size, 4, none⟩ (.int .i64 handle)).setCell ⟨w.heap.size, 5, none⟩ (.slice a1 data.length c1) = w2 at *
  have hQ : Rd w2 (.slice oa out.length oc) (out.map B) := HQ.out.upd (S := [w.heap.size]) (((Upd.trans (by (with_reducible (repeat (first | exact Upd.refl _ _ | refine Upd.alloc ?_ _ | refine Upd.drew ?_ | refine Upd.drewN ?_ _ | refine Upd.setCell ?_ (by first | (left; simp; done) | (right; simp; done) | (right; simp; omega)) _)))) HU.out).mono (by simp)).trans V2.out) (fun k hk e => by have := HQL.out k hk; simp at e; omega)
  refine (bclone_any _ out _ hQ HO.out).mono ?_
  rintro e w3 ⟨ov', rfl, hU3, ho3, -⟩
  obtain ⟨a3, c3, rfl⟩ := own_shape ho3
  have B5 := Lib.hid (hU3.blk B3.out (by simp))
  have B6 := Lib.hid (hU3.blk B4.out (by simp))
  have k5 := cell_of B5.out
  have f5 := froz_of B5.out
  have k6 := cell_of B6.out
  have f6 := froz_of B6.out
  have z2 := V2.out.size
  have z3 := hU3.size
  have H3 := Lib.hid (own_upd H2.out hU3 (by simp) (Nat.le_refl _))
  have O3 := Lib.hid ho3
  have V3 := Lib.hid hU3
  clear hU3 ho3 hQ
  go_wp2
  have b9 := set9 ((heap_setCell_ne (a := ⟨w.heap.size, 8, none⟩) (by simp) (.slice a3 out.length c3)).trans B6.out) (.int .i64 client) (.int .i64 kind) (.string name) (.int .i64 level) (.int .i64 handle) (.slice a1 data.length c1) (.int .i64 er) (.int .i64 n) (.slice a3 out.length c3)
  have q9 := cell_of b9
  have uF : ∀ x : World, x = w3.setCell ⟨w.heap.size, 8, none⟩ (.slice a3 out.length c3) → Upd [w.heap.size, w.heap.size + 1] w3 (((((((((x.setCell ⟨w.heap.size + 1, 0, none⟩ (.int .i64 client)).setCell ⟨w.heap.size + 1, 1, none⟩ (.int .i64 kind)).setCell ⟨w.heap.size + 1, 2, none⟩ (.string name)).setCell ⟨w.heap.size + 1, 3, none⟩ (.int .i64 level)).setCell ⟨w.heap.size + 1, 4, none⟩ (.int .i64 handle)).setCell ⟨w.heap.size + 1, 5, none⟩ (.slice a1 data.length c1)).setCell ⟨w.heap.size + 1, 6, none⟩ (.int .i64 er)).setCell ⟨w.heap.size + 1, 7, none⟩ (.int .i64 n)).setCell ⟨w.heap.size + 1, 8, none⟩ (.slice a3 out.length c3)) := by
    intro x hx
    subst hx
    (with_reducible (repeat (first | exact Upd.refl _ _ | refine Upd.alloc ?_ _ | refine Upd.drew ?_ | refine Upd.drewN ?_ _ | refine Upd.setCell ?_ (by first | (left; simp; done) | (right; simp; done) | (right; simp; omega)) _)))
  have uF1 := uF _ rfl
  refine bodyPost_ret (v := .agg #[.int .i64 client, .int .i64 kind, .string name, .int .i64 level, .int .i64 handle, .slice a1 data.length c1, .int .i64 er, .int .i64 n, .slice a3 out.length c3]) (by simp [results, Tryz.results37, go_sem, q9]) rfl ⟨.slice a1 data.length c1, .slice a3 out.length c3, rfl, ?_, own_upd H3.out uF1 ?_ (by simp; omega), own_upd O3.out uF1 ?_ (by omega)⟩
  · refine Upd.drop (S := [w.heap.size, w.heap.size + 1]) (((((Upd.trans (by (with_reducible (repeat (first | exact Upd.refl _ _ | refine Upd.alloc ?_ _ | refine Upd.drew ?_ | refine Upd.drewN ?_ _ | refine Upd.setCell ?_ (by first | (left; simp; done) | (right; simp; done) | (right; simp; omega)) _)))) HU.out).mono (by simp)).trans (V2.out.mono (by simp))).trans (V3.out.mono (by simp))).trans uF1) ?_
    intro k hk
    simp at hk
    right
    omega
  · intro k hk e
    have := (H3.out.lt k hk).1
    simp at e this
    omega
  · intro k hk e
    have := (O3.out.lt k hk).1
    simp at e
    omega
end Go.Proofs.YtmcnjikafppccaaGreat
