/- A Desk in memory; desk.New, isClient, copied, Waits, plan, Used, Sessions. -/
import Derived.Test.YtmcnjikafppccaaGreatPlanAt
import Derived.Test.YtmcnjikafppccaaGreatBytesClone
namespace Go.Proofs.YtmcnjikafppccaaGreat
open Go.RowKit

theorem isClient_yes (a : Addr) (c : Int) (w : World) (h0 : 0 ≤ c) (h1 : c < 4) :
    Calls Tryz.prog 33 #[.pointer (some a), .int .i64 c] w fun e w' => e = .returned (.bool true) ∧ w' = w := by
  go_enter Tryz.func33, Tryz.ntmps33
  go_wp2
  go_ret
  exact ⟨rfl, rfl⟩
theorem isClient_no (a : Addr) (c : Int) (w : World) (h : c < 0 ∨ 4 ≤ c) :
    Calls Tryz.prog 33 #[.pointer (some a), .int .i64 c] w fun e w' => e = .returned (.bool false) ∧ w' = w := by
  by_cases h0 : c < 0
  · go_enter Tryz.func33, Tryz.ntmps33
    go_wp2
    go_ret
    exact ⟨rfl, rfl⟩
  · have h1 : 4 ≤ c := by omega
    have h2 : 0 ≤ c := by omega
    clear h h0
    go_enter Tryz.func33, Tryz.ntmps33
    go_wp2
    go_ret
    exact ⟨by simp; omega, rfl⟩

set_option maxRecDepth 100000 in
theorem copied_any (kind : Int) (name : ByteArray) (level handle : Int) (dv : Value) (l : List UInt8) (w : World) (h : Rd w dv (l.map B)) (hl : l.length ≤ 1000000) (hd : ∃ a c, dv = .slice a l.length c) :
    Calls Tryz.prog 34 #[callV kind name level handle dv] w fun e w' => ∃ dv', e = .returned (callV kind name level handle dv') ∧ Upd [] w w' ∧ w'.ownsRow w.heap.size 5 1 dv' l.length (l.map B) ∧ (dv' = .slice none 0 0 ↔ dv = .slice none 0 0) := by
  obtain ⟨a, c, rfl⟩ := hd
  have H := Lib.hid h
  have HL := Lib.hid (show l.length ≤ 70368744177664 by omega)
  clear h hl
  unfold callV
  go_enter Tryz.func34, Tryz.ntmps34
  go_wp2_with fail
  refine (bclone_any _ l _ (H.out.upd (S := []) (by (with_reducible (repeat (first | exact Upd.refl _ _ | refine Upd.alloc ?_ _ | refine Upd.drew ?_ | refine Upd.drewN ?_ _ | refine Upd.setCell ?_ (by first | (left; simp; done) | (right; simp; done) | (right; simp; omega)) _)))) (fun _ _ => by simp)) HL.out).mono ?_
  rintro e w1 ⟨v1, rfl, hU1, ho1, hn1⟩
  obtain ⟨a1, c1, rfl⟩ := own_shape ho1
  have B1 := Lib.hid (hU1.blk (heap_old (heap_new w _)) (by simp))
  have B2 := Lib.hid (hU1.blk (heap_new' (n := w.heap.size + 1) (by simp)) (by simp))
  have k1 := cell_of B1.out
  have k2 := cell_of B2.out
  have f1 := froz_of B1.out
  have f2 := froz_of B2.out
  have HU := Lib.hid hU1
  have HO := Lib.hid ho1
  have HN := Lib.hid hn1
  clear hU1 ho1 hn1
  go_wp2
  have q2 := cell_of (set5 ((heap_setCell_ne (a := ⟨w.heap.size, 4, none⟩) (by simp) (.slice a1 l.length c1)).trans B2.out) (.int .i64 kind) (.string name) (.int .i64 level) (.int .i64 handle) (.slice a1 l.length c1))
  have hU2 : Upd [w.heap.size, w.heap.size + 1] w1 ((((((w1.setCell ⟨w.heap.size, 4, none⟩ (.slice a1 l.length c1)).setCell ⟨w.heap.size + 1, 0, none⟩ (.int .i64 kind)).setCell ⟨w.heap.size + 1, 1, none⟩ (.string name)).setCell ⟨w.heap.size + 1, 2, none⟩ (.int .i64 level)).setCell ⟨w.heap.size + 1, 3, none⟩ (.int .i64 handle)).setCell ⟨w.heap.size + 1, 4, none⟩ (.slice a1 l.length c1)) := by (with_reducible (repeat (first | exact Upd.refl _ _ | refine Upd.alloc ?_ _ | refine Upd.drew ?_ | refine Upd.drewN ?_ _ | refine Upd.setCell ?_ (by first | (left; simp; done) | (right; simp; done) | (right; simp; omega)) _)))
  refine bodyPost_ret (v := .agg #[.int .i64 kind, .string name, .int .i64 level, .int .i64 handle, .slice a1 l.length c1]) (by simp [results, Tryz.results34, go_sem, q2]) rfl ⟨_, rfl, ?_, own_upd HO.out hU2 ?_ (by simp; omega), HN.out⟩
  · exact Upd.drop (((Upd.trans (by (with_reducible (repeat (first | exact Upd.refl _ _ | refine Upd.alloc ?_ _ | refine Upd.drew ?_ | refine Upd.drewN ?_ _ | refine Upd.setCell ?_ (by first | (left; simp; done) | (right; simp; done) | (right; simp; omega)) _)))) HU.out).mono (by simp)).trans hU2) (by intro k hk; simp at hk; right; omega)
  · intro k hk
    have := (HO.out.lt k hk).1
    simp at this
    simp
    omega
end Go.Proofs.YtmcnjikafppccaaGreat
