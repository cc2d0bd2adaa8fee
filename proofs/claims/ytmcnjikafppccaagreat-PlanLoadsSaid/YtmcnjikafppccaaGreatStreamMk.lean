/- Contract of stream.New. -/
import Derived.Test.YtmcnjikafppccaaGreatStreamNew
import Derived.Deep.RegionWith
import Derived.Conc.SmallLaws
namespace Go.Proofs.YtmcnjikafppccaaGreat
open Go.RowKit

theorem mk_chan (w : World) : (Instr.makeChan 100 (.int .i64 1)).run Tryz.prog w = .ok (.chan (some w.heap.size)) (w.alloc (.chan 1 #[] false 0 0 false)) := by
  have hi : (Tryz.prog.info? 25).map (fun i => (i.zero, i.size, i.bytes)) = some (some (.slice none 0 0), 1, 24) := by kernel_rfl
  obtain ⟨i0, hi, _, _, hb⟩ := info_parts hi
  exact Go.Conc.run_makeChan Tryz.underlying100 hi .i64 1 (by omega) (by rw [hb]; omega)

/-- A Stream's block. -/
def streamO (id depth : Int) (seen all kept : Value) (h0 h1 h2 : Int) (begun ended : Bool) (cb : Nat) : Obj :=
  .cells #[.int .i64 id, .int .i64 depth, seen, all, kept, .int .i64 h0, .int .i64 h1, .int .i64 h2, .bool begun, .bool ended, .chan (some cb)] 102 (0, 0)

set_option maxRecDepth 100000 in
set_option maxHeartbeats 4000000 in
theorem snew_any (dv : Value) (l : List UInt8) (id level : Int) (w : World) (h : Rd w dv (l.map B)) (hl : l.length ≤ 2000) (hdv : ∃ a c, dv = .slice a l.length c) (h1 : 1 ≤ level) (h2 : level ≤ 3) (h3 : 0 ≤ id) (h4 : id ≤ 2147483647) :
    Calls Tryz.prog 43 #[dv, .int .i64 id, .int .i64 level] w fun e w' => ∃ sb cb v', e = .returned (.pointer (some ⟨sb, 0, none⟩)) ∧ Upd [] w w' ∧ w.heap.size ≤ sb ∧ w.heap.size ≤ cb ∧
      w'.heap[sb]? = some (streamO id (depthOf level) v' (.slice none 0 0) (.slice none 0 0) 1 4 8 false false cb) ∧ w'.heap[cb]? = some (.chan 1 #[] false 0 0 false) ∧
      w'.ownsRow w.heap.size 5 1 v' l.length (l.map B) := by
  obtain ⟨a, c, rfl⟩ := hdv
  have hd0 : depthOf level ≠ 0 := by unfold depthOf; repeat' split
                                     all_goals omega
  have hd : (depthOf level == 0) = false := by simpa using hd0
  have H := Lib.hid h
  have HL : Hid (l.length ≤ 70368744177664) := by unfold Hid; omega
  clear h
  go_enter Tryz.func43, Tryz.ntmps43
  go_wp2_with (first | (go_at_call 57; refine (depth_any _ _).mono ?_; rintro e w' ⟨rfl, rfl⟩))
  have hmc := fun wx => mk_chan wx
  go_region_with (first | (go_at_call 57; refine (depth_any _ _).mono ?_; rintro e w' ⟨rfl, rfl⟩) | (go_at_call 55; refine (clone_any _ l _ (H.out.upd (S := []) (by repeat (first | exact Upd.refl _ _ | refine Upd.drewN ?_ _ | refine Upd.drew ?_ | refine Upd.alloc ?_ _)) (by simp)) HL.out).mono ?_; rintro e w1 ⟨v1, rfl, hU1, ho1, hn1⟩; obtain ⟨a1, c1, rfl⟩ := own_shape ho1) | (go_at_call 58; refine (begin_any _).mono ?_; rintro e w2 ⟨rfl, hU2⟩))
  all_goals go_wp2
  all_goals go_ret
  all_goals (have s1 := hU1.size; have s2 := hU2.size; (try simp only [World.size_alloc, World.size_drew] at s1); (try simp only [World.size_alloc] at s2))
  all_goals (refine ⟨_, _, _, rfl, ?_, ?_, ?_, heap_new' (by simp), ?_, ?_⟩)
  all_goals clear H HL
  all_goals first
    | (simp only [World.size_alloc]; omega)
    | omega
    | (with_reducible (repeat (first | exact Upd.refl _ _ | refine Upd.alloc ?_ _ | refine Upd.drew ?_ | refine Upd.drewN ?_ _ | exact hU2 | exact hU1 | refine Upd.trans ?_ hU2 | refine Upd.trans ?_ hU1)); done)
    | exact heap_old (heap_new' (by simp))
    | exact heap_old (hU2.blk (heap_new' (by simp)) (by simp))
    | exact heap_old (hU2.blk (hU1.blk (heap_new' (by simp)) (by simp)) (by simp))
    | (refine own_upd (S := []) ho1 ?_ (by simp) (by simp); with_reducible (repeat (first | exact Upd.refl _ _ | refine Upd.alloc ?_ _ | refine Upd.drew ?_ | refine Upd.drewN ?_ _ | exact hU2 | exact hU1 | refine Upd.trans ?_ hU2 | refine Upd.trans ?_ hU1)); done)
end Go.Proofs.YtmcnjikafppccaaGreat
