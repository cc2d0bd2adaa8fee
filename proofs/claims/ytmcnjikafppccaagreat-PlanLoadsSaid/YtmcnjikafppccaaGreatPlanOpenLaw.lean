/- manglelaw12.PlanOpen: the walk. -/
import Derived.Test.YtmcnjikafppccaaGreatPlanLaw
namespace Go.Proofs.YtmcnjikafppccaaGreat
open Go.RowKit

set_option maxRecDepth 100000 in
theorem open_none (G : PlanG) (c kind : Int) (name : ByteArray) (level handle : Int) (dv : Value) (w : World) (h : IsPlan w G) (hd : ∃ a n c, dv = .slice a n c) (hl : 1 ≤ level ∧ level ≤ 3)
    (hn0 : (!name.toList.isEmpty) = true) (hn1 : name.size ≤ 12) (h0 : idAt G.sh name = 0) :
    Calls Tryz.prog 27 #[.pointer (some ⟨G.b, 0, none⟩), .int .i64 c, callV kind name level handle dv] w fun e w' => e = .returned (ansV 5 0 (.slice none 0 0)) ∧ Upd [] w w' := by
  obtain ⟨a, n, cp, rfl⟩ := hd
  obtain ⟨l1, l2⟩ := hl
  have H := Lib.hid h
  have HB := Lib.hid h0
  have hc := cell_of h.plan
  have hs : G.b < w.heap.size := lt_of_heap h.plan
  clear h h0
  unfold callV
  go_enter Tryz.func27, Tryz.ntmps27
  go_wp2_with fail
  go_quiet ((go_at_call 40; exact Calls.quiet_of_same (pin_none _ _ _ (H.out.upd (S := []) (by (with_reducible (repeat (first | exact Upd.refl _ _ | refine Upd.alloc ?_ _ | refine Upd.drew ?_ | refine Upd.drewN ?_ _ | refine Upd.setCell ?_ (by first | (left; simp; done) | (right; simp; done) | (right; simp; omega)) _)))) (fun _ _ => by simp)).shelf HB.out)))
  go_wp2
  exact bodyPost_ret (v := ansV 5 0 (.slice none 0 0)) (by simp [results, Tryz.results27, go_sem, ansV]) rfl ⟨rfl, by (with_reducible (repeat (first | exact Upd.refl _ _ | refine Upd.alloc ?_ _ | refine Upd.drew ?_ | refine Upd.drewN ?_ _ | refine Upd.setCell ?_ (by first | (left; simp; done) | (right; simp; done) | (right; simp; omega)) _)))⟩

theorem at_openNone (W w : World) (G : PlanG) (c : Int) (name : ByteArray) (level handle : Int) (dv : Value) (h : At W w G) (hd : ∃ a n c, dv = .slice a n c) (hc0 : 0 ≤ c) (hc1 : c < 4) (hl : 1 ≤ level ∧ level ≤ 3)
    (hn0 : (!name.toList.isEmpty) = true) (hn1 : name.size ≤ 12) (h0 : idAt G.sh name = 0) :
    Calls Tryz.prog 11 #[.pointer (some ⟨G.b, 0, none⟩), .int .i64 c, callV 1 name level handle dv] w fun e w' => e = .returned (ansV 5 0 (.slice none 0 0)) ∧ At W w' G := by
  refine (do_open (R := fun w1 v w2 => v = ansV 5 0 (.slice none 0 0) ∧ Upd [] w1 w2) G.b c name level handle dv w hd hc0 hc1 fun w1 hU1 => ?_).mono ?_
  · refine (open_none G c 1 name level handle dv w1 (h.quiet hU1).plan hd hl hn0 hn1 h0).mono ?_
    rintro e w2 ⟨rfl, hU⟩
    exact ⟨_, [], rfl, isAns0 _ _, hU, by simp, rfl, hU⟩
  · rintro e w3 ⟨v, w1, w2, k, rfl, ⟨rfl, hU2⟩, hU1, hU3, hk1, hk2⟩
    exact ⟨rfl, h.quiet (Upd.drop (S := [k]) (((hU1.trans hU2).mono (by simp)).trans hU3) (by simp; omega))⟩

set_option maxRecDepth 100000 in
set_option maxHeartbeats 2000000 in
theorem planOpen_walk (way : Int) (W : World) (hW : Upd [] W W) : Calls Tryz.prog 4 #[.int .i64 way] W fun e w' => e = .returned (.bool true) ∧ Upd [] W w' := by
  by_cases hg : way < 0 ∨ 5 < way
  · go_enter Tryz.func4, Tryz.ntmps4
    go_wp2
    all_goals (go_ret; exact ⟨rfl, Upd.refl _ _⟩)
  obtain rfl | rfl | rfl | rfl | rfl | rfl : way = 0 ∨ way = 1 ∨ way = 2 ∨ way = 3 ∨ way = 4 ∨ way = 5 := by omega
  all_goals
    clear hg
    go_enter Tryz.func4, Tryz.ntmps4
    go_wp2_with fail
    refine (new_at 2600 9000 W W hW).mono ?_
    rintro e w1 ⟨G, rfl, hA, e1, e2, e3, e4, e5, e6, e7, e8, e9⟩
    have E : Hid (G.all = 2600 ∧ G.each = 9000 ∧ G.u = (fun _ => 0) ∧ G.sess = [] ∧ G.last = 0 ∧ G.sh.books = [] ∧ G.sh.names = []) := ⟨by rw [e1]; decide, by rw [e2]; decide, e3, e4, e6, e7, e8⟩
    have HA := Lib.hid hA
    clear e1 e2 e3 e4 e5 e6 e7 e8 e9 hA
    go_wp2_with fail
  · refine (at_open W _ G 1 1 _ _ (HA.out.quiet (by (with_reducible (repeat (first | exact Upd.refl _ _ | refine Upd.alloc ?_ _ | refine Upd.drew ?_ | refine Upd.drewN ?_ _ | refine Upd.setCell ?_ (by first | (left; simp; done) | (right; simp; done) | (right; simp; omega)) _))))) ⟨_, _, _, rfl⟩ (by omega) (by omega) (by omega) (by rw [E.out.2.1, E.out.2.2.1]; decide) (by rw [E.out.1, E.out.2.2.1]; decide) (by rw [E.out.2.2.2.1]; rfl) (by rw [E.out.2.2.2.2.1]; omega)).mono ?_
    rintro e w3 ⟨sb, cb, he, hA3, -, -⟩
    have e0 : G.last + 1 = 1 := by rw [E.out.2.2.2.2.1]; rfl
    rw [e0] at he
    subst he
    have HA3 := Lib.hid hA3
    clear hA3 e0
    unfold ansV
    go_wp2_with (go_at_call 13; refine (known12 W _ (HA3.out.upd.trans (by (with_reducible (repeat (first | exact Upd.refl _ _ | refine Upd.alloc ?_ _ | refine Upd.drew ?_ | refine Upd.drewN ?_ _ | refine Upd.setCell ?_ (by first | (left; simp; done) | (right; simp; done) | (right; simp; omega)) _)))))).mono ?_; rintro e w' ⟨rfl, hU⟩)
    go_ret
    exact ⟨rfl, hU⟩
  · refine (at_openArg W _ G 1 _ 4 _ _ (HA.out.quiet (by (with_reducible (repeat (first | exact Upd.refl _ _ | refine Upd.alloc ?_ _ | refine Upd.drew ?_ | refine Upd.drewN ?_ _ | refine Upd.setCell ?_ (by first | (left; simp; done) | (right; simp; done) | (right; simp; omega)) _))))) ⟨_, _, _, rfl⟩ (by omega) (by omega) (by omega)).mono ?_
    rintro e w3 ⟨rfl, hA3⟩
    have HA3 := Lib.hid hA3
    clear hA3
    unfold ansV
    go_wp2_with (go_at_call 13; refine (known12 W _ (HA3.out.upd.trans (by (with_reducible (repeat (first | exact Upd.refl _ _ | refine Upd.alloc ?_ _ | refine Upd.drew ?_ | refine Upd.drewN ?_ _ | refine Upd.setCell ?_ (by first | (left; simp; done) | (right; simp; done) | (right; simp; omega)) _)))))).mono ?_; rintro e w' ⟨rfl, hU⟩)
    go_ret
    exact ⟨rfl, hU⟩
  · refine (at_openArg W _ G 1 _ 1 _ _ (HA.out.quiet (by (with_reducible (repeat (first | exact Upd.refl _ _ | refine Upd.alloc ?_ _ | refine Upd.drew ?_ | refine Upd.drewN ?_ _ | refine Upd.setCell ?_ (by first | (left; simp; done) | (right; simp; done) | (right; simp; omega)) _))))) ⟨_, _, _, rfl⟩ (by omega) (by omega) (.inr (.inr (by decide)))).mono ?_
    rintro e w3 ⟨rfl, hA3⟩
    have HA3 := Lib.hid hA3
    clear hA3
    unfold ansV
    go_wp2_with (go_at_call 13; refine (known12 W _ (HA3.out.upd.trans (by (with_reducible (repeat (first | exact Upd.refl _ _ | refine Upd.alloc ?_ _ | refine Upd.drew ?_ | refine Upd.drewN ?_ _ | refine Upd.setCell ?_ (by first | (left; simp; done) | (right; simp; done) | (right; simp; omega)) _)))))).mono ?_; rintro e w' ⟨rfl, hU⟩)
    go_ret
    exact ⟨rfl, hU⟩
  · refine (at_openNone W _ G 1 _ 1 _ _ (HA.out.quiet (by (with_reducible (repeat (first | exact Upd.refl _ _ | refine Upd.alloc ?_ _ | refine Upd.drew ?_ | refine Upd.drewN ?_ _ | refine Upd.setCell ?_ (by first | (left; simp; done) | (right; simp; done) | (right; simp; omega)) _))))) ⟨_, _, _, rfl⟩ (by omega) (by omega) (by omega) (by kernel_rfl) (by decide) (idAt_nil E.out.2.2.2.2.2.2 _)).mono ?_
    rintro e w3 ⟨rfl, hA3⟩
    have HA3 := Lib.hid hA3
    clear hA3
    unfold ansV
    go_wp2_with (go_at_call 13; refine (known12 W _ (HA3.out.upd.trans (by (with_reducible (repeat (first | exact Upd.refl _ _ | refine Upd.alloc ?_ _ | refine Upd.drew ?_ | refine Upd.drewN ?_ _ | refine Upd.setCell ?_ (by first | (left; simp; done) | (right; simp; done) | (right; simp; omega)) _)))))).mono ?_; rintro e w' ⟨rfl, hU⟩)
    go_ret
    exact ⟨rfl, hU⟩
  · refine (at_open W _ G 0 1 _ _ (HA.out.quiet (by (with_reducible (repeat (first | exact Upd.refl _ _ | refine Upd.alloc ?_ _ | refine Upd.drew ?_ | refine Upd.drewN ?_ _ | refine Upd.setCell ?_ (by first | (left; simp; done) | (right; simp; done) | (right; simp; omega)) _))))) ⟨_, _, _, rfl⟩ (by omega) (by omega) (by omega) (by rw [E.out.2.1, E.out.2.2.1]; decide) (by rw [E.out.1, E.out.2.2.1]; decide) (by rw [E.out.2.2.2.1]; rfl) (by rw [E.out.2.2.2.2.1]; omega)).mono ?_
    rintro e w3 ⟨sb, cb, rfl, hA3, -, hU3⟩
    have hb := HA.out.plan.lt
    have hcb := cell_of (hU3.blk (heap_new _ _) (fun e => by have := hb _ e; omega))
    have E2 : Hid (¬ (2500 ≤ (G.opened 0 sb 0).each - (G.opened 0 sb 0).u 1 ∧ 2500 ≤ (G.opened 0 sb 0).all - sumU (G.opened 0 sb 0).u)) := by
      unfold Hid
      simp only [PlanG.opened, E.out.1, E.out.2.1, E.out.2.2.1]
      decide
    have E3 : Hid (bookAt (G.opened 0 sb 0).sh 0 = none) := bookAt_nil E.out.2.2.2.2.2.1 0
    have HA3 := Lib.hid hA3
    clear hA3 hb hU3
    unfold ansV
    go_wp2_with fail
    refine (at_openFull W _ (G.opened 0 sb 0) 1 1 _ _ (HA3.out.quiet (by (with_reducible (repeat (first | exact Upd.refl _ _ | refine Upd.alloc ?_ _ | refine Upd.drew ?_ | refine Upd.drewN ?_ _ | refine Upd.setCell ?_ (by first | (left; simp; done) | (right; simp; done) | (right; simp; omega)) _))))) ⟨_, _, _, rfl⟩ (by omega) (by omega) (by omega) E2.out E3.out).mono ?_
    rintro e w4 ⟨rfl, hA4⟩
    have HA4 := Lib.hid hA4
    clear hA4
    unfold ansV
    go_wp2_with (go_at_call 13; refine (known12 W _ (HA4.out.upd.trans (by (with_reducible (repeat (first | exact Upd.refl _ _ | refine Upd.alloc ?_ _ | refine Upd.drew ?_ | refine Upd.drewN ?_ _ | refine Upd.setCell ?_ (by first | (left; simp; done) | (right; simp; done) | (right; simp; omega)) _)))))).mono ?_; rintro e w' ⟨rfl, hU⟩)
    go_ret
    exact ⟨rfl, hU⟩
  · refine (do_wrong G.b 4 1 _ _ _ _ _ ⟨_, _, _, rfl⟩ (by omega)).mono ?_
    rintro e w3 ⟨rfl, hU3⟩
    have hA3 := HA.out.quiet (Upd.trans (by (with_reducible (repeat (first | exact Upd.refl _ _ | refine Upd.alloc ?_ _ | refine Upd.drew ?_ | refine Upd.drewN ?_ _ | refine Upd.setCell ?_ (by first | (left; simp; done) | (right; simp; done) | (right; simp; omega)) _)))) hU3)
    have HA3 := Lib.hid hA3
    clear hA3
    unfold ansV
    go_wp2_with (go_at_call 13; refine (known12 W _ (HA3.out.upd.trans (by (with_reducible (repeat (first | exact Upd.refl _ _ | refine Upd.alloc ?_ _ | refine Upd.drew ?_ | refine Upd.drewN ?_ _ | refine Upd.setCell ?_ (by first | (left; simp; done) | (right; simp; done) | (right; simp; omega)) _)))))).mono ?_; rintro e w' ⟨rfl, hU⟩)
    go_ret
    exact ⟨rfl, hU⟩
end Go.Proofs.YtmcnjikafppccaaGreat
