/- manglelaw12.known, PlanQuota: the walks. -/
import Derived.Test.YtmcnjikafppccaaGreatPlanAt
namespace Go.Proofs.YtmcnjikafppccaaGreat
open Go.RowKit

theorem bookAt_nil {G : ShelfG} (h : G.books = []) (id : Int) : bookAt G id = none := by simp [bookAt, getI, h]
theorem idAt_nil {G : ShelfG} (h : G.names = []) (k : ByteArray) : idAt G k = 0 := by simp [idAt, getS, h]

theorem ans_f0 (a b c : Value) (w : World) : (Instr.field 27 (.agg #[a, b, c]) 0).run Tryz.prog w = .ok a w := by kernel_rfl
theorem ans_f1 (a b c : Value) (w : World) : (Instr.field 27 (.agg #[a, b, c]) 1).run Tryz.prog w = .ok b w := by kernel_rfl
theorem ans_f2 (a b c : Value) (w : World) : (Instr.field 27 (.agg #[a, b, c]) 2).run Tryz.prog w = .ok c w := by kernel_rfl

set_option maxRecDepth 100000 in
theorem known12 (W w : World) (h : Upd [] W w) : Calls Tryz.prog 13 #[] w fun e w' => e = .returned (.bool true) ∧ Upd [] W w' := by
  have hf0 := ans_f0
  have hf1 := ans_f1
  go_enter Tryz.func13, Tryz.ntmps13
  go_wp2_with fail
  refine (new_at 10000 10000 W w h).mono ?_
  rintro e w1 ⟨G, rfl, hA, e1, e2, e3, e4, e5, e6, e7, e8, e9⟩
  have E : Hid (G.all = 10000 ∧ G.each = 10000 ∧ G.u = (fun _ => 0) ∧ G.sess = [] ∧ G.last = 0) := ⟨by rw [e1]; decide, by rw [e2]; decide, e3, e4, e6⟩
  have HA := Lib.hid hA
  clear e1 e2 e3 e4 e5 e6 e7 e8 e9 hA h
  go_wp2_with fail
  refine (at_none W _ G 0 2 _ _ _ _ HA.out ⟨_, _, _, rfl⟩ (by omega) (by omega) (by omega) (by rw [E.out.2.2.2.1]; rfl)).mono ?_
  rintro e w2 ⟨rfl, hA2⟩
  unfold ansV
  have HA2 := Lib.hid hA2
  clear hA2
  go_wp2_with fail
  refine (at_open W _ G 0 1 _ _ HA2.out ⟨_, _, _, rfl⟩ (by omega) (by omega) (by omega) (by rw [E.out.2.1, E.out.2.2.1]; decide) (by rw [E.out.1, E.out.2.2.1]; decide) (by rw [E.out.2.2.2.1]; rfl) (by rw [E.out.2.2.2.2]; omega)).mono ?_
  rintro e w3 ⟨sb, cb, he, hA3, -, -⟩
  have e0 : G.last + 1 = 1 := by rw [E.out.2.2.2.2]; rfl
  rw [e0] at he
  subst he
  unfold ansV
  have HA3 := Lib.hid hA3
  have E3 : Hid (sumU (G.opened 0 sb 0).u = 2500 ∧ ((G.opened 0 sb 0).sess.length : Int) = 1) := by
    refine ⟨?_, ?_⟩
    · simp only [PlanG.opened, E.out.2.2.1, sumU, addU]; decide
    · simp [PlanG.opened, E.out.2.2.2.1]
  clear hA3 e0
  go_wp2_with fail
  refine (purse_used _ _ HA3.out.plan).mono ?_
  rintro e w' ⟨he, rfl⟩
  rw [E3.out.1] at he
  subst he
  go_wp2_with fail
  refine (plan_sessions _ _ HA3.out.plan).mono ?_
  rintro e w' ⟨he, rfl⟩
  rw [E3.out.2] at he
  subst he
  go_wp2
  go_ret
  exact ⟨rfl, HA3.out.upd⟩
end Go.Proofs.YtmcnjikafppccaaGreat
