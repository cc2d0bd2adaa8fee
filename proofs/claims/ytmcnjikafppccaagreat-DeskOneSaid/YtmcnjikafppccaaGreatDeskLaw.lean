/- manglelaw13.known; DeskFirst: the walks. -/
import Derived.Test.YtmcnjikafppccaaGreatDeskAt
import Derived.Test.YtmcnjikafppccaaGreatPlanLaw
namespace Go.Proofs.YtmcnjikafppccaaGreat
open Go.RowKit

theorem bytes_nil (w : World) : Bytes w (.slice none 0 0) [] := World.ownsRow_nil _ _ _ _
theorem PlanDoes.of_quiet {W w : World} {G : PlanG} {c : Int} {cv : Value} {er n : Int} (h : At W w G) {Q : Int → Int → List UInt8 → PlanG → Prop} (hq : Q er n [] G)
    (hc : ∀ w1, Upd [] w w1 → Calls Tryz.prog 11 #[.pointer (some ⟨G.b, 0, none⟩), .int .i64 c, cv] w1 fun e w2 => e = .returned (ansV er n (.slice none 0 0)) ∧ Upd [] w1 w2) : PlanDoes W w G c cv Q := by
  intro w1 h1
  refine (hc w1 h1).mono ?_
  rintro e w2 ⟨rfl, hU⟩
  exact ⟨er, n, [], .slice none 0 0, G, rfl, hU.mono (by simp), bytes_nil _, by simp [Value.ownBlock], (h.quiet h1).quiet hU, rfl, rfl, hq⟩

theorem do_none (G : PlanG) (c kind : Int) (name : ByteArray) (level handle : Int) (dv : Value) (w : World) (h : IsPlan w G) (hd : ∃ a n c, dv = .slice a n c) (hk : kind = 2 ∨ kind = 3 ∨ kind = 4 ∨ kind = 5) (hc0 : 0 ≤ c) (hc1 : c < 4) (hn : getI handle G.sess = none) :
    Calls Tryz.prog 11 #[.pointer (some ⟨G.b, 0, none⟩), .int .i64 c, callV kind name level handle dv] w fun e w' => e = .returned (ansV 7 0 (.slice none 0 0)) ∧ Upd [] w w' := by
  refine (do_session (R := fun w1 v w2 => v = ansV 7 0 (.slice none 0 0) ∧ Upd [] w1 w2) G.b c kind hk name level handle dv w hd hc0 hc1 fun w1 hU1 => ?_).mono ?_
  · refine (session_none G c kind name level handle dv w1 (h.upd hU1 (fun _ _ => by simp)) hd hn).mono ?_
    rintro e w2 ⟨rfl, hU⟩
    exact ⟨_, [], rfl, isAns0 _ _, hU, by simp, rfl, hU⟩
  · rintro e w3 ⟨v, w1, w2, k, rfl, ⟨rfl, hU2⟩, hU1, hU3, hk1, hk2⟩
    exact ⟨rfl, Upd.drop (S := [k]) (((hU1.trans hU2).mono (by simp)).trans hU3) (by simp; omega)⟩

set_option maxRecDepth 100000 in
set_option maxHeartbeats 2000000 in
theorem known13 (W w : World) (h : Upd [] W w) : Calls Tryz.prog 21 #[] w fun e w' => e = .returned (.bool true) ∧ Upd [] W w' := by
  have hf0 := ans_f0
  go_enter Tryz.func21, Tryz.ntmps21
  go_wp2_with fail
  refine (dat_new 10000 10000 W w h).mono ?_
  rintro e w1 ⟨D, G, rfl, hA, e1, e2, e3, e4, e5, e6, e7, e8, e9, e10, e11⟩
  have E : Hid (D.effs = [] ∧ D.calls = (fun _ => none) ∧ G.sess = []) := ⟨e1, e2, e6⟩
  have HA := Lib.hid hA
  clear e1 e2 e3 e4 e5 e6 e7 e8 e9 e10 e11 hA h
  go_wp2_with fail
  refine (d_invoke HA.out 1 3 _ _ 5 _ [] (by omega) (by omega) (by rw [E.out.2.1]) (Rd.nil _) (by simp) ⟨_, _, rfl⟩).mono ?_
  rintro e w2 ⟨g, rfl, hA2, -, p1, p2, p3, p4, p5, p6, p7, p8⟩
  have P : Hid (g.at_ = -1 ∧ g.left = [] ∧ g.lv = .slice none 0 0 ∧ g.c.kind = 3 ∧ g.c.handle = 5) := ⟨p1, p2, p3, p4, p7⟩
  have HA2 := Lib.hid hA2
  clear hA2 p1 p2 p3 p4 p5 p6 p7 p8
  go_wp2_with fail
  refine (invoke_busy (D.invoked 1 g) 1 0 _ 0 0 _ _ ⟨_, _, _, rfl⟩ HA2.out.d (by omega) (by omega) (by simp [DeskG.invoked, updC])).mono ?_
  rintro e w3 ⟨rfl, hU3⟩
  have HA3 := Lib.hid (HA2.out.quiet hU3)
  clear hU3
  go_wp2_with fail
  have hpd : PlanDoes W w3 G 1 g.c.v (fun er n out G' => er = 7 ∧ n = 0 ∧ out = [] ∧ G' = G) := by
    refine PlanDoes.of_quiet HA3.out.a ⟨rfl, rfl, rfl, rfl⟩ (fun w4 h4 => ?_)
    have hc := HA3.out.d.going g (DeskG.mem_goings (D := D.invoked 1 g) (c := 1) (by omega) (by omega) (by simp [DeskG.invoked, updC]))
    unfold CallG.v
    rw [P.out.2.2.2.1, P.out.2.2.2.2]
    obtain ⟨da, dc, hdv⟩ := own_shape hc.data
    exact do_none G 1 3 _ _ 5 _ w4 (HA3.out.a.plan.upd h4 (fun _ _ => by simp)) ⟨_, _, _, hdv⟩ (by omega) (by omega) (by omega) (by rw [E.out.2.2]; rfl)
  have HPD := Lib.hid hpd
  clear hpd
  refine (d_begin HA3.out 1 g (by omega) (by omega) (by simp [DeskG.invoked, updC]) (by rw [P.out.2.2.2.1]; decide) P.out.1 (by show D.effs.length ≤ _; rw [E.out.1]; simp) HPD.out).mono ?_
  rintro e w4 ⟨rfl, er, n, out, ov, ev', G', ⟨rfl, rfl, rfl, rfl⟩, hA4, -, -, -⟩
  have HA4 := Lib.hid hA4
  clear hA4
  unfold stepV ansV
  go_wp2_with fail
  have hD0 : (D.invoked 1 g).effs.length = 0 := by show D.effs.length = 0; rw [E.out.1]; rfl
  have hD1 : ((D.invoked 1 g).begun 1 { g with at_ := ((D.invoked 1 g).effs.length : Int) } ⟨1, g.c, 7, 0, [], ov⟩ ev').effs = [⟨1, g.c, 7, 0, [], ov⟩] := by show D.effs ++ _ = _; rw [E.out.1]; rfl
  have HD0 := Lib.hid hD0
  have HD1 := Lib.hid hD1
  clear hD0 hD1
  refine (d_end (HA4.out.quiet (by (with_reducible (repeat (first | exact Upd.refl _ _ | refine Upd.alloc ?_ _ | refine Upd.drew ?_ | refine Upd.drewN ?_ _ | refine Upd.setCell ?_ (by first | (left; simp; done) | (right; simp; done) | (right; simp; omega)) _))))) 1 { g with at_ := ((D.invoked 1 g).effs.length : Int) } 0 ⟨1, g.c, 7, 0, [], ov⟩ (by omega) (by omega) (by simp [DeskG.begun, updC]) (by simp [HD0.out]) (by rw [HD1.out]; rfl) P.out.2.1 (by simp) (by rw [HD1.out]; simp)).mono ?_
  rintro e w5 ⟨ov', rfl, hA5, ho5, -, -⟩
  obtain ⟨oa, oc, rfl⟩ := own_shape ho5
  have HA5 := Lib.hid hA5
  clear hA5 ho5
  unfold stepV ansV
  go_wp2_with fail
  refine (step_idle _ 1 _ (HA5.out.quiet (by (with_reducible (repeat (first | exact Upd.refl _ _ | refine Upd.alloc ?_ _ | refine Upd.drew ?_ | refine Upd.drewN ?_ _ | refine Upd.setCell ?_ (by first | (left; simp; done) | (right; simp; done) | (right; simp; omega)) _))))).d (by omega) (by omega) (by simp [DeskG.ended, updC])).mono ?_
  rintro e w6 ⟨rfl, hU6⟩
  have HA6 := Lib.hid (HA5.out.quiet (Upd.trans (by (with_reducible (repeat (first | exact Upd.refl _ _ | refine Upd.alloc ?_ _ | refine Upd.drew ?_ | refine Upd.drewN ?_ _ | refine Upd.setCell ?_ (by first | (left; simp; done) | (right; simp; done) | (right; simp; omega)) _)))) hU6))
  have lx := lt_of_heap (hU6.blk (heap_new w5 _) (by simp))
  have kx := cell_of (hU6.blk (heap_new w5 _) (by simp))
  clear hU6
  unfold stepV ansV
  go_wp2_with fail
  have HE : Hid ((((D.invoked 1 g).begun 1 { g with at_ := ((D.invoked 1 g).effs.length : Int) } ⟨1, g.c, 7, 0, [], ov⟩ ev').ended 1).effs = [⟨1, g.c, 7, 0, [], ov⟩]) := HD1.out
  refine (effects_len _ _ (HA6.out.quiet (by (with_reducible (repeat (first | exact Upd.refl _ _ | refine Upd.alloc ?_ _ | refine Upd.drew ?_ | refine Upd.drewN ?_ _ | refine Upd.setCell ?_ (by first | (left; simp; done) | (right; simp; done) | (right; simp; omega)) _))))).d (by rw [HE.out]; simp) (by rw [HE.out]; intro e he; simp at he; rw [he]; simp)).mono ?_
  rintro e w7 ⟨a7, c7, he, hU7⟩
  have hl : (((D.invoked 1 g).begun 1 { g with at_ := ((D.invoked 1 g).effs.length : Int) } ⟨1, g.c, 7, 0, [], ov⟩ ev').ended 1).effs.length = 1 := by rw [HE.out]; rfl
  rw [hl] at he
  subst he
  have HA7 := Lib.hid (HA6.out.quiet (Upd.trans (by (with_reducible (repeat (first | exact Upd.refl _ _ | refine Upd.alloc ?_ _ | refine Upd.drew ?_ | refine Upd.drewN ?_ _ | refine Upd.setCell ?_ (by first | (left; simp; done) | (right; simp; done) | (right; simp; omega)) _)))) hU7))
  clear hU7 hl
  go_wp2
  go_ret
  exact ⟨rfl, HA7.out.a.upd⟩
end Go.Proofs.YtmcnjikafppccaaGreat
