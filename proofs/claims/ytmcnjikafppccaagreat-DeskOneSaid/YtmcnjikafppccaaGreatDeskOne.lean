/- DeskOne: the walk. -/
import Derived.Test.YtmcnjikafppccaaGreatDeskAt2
import Derived.Test.YtmcnjikafppccaaGreatDeskLaw
import Derived.Test.YtmcnjikafppccaaGreatPlanLoadNo
namespace Go.Proofs.YtmcnjikafppccaaGreat
open Go.RowKit

/-- A Plan on which nothing is. -/
structure Bare (G : PlanG) : Prop where
  sess : G.sess = []
  loads : G.loads = []
  books : G.sh.books = []
  names : G.sh.names = []
theorem Bare.ok {G : PlanG} (h : Bare G) : PlOk G :=
  ⟨⟨by rw [h.books]; simp, by rw [h.books]; simp, by rw [h.names]; simp, by rw [h.names]; simp, by rw [h.names]; simp, by rw [h.books]; simp, by rw [h.books]; simp⟩, by rw [h.loads]; simp⟩
theorem Bare.blocks {G : PlanG} (h : Bare G) (k : ByteArray) : (G.retireG k).blocks = G.blocks ∧ (G.retireG k).b = G.b := by
  have e : G.sh.retG k = G.sh := by unfold ShelfG.retG; rw [h.names]; rfl
  unfold PlanG.retireG
  rw [e]
  exact ⟨rfl, rfl⟩

theorem pd_retire {W w : World} {G : PlanG} (h : At W w G) (hB : Bare G) (c : Int) (name : ByteArray) (level handle : Int) (dv : Value) (hd : ∃ a n c, dv = .slice a n c) (hc0 : 0 ≤ c) (hc1 : c < 4) :
    PlanDoes W w G c (callV 7 name level handle dv) (fun _ _ _ _ => True) := by
  intro w1 h1
  refine (do_retire (R := fun w1 v w2 => v = ansV (retE G.sh name) 0 (.slice none 0 0) ∧ IsPlan w2 (G.retireG name) ∧ Upd G.blocks w1 w2) G.b c name level handle dv w1 hd hc0 hc1 fun w2 h2 => ?_).mono ?_
  · refine (retire_plan G 7 name level handle dv w2 ((h.quiet h1).quiet h2).plan hB.ok hd).mono ?_
    rintro e w3 ⟨rfl, hP, hU⟩
    exact ⟨_, _, rfl, isAns0 _ _, hU, fun k hk => (h.quiet h1).plan.lt k hk, rfl, hP, hU⟩
  · rintro e w3 ⟨v, w2, w4, k, rfl, ⟨rfl, hP, hU⟩, h2, h3, k1, k2⟩
    obtain ⟨b1, b2⟩ := hB.blocks name
    have hlt := (h.quiet h1).plan.lt
    refine ⟨_, _, [], _, G.retireG name, rfl, ?_, bytes_nil _, by simp [Value.ownBlock], ⟨?_, hP.upd h3 ?_, by rw [b1]; exact h.new⟩, b1, b2, trivial⟩
    · refine Upd.drop (S := k :: G.blocks) (((h2.mono (by simp)).trans (hU.mono (by intro j hj; simp [hj]))).trans (h3.mono (by simp))) ?_
      intro j hj
      rcases List.mem_cons.1 hj with rfl | hj
      · exact .inr k1
      · exact .inl hj
    · refine Upd.drop (S := k :: G.blocks) ((((h.upd.trans h1).trans h2).mono (by simp)).trans ((hU.mono (by intro j hj; simp [hj])).trans (h3.mono (by simp)))) ?_
      intro j hj
      rcases List.mem_cons.1 hj with rfl | hj
      · have := (h.upd.trans h1).size; exact .inr (by omega)
      · exact .inr (h.new j hj)
    · intro j hj e
      rw [b1] at hj
      have := hlt j hj
      simp at e
      omega

theorem pd_any {W w : World} {G : PlanG} (h : At W w G) (hB : Bare G) (c kind : Int) (dv : Value) (hr : Rd w dv []) (hd : ∃ a c, dv = .slice a 0 c) (hc0 : 0 ≤ c) (hc1 : c < 4) :
    PlanDoes W w G c (callV kind ⟨#[]⟩ 0 0 dv) (fun _ _ _ _ => True) := by
  obtain ⟨a, cp, rfl⟩ := hd
  have hd : ∃ a' n' c', Value.slice a 0 cp = .slice a' n' c' := ⟨_, _, _, rfl⟩
  by_cases k1 : kind = 1
  · subst k1
    refine PlanDoes.of_quiet (er := 1) (n := 0) h trivial fun w1 h1 => ?_
    refine (do_open (R := fun w1 v w2 => v = ansV 1 0 (.slice none 0 0) ∧ Upd [] w1 w2) G.b c ⟨#[]⟩ 0 0 _ w1 hd hc0 hc1 fun w2 h2 => ?_).mono ?_
    · refine (open_arg G c 1 ⟨#[]⟩ 0 0 _ w2 hd (by omega)).mono ?_
      rintro e w3 ⟨rfl, hU⟩
      exact ⟨_, [], rfl, isAns0 _ _, hU, by simp, rfl, hU⟩
    · rintro e w3 ⟨v, w2, w4, k, rfl, ⟨rfl, hU2⟩, hU1, hU3, hk1, hk2⟩
      exact ⟨rfl, Upd.drop (S := [k]) (((hU1.trans hU2).mono (by simp)).trans hU3) (by simp; omega)⟩
  · by_cases k2 : kind = 2 ∨ kind = 3 ∨ kind = 4 ∨ kind = 5
    · exact PlanDoes.of_quiet (er := 7) (n := 0) h trivial fun w1 h1 => do_none G c kind _ 0 0 _ w1 (h.quiet h1).plan hd k2 hc0 hc1 (by rw [hB.sess]; rfl)
    · by_cases k6 : kind = 6
      · subst k6
        refine PlanDoes.of_quiet (er := 1) (n := 0) h trivial fun w1 h1 => ?_
        refine (do_load (R := fun w1 v w2 => v = ansV 1 0 (.slice none 0 0) ∧ Upd [] w1 w2) G.b c ⟨#[]⟩ 0 0 _ w1 hd hc0 hc1 fun w2 h2 => ?_).mono ?_
        · have hi : isD ⟨#[]⟩ [] = 1 := by unfold isD; rw [if_pos (.inl (by decide))]
          have := load_bad G.b c 6 ⟨#[]⟩ 0 0 (.slice a 0 cp) [] w2 (hr.upd (S := []) (h1.trans h2) (by simp)) ⟨a, cp, rfl⟩ (by simp) (by decide) (by rw [hi]; decide)
          rw [hi] at this
          refine this.mono ?_
          rintro e w3 ⟨rfl, hU⟩
          exact ⟨_, [], rfl, isAns0 _ _, hU, by simp, rfl, hU⟩
        · rintro e w3 ⟨v, w2, w4, k, rfl, ⟨rfl, hU2⟩, hU1, hU3, hk1, hk2⟩
          exact ⟨rfl, Upd.drop (S := [k]) (((hU1.trans hU2).mono (by simp)).trans hU3) (by simp; omega)⟩
      · by_cases k7 : kind = 7
        · subst k7
          exact pd_retire h hB c _ 0 0 _ hd hc0 hc1
        · exact PlanDoes.of_quiet (er := 1) (n := 0) h trivial fun w1 h1 => do_wrong G.b c kind _ 0 0 _ w1 hd (by omega)

theorem step_one {W w : World} {D : DeskG} {G : PlanG} (h : DAt W w D G) (hB : Bare G) (c : Int) (g : GoingG) (h0 : 0 ≤ c) (h1 : c < 4) (hb : D.calls c = some g) (hat : g.at_ = -1) (hn : g.c.name = ⟨#[]⟩) (hl : g.c.level = 0) (hh : g.c.handle = 0) (hdd : g.c.data = []) (hlen : D.effs.length ≤ 1000000) :
    Calls Tryz.prog 19 #[.pointer (some ⟨D.b, 0, none⟩), .int .i64 c] w fun e w' => e = .returned (stepV 0 0 (.slice none 0 0) false 0) ∧ ∃ D' G', DAt W w' D' G' ∧ D'.b = D.b ∧ (D'.calls c).isSome := by
  by_cases hk : g.c.kind = 2
  · refine (d_wr (Q := fun _ _ _ _ => True) h c g h0 h1 hb hk hat hlen ?_).mono ?_
    · rw [hn, hl, hh]
      exact pd_any h.a hB c 2 _ (Rd.nil _) ⟨_, _, rfl⟩ h0 h1
    · rintro e w' ⟨rfl, er, n, out, ov, ev', G', -, hD, -⟩
      exact ⟨rfl, _, G', hD, rfl, by simp [DeskG.begun, updC]⟩
  · refine (d_begin (Q := fun _ _ _ _ => True) h c g h0 h1 hb hk hat hlen ?_).mono ?_
    · have hg := (h.d.going g (DeskG.mem_goings h0 h1 hb)).data
      obtain ⟨a, cp, hv⟩ := own_shape hg
      have hr := (Rd.of_own hg).1
      unfold CallG.v
      rw [hn, hl, hh]
      rw [hdd] at hr hv
      exact pd_any h.a hB c _ _ hr ⟨a, cp, hv⟩ h0 h1
    · rintro e w' ⟨rfl, er, n, out, ov, ev', G', -, hD, -⟩
      exact ⟨rfl, _, G', hD, rfl, by simp [DeskG.begun, updC]⟩

set_option maxRecDepth 100000 in
set_option maxHeartbeats 2000000 in
theorem one_walk (client kind : Int) (W : World) (hW : Upd [] W W) : Calls Tryz.prog 8 #[.int .i64 client, .int .i64 kind] W fun e w' => e = .returned (.bool true) ∧ Upd [] W w' := by
  by_cases hin : 0 ≤ client ∧ client < 4
  · obtain ⟨c0, c1⟩ := hin
    go_enter Tryz.func8, Tryz.ntmps8
    go_wp2_with fail
    refine (dat_new 9000 9000 W W hW).mono ?_
    rintro e w1 ⟨D, G, rfl, hA, e1, e2, e3, e4, e5, e6, e7, e8, e9, e10, e11⟩
    have E : Hid (D.effs = [] ∧ D.calls = (fun _ => none) ∧ Bare G) := ⟨e1, e2, e6, e7, e9, e10⟩
    have HA := Lib.hid hA
    clear e1 e2 e3 e4 e5 e6 e7 e8 e9 e10 e11 hA hW
    go_wp2_with fail
    refine (d_invoke HA.out client kind _ 0 0 _ [] c0 c1 (by rw [E.out.2.1]) (Rd.nil _) (by simp) ⟨_, _, rfl⟩).mono ?_
    rintro e w2 ⟨g, rfl, hA2, -, p1, p2, p3, p4, p5, p6, p7, p8⟩
    have P : Hid (g.at_ = -1 ∧ g.c.name = ⟨#[]⟩ ∧ g.c.level = 0 ∧ g.c.handle = 0 ∧ g.c.data = []) := ⟨p1, p5, p6, p7, p8⟩
    have HA2 := Lib.hid hA2
    clear hA2 p1 p2 p3 p4 p5 p6 p7 p8
    go_wp2_with fail
    refine (invoke_busy (D.invoked client g) client 1 _ 1 0 _ _ ⟨_, _, _, rfl⟩ HA2.out.d c0 c1 (by simp [DeskG.invoked, updC])).mono ?_
    rintro e w3 ⟨rfl, hU3⟩
    have HA3 := Lib.hid (HA2.out.quiet hU3)
    clear hU3
    go_wp2_with fail
    refine (step_one HA3.out E.out.2.2 client g c0 c1 (by simp [DeskG.invoked, updC]) P.out.1 P.out.2.1 P.out.2.2.1 P.out.2.2.2.1 P.out.2.2.2.2 (by show D.effs.length ≤ _; rw [E.out.1]; simp)).mono ?_
    rintro e w4 ⟨rfl, D', G', hA4, hb, hs⟩
    have HA4 := Lib.hid hA4
    have HS := Lib.hid hs
    have hb' : D'.b = D.b := hb
    have HB := Lib.hid hb'
    clear hA4 hs hb hb'
    unfold stepV ansV
    go_wp2_with fail
    have hw : ∀ wx, Upd [] w4 wx → Calls Tryz.prog 20 #[.pointer (some ⟨D.b, 0, none⟩), .int .i64 client] wx fun e w' => e = .returned (.bool true) ∧ w' = wx := fun wx hU => by
      have := waits_any D' client wx (HA4.out.quiet hU).d c0 c1
      rw [HB.out, HS.out] at this
      exact this
    have HW := Lib.hid hw
    clear hw
    refine (HW.out _ (by (with_reducible (repeat (first | exact Upd.refl _ _ | refine Upd.alloc ?_ _ | refine Upd.drew ?_ | refine Upd.drewN ?_ _ | refine Upd.setCell ?_ (by first | (left; simp; done) | (right; simp; done) | (right; simp; omega)) _))))).mono ?_
    rintro e w5 ⟨rfl, rfl⟩
    go_wp2_with fail
    refine (known13 W _ (Upd.trans HA4.out.a.upd (by (with_reducible (repeat (first | exact Upd.refl _ _ | refine Upd.alloc ?_ _ | refine Upd.drew ?_ | refine Upd.drewN ?_ _ | refine Upd.setCell ?_ (by first | (left; simp; done) | (right; simp; done) | (right; simp; omega)) _)))))).mono ?_
    rintro e w6 ⟨rfl, hU6⟩
    go_wp2
    go_ret
    exact ⟨rfl, hU6⟩
  · have hout : client < 0 ∨ 4 ≤ client := by omega
    have HOUT := Lib.hid hout
    have hdec : (decide (0 ≤ client) && decide (client < 4)) = false := by
      rw [Bool.and_eq_false_iff, decide_eq_false_iff_not, decide_eq_false_iff_not]
      omega
    have HDEC := Lib.hid hdec
    have main : ∀ (hc : (client < 0) ∨ (0 ≤ client ∧ 4 ≤ client)), Calls Tryz.prog 8 #[.int .i64 client, .int .i64 kind] W fun e w' => e = .returned (.bool true) ∧ Upd [] W w' := by
      intro hc
      clear hout hdec hin
      rcases hc with hc | ⟨hc1, hc2⟩
      all_goals
        try have hd4 : decide (client < 4) = false := decide_eq_false (by omega)
        go_enter Tryz.func8, Tryz.ntmps8
        go_wp2_with fail
        refine (dat_new 9000 9000 W W hW).mono ?_
        rintro e w1 ⟨D, G, rfl, hA, e1, e2, e3, e4, e5, e6, e7, e8, e9, e10, e11⟩
        have HA := Lib.hid hA
        clear e1 e2 e3 e4 e5 e6 e7 e8 e9 e10 e11 hA
        go_wp2_with fail
        refine (invoke_no _ client kind _ 0 0 _ _ ⟨_, _, _, rfl⟩ HOUT.out).mono ?_
        rintro e w2 ⟨rfl, hU2⟩
        have HA2 := Lib.hid (HA.out.quiet hU2)
        clear hU2
        go_wp2_with fail
        refine (invoke_no _ client 1 _ 1 0 _ _ ⟨_, _, _, rfl⟩ HOUT.out).mono ?_
        rintro e w3 ⟨rfl, hU3⟩
        have HA3 := Lib.hid (HA2.out.quiet hU3)
        clear hU3
        go_wp2_with fail
        refine (step_no _ client _ HOUT.out).mono ?_
        rintro e w4 ⟨rfl, hU4⟩
        have HA4 := Lib.hid (HA3.out.quiet hU4)
        clear hU4
        unfold stepV ansV
        go_wp2_with fail
        refine (waits_no _ client _ HOUT.out).mono ?_
        rintro e w5 ⟨rfl, rfl⟩
        go_wp2_with fail
        refine (known13 W _ (Upd.trans HA4.out.a.upd (by (with_reducible (repeat (first | exact Upd.refl _ _ | refine Upd.alloc ?_ _ | refine Upd.drew ?_ | refine Upd.drewN ?_ _ | refine Upd.setCell ?_ (by first | (left; simp; done) | (right; simp; done) | (right; simp; omega)) _)))))).mono ?_
        rintro e w6 ⟨rfl, hU6⟩
        go_wp2
        go_ret
        exact ⟨rfl, hU6⟩
    exact main (by omega)
end Go.Proofs.YtmcnjikafppccaaGreat
