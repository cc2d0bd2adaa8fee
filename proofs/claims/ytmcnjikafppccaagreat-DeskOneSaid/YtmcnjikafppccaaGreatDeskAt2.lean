/- A Desk that a law made itself: the first step of a Write; who waits. -/
import Derived.Test.YtmcnjikafppccaaGreatDeskStep2
import Derived.Test.YtmcnjikafppccaaGreatDeskAt
namespace Go.Proofs.YtmcnjikafppccaaGreat
open Go.RowKit

theorem wr_b (g : GoingG) (er x : Int) : (g.wr er x).b = g.b := by unfold GoingG.wr; split <;> rfl
theorem wr_imm (g : GoingG) (er x : Int) {k : Nat} (h : (g.wr er x).c.dv.ownBlock = some k ∨ (g.wr er x).lv.ownBlock = some k) : g.c.dv.ownBlock = some k ∨ g.lv.ownBlock = some k := by
  unfold GoingG.wr at h
  split at h
  · exact .inl (h.elim id id)
  · exact h
theorem d_wr {W w : World} {D : DeskG} {G : PlanG} {Q : Int → Int → List UInt8 → PlanG → Prop} (h : DAt W w D G) (c : Int) (g : GoingG) (h0 : 0 ≤ c) (h1 : c < 4) (hb : D.calls c = some g) (hk : g.c.kind = 2) (hat : g.at_ = -1) (hlen : D.effs.length ≤ 1000000)
    (hdo : PlanDoes W w G c (callV 2 g.c.name g.c.level g.c.handle (.slice none 0 0)) Q) :
    Calls Tryz.prog 19 #[.pointer (some ⟨D.b, 0, none⟩), .int .i64 c] w fun e w' => e = .returned (stepV 0 0 (.slice none 0 0) false 0) ∧ ∃ er n out ov ev' G', Q er n out G' ∧ DAt W w' (D.begun c (g.wr er (D.effs.length : Int)) ⟨c, g.c, wrErr g er, n, out, ov⟩ ev') G' ∧ G'.blocks = G.blocks ∧
      Upd (D.mut ++ G.blocks) w w' ∧ (∀ k ∈ (D.begun c (g.wr er (D.effs.length : Int)) ⟨c, g.c, wrErr g er, n, out, ov⟩ ev').mut, k ∈ D.mut ∨ w.heap.size ≤ k) := by
  refine (step_wr (R := fun _ er n out w2 => ∃ G', At W w2 G' ∧ G'.blocks = G.blocks ∧ G'.b = G.b ∧ Q er n out G') D G.blocks c g w h.d h0 h1 hb hk hat (fun k hk => ⟨h.a.plan.lt k hk, h.ap k hk⟩) hlen ?_).mono ?_
  · intro w1 hU
    rw [h.pb]
    refine (hdo w1 hU).mono ?_
    rintro e w2 ⟨er, n, out, ov, G', rfl, q1, q2, q3, q4, q5, q6, q7⟩
    exact ⟨er, n, out, ov, rfl, q1, q2, q3, G', q4, q5, q6, q7⟩
  · rintro e w' ⟨rfl, w0, w1, hU0, ⟨wA, wB, er, n, out, ov, ev', S, ⟨G', q4, q5, q6, q7⟩, hA, hS, hSS, hM, hD, hov, hevs⟩, k7, k7a, k7b, hU7⟩
    refine ⟨rfl, er, n, out, ov, ev', G', q7, ?_⟩
    have hlt := h.a.plan.lt
    have hdl := h.d.lt
    have z0 := hU0.size
    have hG1 : ∀ k ∈ G'.blocks, k ∉ S := fun k hk e => by
      rw [q5] at hk
      rcases hSS k e with e | e
      · exact (h.ap k hk).1 e
      · have := hlt k hk; omega
    have hP1 : IsPlan w1 G' := q4.plan.upd hS hG1
    have hU7' : Upd [k7] w1 w' := hU7
    have hP2 : IsPlan w' G' := hP1.upd hU7' (fun k hk e => by rw [q5] at hk; have := hlt k hk; simp at e; omega)
    have hup : Upd [] W w' := by
      refine Upd.drop (S := k7 :: (D.mut ++ G.blocks)) (((h.a.upd.trans hU0).mono (by simp)).trans ((hM.mono (by intro k hk; simp only [List.mem_cons]; exact .inr hk)).trans (hU7.mono (by intro k hk; simp at hk; simp [hk])))) ?_
      intro k hk
      right
      simp only [List.mem_cons, List.mem_append] at hk
      rcases hk with rfl | hk | hk
      · have := h.a.upd.size; omega
      · exact h.dn k hk
      · exact h.a.new k hk
    have hgs : ∀ x ∈ (D.begun c (g.wr er (D.effs.length : Int)) ⟨c, g.c, wrErr g er, n, out, ov⟩ ev').goings, x = (g.wr er (D.effs.length : Int)) ∨ x ∈ D.goings := fun x hx => goings_upd rfl hx
    have hgm := DeskG.mem_goings h0 h1 hb
    have hmut : ∀ k ∈ (D.begun c (g.wr er (D.effs.length : Int)) ⟨c, g.c, wrErr g er, n, out, ov⟩ ev').mut, k ∈ D.mut ∨ w0.heap.size ≤ k := by
      intro k hk
      rcases mem_mut.1 hk with hk | hk | ⟨x, hx, hk⟩
      · exact .inl (mem_mut.2 (.inl hk))
      · rcases hevs k hk with hk | hk
        · exact .inl (mem_mut.2 (.inr (.inl hk)))
        · exact .inr hk
      · rcases hgs x hx with hxg | hx
        · rw [hxg] at hk; exact .inl (mem_mut.2 (.inr (.inr ⟨g, hgm, (wr_b g er _).symm.trans hk⟩)))
        · exact .inl (mem_mut.2 (.inr (.inr ⟨x, hx, hk⟩)))
    have himm : ∀ k ∈ (D.begun c (g.wr er (D.effs.length : Int)) ⟨c, g.c, wrErr g er, n, out, ov⟩ ev').imm, k ∈ D.imm ∨ w0.heap.size ≤ k := by
      intro k hk
      rcases mem_imm.1 hk with ⟨x, hx, hk⟩ | ⟨x, hx, hk⟩
      · rcases hgs x hx with hxg | hx
        · rw [hxg] at hk; exact .inl (mem_imm.2 (.inl ⟨g, hgm, wr_imm g er _ hk⟩))
        · exact .inl (mem_imm.2 (.inl ⟨x, hx, hk⟩))
      · have hx' : x ∈ D.effs ∨ x = ⟨c, g.c, wrErr g er, n, out, ov⟩ := by simpa [DeskG.begun] using hx
        rcases hx' with hx | hxe
        · exact .inl (mem_imm.2 (.inr ⟨x, hx, hk⟩))
        · rw [hxe] at hk
          rcases hk with hk | hk
          · exact .inl (mem_imm.2 (.inl ⟨g, hgm, .inl hk⟩))
          · exact .inr (hov k hk)
    have hup2 : Upd (D.mut ++ G.blocks) w w' := by
      refine Upd.drop (S := k7 :: (D.mut ++ G.blocks)) ((hU0.mono (by simp)).trans ((hM.mono (by intro k hk; simp only [List.mem_cons]; exact .inr hk)).trans (hU7.mono (by intro k hk; simp at hk; simp [hk])))) ?_
      intro k hk
      simp only [List.mem_cons] at hk
      rcases hk with rfl | hk
      · exact .inr k7a
      · exact .inl hk
    refine ⟨⟨⟨hup, hP2, fun k hk => h.a.new k (q5 ▸ hk)⟩, hD.upd hU7' ?_ ?_, h.pb.trans q6.symm, fun k hk => ⟨fun e => ?_, fun e => ?_⟩, fun k hk => ?_⟩, q5, hup2, fun k hk => (hmut k hk).imp id (fun h => by omega)⟩
    · intro k hk e
      simp at e
      rcases hmut k hk with hk | hk
      · have := hdl.1 k hk; omega
      · omega
    · intro k hk e
      simp at e
      rcases himm k hk with hk | hk
      · have := hdl.2 k hk; omega
      · omega
    · rw [q5] at hk
      rcases hmut k e with e | e
      · exact (h.ap k hk).1 e
      · have := hlt k hk; omega
    · rw [q5] at hk
      rcases himm k e with e | e
      · exact (h.ap k hk).2 e
      · have := hlt k hk; omega
    · rcases hmut k hk with hk | hk
      · exact h.dn k hk
      · have := h.a.upd.size; omega

end Go.Proofs.YtmcnjikafppccaaGreat
