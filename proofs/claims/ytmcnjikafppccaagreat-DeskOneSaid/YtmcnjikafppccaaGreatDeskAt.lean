/- A Desk that a law made itself: what each call does to it. -/
import Derived.Test.YtmcnjikafppccaaGreatDeskEffects
namespace Go.Proofs.YtmcnjikafppccaaGreat
open Go.RowKit

structure DAt (W w : World) (D : DeskG) (G : PlanG) : Prop where
  a : At W w G
  d : IsDesk w D
  pb : D.pb = G.b
  ap : ∀ k ∈ G.blocks, k ∉ D.mut ∧ k ∉ D.imm
  dn : ∀ k ∈ D.mut, W.heap.size ≤ k
theorem DAt.quiet {W w w' : World} {D : DeskG} {G : PlanG} (h : DAt W w D G) (hU : Upd [] w w') : DAt W w' D G := ⟨h.a.quiet hU, h.d.quiet hU, h.pb, h.ap, h.dn⟩

theorem dat_new (all each : Int) (W w : World) (hW : Upd [] W w) :
    Calls Tryz.prog 16 #[.int .i64 all, .int .i64 each] w fun e w' => ∃ D G, e = .returned (.pointer (some ⟨D.b, 0, none⟩)) ∧ DAt W w' D G ∧ D.effs = [] ∧ D.calls = (fun _ => none) ∧
      G.all = min (max all 0) 1099511627776 ∧ G.each = min (max each 0) 1099511627776 ∧ G.u = (fun _ => 0) ∧ G.sess = [] ∧ G.loads = [] ∧ G.last = 0 ∧ G.sh.books = [] ∧ G.sh.names = [] ∧ G.sh.last = 0 := by
  refine (dnew_any all each W w hW).mono ?_
  rintro e w' ⟨D, G, rfl, hA, hD, h1, h2, h3, h4, h5, hr⟩
  refine ⟨D, G, rfl, ⟨hA, hD, h1, fun k hk => ⟨h4 k hk, ?_⟩, h5⟩, h2, h3, hr⟩
  simp [DeskG.imm, DeskG.goings, h2, h3]

theorem goings_mem {D : DeskG} {x : GoingG} : x ∈ D.goings ↔ ∃ c : Int, 0 ≤ c ∧ c < 4 ∧ D.calls c = some x := by
  simp only [DeskG.goings, List.mem_filterMap, id, List.mem_cons, List.not_mem_nil, or_false]
  constructor
  · rintro ⟨o, ho, rfl⟩
    rcases ho with ho | ho | ho | ho
    · exact ⟨0, by omega, by omega, ho.symm⟩
    · exact ⟨1, by omega, by omega, ho.symm⟩
    · exact ⟨2, by omega, by omega, ho.symm⟩
    · exact ⟨3, by omega, by omega, ho.symm⟩
  · rintro ⟨c, h0, h1, hc⟩
    refine ⟨some x, ?_, rfl⟩
    obtain rfl | rfl | rfl | rfl : c = 0 ∨ c = 1 ∨ c = 2 ∨ c = 3 := by omega
    all_goals simp [hc]
theorem mem_mut {D : DeskG} {k : Nat} : k ∈ D.mut ↔ k = D.b ∨ D.ev.ownBlock = some k ∨ ∃ g ∈ D.goings, g.b = k := by
  simp only [DeskG.mut, List.mem_cons, List.mem_append, List.mem_map, Option.mem_toList]
theorem mem_imm {D : DeskG} {k : Nat} : k ∈ D.imm ↔ (∃ g ∈ D.goings, g.c.dv.ownBlock = some k ∨ g.lv.ownBlock = some k) ∨ ∃ e ∈ D.effs, e.c.dv.ownBlock = some k ∨ e.ov.ownBlock = some k := by
  simp only [DeskG.imm, List.mem_append, List.mem_flatMap, Option.mem_toList]
/-- Calls that are set: what goes on then. -/
theorem goings_upd {D D' : DeskG} {c : Int} {g : GoingG} (hc : D'.calls = updC D.calls c (some g)) {x : GoingG} (hx : x ∈ D'.goings) : x = g ∨ x ∈ D.goings := by
  obtain ⟨i, h0, h1, hi⟩ := goings_mem.1 hx
  rw [hc] at hi
  unfold updC at hi
  split at hi
  · left; simpa using hi.symm
  · exact .inr (goings_mem.2 ⟨i, h0, h1, hi⟩)

theorem d_invoke {W w : World} {D : DeskG} {G : PlanG} (h : DAt W w D G) (c kind : Int) (name : ByteArray) (level handle : Int) (dv : Value) (l : List UInt8) (h0 : 0 ≤ c) (h1 : c < 4) (hb : D.calls c = none)
    (hr : Rd w dv (l.map B)) (hl : l.length ≤ 3200) (hd : ∃ a c, dv = .slice a l.length c) :
    Calls Tryz.prog 18 #[.pointer (some ⟨D.b, 0, none⟩), .int .i64 c, callV kind name level handle dv] w fun e w' => ∃ g, e = .returned (.int .i64 0) ∧ DAt W w' (D.invoked c g) G ∧ Upd [D.b] w w' ∧
      g.at_ = -1 ∧ g.left = [] ∧ g.lv = .slice none 0 0 ∧ g.c.kind = kind ∧ g.c.name = name ∧ g.c.level = level ∧ g.c.handle = handle ∧ g.c.data = l := by
  refine (invoke_ok D c kind name level handle dv l w h.d h0 h1 hb hr hl hd).mono ?_
  rintro e w' ⟨g, rfl, hU, hD, p1, p2, p3, p4, p5, p6, p7, p8, p9, p10⟩
  have hDb : D.b ∈ D.mut := by simp [DeskG.mut]
  have hG : ∀ k ∈ G.blocks, k ∉ [D.b] := fun k hk e => (h.ap k hk).1 (by simp at e; rw [e]; exact hDb)
  have hlt := h.a.plan.lt
  refine ⟨g, rfl, ⟨⟨?_, h.a.plan.upd hU hG, h.a.new⟩, hD, h.pb, fun k hk => ⟨fun hm => ?_, fun hm => ?_⟩, fun k hm => ?_⟩, hU, p1, p2, p3, p4, p5, p6, p7, p8⟩
  · exact Upd.drop (S := [D.b]) ((h.a.upd.mono (by simp)).trans hU) (fun k hk => .inr (by simp at hk; rw [hk]; exact h.dn _ hDb))
  · rcases mem_mut.1 hm with hm | hm | ⟨x, hx, hm⟩
    · exact (h.ap k hk).1 (mem_mut.2 (.inl hm))
    · exact (h.ap k hk).1 (mem_mut.2 (.inr (.inl hm)))
    · rcases goings_upd (D := D) (D' := D.invoked c g) rfl hx with rfl | hx
      · have := hlt k hk; omega
      · exact (h.ap k hk).1 (mem_mut.2 (.inr (.inr ⟨x, hx, hm⟩)))
  · rcases mem_imm.1 hm with ⟨x, hx, hq⟩ | ⟨x, hx, hq⟩
    · rcases goings_upd (D := D) (D' := D.invoked c g) rfl hx with hxg | hx
      · rw [hxg] at hq
        rcases hq with hq | hq
        · have := p10 k hq; have := hlt k hk; omega
        · rw [p3] at hq; simp [Value.ownBlock] at hq
      · exact (h.ap k hk).2 (mem_imm.2 (.inl ⟨x, hx, hq⟩))
    · exact (h.ap k hk).2 (mem_imm.2 (.inr ⟨x, hx, hq⟩))
  · rcases mem_mut.1 hm with hm | hm | ⟨x, hx, hm⟩
    · exact h.dn k (mem_mut.2 (.inl hm))
    · exact h.dn k (mem_mut.2 (.inr (.inl hm)))
    · rcases goings_upd (D := D) (D' := D.invoked c g) rfl hx with rfl | hx
      · have := h.a.upd.size; omega
      · exact h.dn k (mem_mut.2 (.inr (.inr ⟨x, hx, hm⟩)))

/-- What a Plan that is At makes of a call, as the Desk wants it. -/
def PlanDoes (W w : World) (G : PlanG) (c : Int) (cv : Value) (Q : Int → Int → List UInt8 → PlanG → Prop) : Prop :=
  ∀ w1, Upd [] w w1 → Calls Tryz.prog 11 #[.pointer (some ⟨G.b, 0, none⟩), .int .i64 c, cv] w1 fun e w2 => ∃ er n out ov G', e = .returned (ansV er n ov) ∧ Upd G.blocks w1 w2 ∧ Bytes w2 ov out ∧ (∀ k, ov.ownBlock = some k → w1.heap.size ≤ k) ∧
    At W w2 G' ∧ G'.blocks = G.blocks ∧ G'.b = G.b ∧ Q er n out G'

theorem d_begin {W w : World} {D : DeskG} {G : PlanG} {Q : Int → Int → List UInt8 → PlanG → Prop} (h : DAt W w D G) (c : Int) (g : GoingG) (h0 : 0 ≤ c) (h1 : c < 4) (hb : D.calls c = some g) (hk : g.c.kind ≠ 2) (hat : g.at_ = -1) (hlen : D.effs.length ≤ 1000000)
    (hdo : PlanDoes W w G c g.c.v Q) :
    Calls Tryz.prog 19 #[.pointer (some ⟨D.b, 0, none⟩), .int .i64 c] w fun e w' => e = .returned (stepV 0 0 (.slice none 0 0) false 0) ∧ ∃ er n out ov ev' G', Q er n out G' ∧ DAt W w' (D.begun c { g with at_ := (D.effs.length : Int) } ⟨c, g.c, er, n, out, ov⟩ ev') G' ∧ G'.blocks = G.blocks ∧
      Upd (D.mut ++ G.blocks) w w' ∧ (∀ k ∈ (D.begun c { g with at_ := (D.effs.length : Int) } ⟨c, g.c, er, n, out, ov⟩ ev').mut, k ∈ D.mut ∨ w.heap.size ≤ k) := by
  refine (step_begin (R := fun _ er n out w2 => ∃ G', At W w2 G' ∧ G'.blocks = G.blocks ∧ G'.b = G.b ∧ Q er n out G') D G.blocks c g w h.d h0 h1 hb hk hat (fun k hk => ⟨h.a.plan.lt k hk, h.ap k hk⟩) hlen ?_).mono ?_
  · intro w1 hU
    rw [h.pb]
    refine (hdo w1 hU).mono ?_
    rintro e w2 ⟨er, n, out, ov, G', rfl, q1, q2, q3, q4, q5, q6, q7⟩
    exact ⟨er, n, out, ov, rfl, q1, q2, q3, G', q4, q5, q6, q7⟩
  · rintro e w' ⟨rfl, w0, w1, hU0, ⟨wA, wB, er, n, out, ov, ev', S, ⟨G', q4, q5, q6, q7⟩, hA, hS, hSS, hM, hD, hov, hevs⟩, k7, k7a, k7b, hU7⟩
    refine ⟨rfl, er, n, out, ov, ev', G', q7, ?_⟩
    have hlt := h.a.plan.lt
    have hdl := h.d.lt
    have z0 := hU0.size
    have hG1 : ∀ k ∈ G'.blocks, k ∉ S := fun k hk e => by
      rw [q5] at hk
      rcases hSS k e with e | e
      · exact (h.ap k hk).1 e
      · have := hlt k hk; omega
    have hP1 : IsPlan w1 G' := q4.plan.upd hS hG1
    have hU7' : Upd [k7] w1 w' := hU7
    have hP2 : IsPlan w' G' := hP1.upd hU7' (fun k hk e => by rw [q5] at hk; have := hlt k hk; simp at e; omega)
    have hup : Upd [] W w' := by
      refine Upd.drop (S := k7 :: (D.mut ++ G.blocks)) (((h.a.upd.trans hU0).mono (by simp)).trans ((hM.mono (by intro k hk; simp only [List.mem_cons]; exact .inr hk)).trans (hU7.mono (by intro k hk; simp at hk; simp [hk])))) ?_
      intro k hk
      right
      simp only [List.mem_cons, List.mem_append] at hk
      rcases hk with rfl | hk | hk
      · have := h.a.upd.size; omega
      · exact h.dn k hk
      · exact h.a.new k hk
    have hgs : ∀ x ∈ (D.begun c { g with at_ := (D.effs.length : Int) } ⟨c, g.c, er, n, out, ov⟩ ev').goings, x = { g with at_ := (D.effs.length : Int) } ∨ x ∈ D.goings := fun x hx => goings_upd rfl hx
    have hgm := DeskG.mem_goings h0 h1 hb
    have hmut : ∀ k ∈ (D.begun c { g with at_ := (D.effs.length : Int) } ⟨c, g.c, er, n, out, ov⟩ ev').mut, k ∈ D.mut ∨ w0.heap.size ≤ k := by
      intro k hk
      rcases mem_mut.1 hk with hk | hk | ⟨x, hx, hk⟩
      · exact .inl (mem_mut.2 (.inl hk))
      · rcases hevs k hk with hk | hk
        · exact .inl (mem_mut.2 (.inr (.inl hk)))
        · exact .inr hk
      · rcases hgs x hx with hxg | hx
        · rw [hxg] at hk; exact .inl (mem_mut.2 (.inr (.inr ⟨g, hgm, hk⟩)))
        · exact .inl (mem_mut.2 (.inr (.inr ⟨x, hx, hk⟩)))
    have himm : ∀ k ∈ (D.begun c { g with at_ := (D.effs.length : Int) } ⟨c, g.c, er, n, out, ov⟩ ev').imm, k ∈ D.imm ∨ w0.heap.size ≤ k := by
      intro k hk
      rcases mem_imm.1 hk with ⟨x, hx, hk⟩ | ⟨x, hx, hk⟩
      · rcases hgs x hx with hxg | hx
        · rw [hxg] at hk; exact .inl (mem_imm.2 (.inl ⟨g, hgm, hk⟩))
        · exact .inl (mem_imm.2 (.inl ⟨x, hx, hk⟩))
      · have hx' : x ∈ D.effs ∨ x = ⟨c, g.c, er, n, out, ov⟩ := by simpa [DeskG.begun] using hx
        rcases hx' with hx | hxe
        · exact .inl (mem_imm.2 (.inr ⟨x, hx, hk⟩))
        · rw [hxe] at hk
          rcases hk with hk | hk
          · exact .inl (mem_imm.2 (.inl ⟨g, hgm, .inl hk⟩))
          · exact .inr (hov k hk)
    have hup2 : Upd (D.mut ++ G.blocks) w w' := by
      refine Upd.drop (S := k7 :: (D.mut ++ G.blocks)) ((hU0.mono (by simp)).trans ((hM.mono (by intro k hk; simp only [List.mem_cons]; exact .inr hk)).trans (hU7.mono (by intro k hk; simp at hk; simp [hk])))) ?_
      intro k hk
      simp only [List.mem_cons] at hk
      rcases hk with rfl | hk
      · exact .inr k7a
      · exact .inl hk
    refine ⟨⟨⟨hup, hP2, fun k hk => h.a.new k (q5 ▸ hk)⟩, hD.upd hU7' ?_ ?_, h.pb.trans q6.symm, fun k hk => ⟨fun e => ?_, fun e => ?_⟩, fun k hk => ?_⟩, q5, hup2, fun k hk => (hmut k hk).imp id (fun h => by omega)⟩
    · intro k hk e
      simp at e
      rcases hmut k hk with hk | hk
      · have := hdl.1 k hk; omega
      · omega
    · intro k hk e
      simp at e
      rcases himm k hk with hk | hk
      · have := hdl.2 k hk; omega
      · omega
    · rw [q5] at hk
      rcases hmut k e with e | e
      · exact (h.ap k hk).1 e
      · have := hlt k hk; omega
    · rw [q5] at hk
      rcases himm k e with e | e
      · exact (h.ap k hk).2 e
      · have := hlt k hk; omega
    · rcases hmut k hk with hk | hk
      · exact h.dn k hk
      · have := h.a.upd.size; omega

/-- The Desk behind a call's last step. -/
def DeskG.ended (D : DeskG) (c : Int) : DeskG := { D with calls := updC D.calls c none }
theorem d_end {W w : World} {D : DeskG} {G : PlanG} (h : DAt W w D G) (c : Int) (g : GoingG) (i : Nat) (x : EffG) (h0 : 0 ≤ c) (h1 : c < 4) (hb : D.calls c = some g) (hat : g.at_ = (i : Int)) (hx : D.effs[i]? = some x) (hl : g.left = []) (ho : x.out.length ≤ 1000000) (hlen : D.effs.length ≤ 1000000) :
    Calls Tryz.prog 19 #[.pointer (some ⟨D.b, 0, none⟩), .int .i64 c] w fun e w' => ∃ ov', e = .returned (stepV x.err x.n ov' true 0) ∧ DAt W w' (D.ended c) G ∧ w'.ownsRow w.heap.size 5 1 ov' x.out.length (x.out.map B) ∧ Upd [D.b] w w' ∧ (∀ k ∈ (D.ended c).mut, k ∈ D.mut) := by
  refine (step_end D c g i x w h.d h0 h1 hb hat hx hl ho hlen).mono ?_
  rintro e w' ⟨ov', rfl, hov, w1, hU1, hd1, hU2⟩
  have hD1 := ended_ok h.d h0 h1 hb hU1 hd1
  have hdl := h.d.lt
  have hlt := h.a.plan.lt
  have hDb : D.b ∈ D.mut := mem_mut.2 (.inl rfl)
  have hsub : ∀ x ∈ (D.ended c).goings, x ∈ D.goings := by
    intro x hx
    obtain ⟨i, i0, i1, hi⟩ := goings_mem.1 hx
    simp only [DeskG.ended, updC] at hi
    split at hi
    · cases hi
    · exact goings_mem.2 ⟨i, i0, i1, hi⟩
  have hmut : ∀ k ∈ (D.ended c).mut, k ∈ D.mut := by
    intro k hk
    rcases mem_mut.1 hk with hk | hk | ⟨x, hx, hk⟩
    · exact mem_mut.2 (.inl hk)
    · exact mem_mut.2 (.inr (.inl hk))
    · exact mem_mut.2 (.inr (.inr ⟨x, hsub x hx, hk⟩))
  have himm : ∀ k ∈ (D.ended c).imm, k ∈ D.imm := by
    intro k hk
    rcases mem_imm.1 hk with ⟨x, hx, hk⟩ | ⟨x, hx, hk⟩
    · exact mem_imm.2 (.inl ⟨x, hsub x hx, hk⟩)
    · exact mem_imm.2 (.inr ⟨x, hx, hk⟩)
  have hU : Upd [D.b, w.heap.size] w w' := (hU1.mono (by simp)).trans (hU2.mono (by simp))
  refine ⟨ov', rfl, ⟨⟨?_, h.a.plan.upd hU ?_, h.a.new⟩, hD1.upd hU2 ?_ ?_, h.pb, fun k hk => ⟨fun e => (h.ap k hk).1 (hmut k e), fun e => (h.ap k hk).2 (himm k e)⟩, fun k hk => h.dn k (hmut k hk)⟩, hov, hU.drop (by intro k hk; simp at hk; rcases hk with rfl | rfl; exact .inl (by simp); exact .inr (Nat.le_refl _)), hmut⟩
  · refine Upd.drop (S := [D.b, w.heap.size]) ((h.a.upd.mono (by simp)).trans hU) ?_
    intro k hk
    simp at hk
    right
    rcases hk with rfl | rfl
    · exact h.dn _ hDb
    · exact h.a.upd.size
  · intro k hk e
    simp at e
    rcases e with rfl | rfl
    · exact (h.ap _ hk).1 hDb
    · have := hlt _ hk; omega
  · intro k hk e
    have := hdl.1 k (hmut k hk)
    simp at e
    omega
  · intro k hk e
    have := hdl.2 k (himm k hk)
    simp at e
    omega
end Go.Proofs.YtmcnjikafppccaaGreat
