/- A Plan that a law made itself: load, open with a dictionary, retire, abort. -/
import Derived.Test.YtmcnjikafppccaaGreatPlanOpen2
import Derived.Test.YtmcnjikafppccaaGreatPlanAt
namespace Go.Proofs.YtmcnjikafppccaaGreat
open Go.RowKit

theorem at_step {W w w1 w2 w3 : World} {G G' : PlanG} {k : Nat} (h : At W w G) (h1 : Upd [] w w1) (h2 : Upd G.blocks w1 w2) (hP : IsPlan w2 G') (hsub : ∀ j ∈ G'.blocks, j ∈ G.blocks ∨ w1.heap.size ≤ j) (h3 : Upd [k] w2 w3) (k1 : w.heap.size ≤ k) (k2 : k < w1.heap.size) : At W w3 G' := by
  have hlt := h.plan.lt
  have z0 := h.upd.size
  refine ⟨?_, hP.upd h3 ?_, fun j hj => ?_⟩
  · refine Upd.drop (S := k :: G.blocks) ((((h.upd.trans h1).mono (by simp)).trans ((h2.mono (by intro j hj; simp [hj])).trans (h3.mono (by simp))))) ?_
    intro j hj
    rcases List.mem_cons.1 hj with rfl | hj
    · exact .inr (by omega)
    · exact .inr (h.new j hj)
  · intro j hj e
    rw [List.mem_singleton] at e
    rcases hsub j hj with hj | hj
    · have := hlt j hj; omega
    · omega
  · rcases hsub j hj with hj | hj
    · exact h.new j hj
    · have := h1.size; omega

theorem at_load (W w : World) (G : PlanG) (c : Int) (name : ByteArray) (level handle : Int) (g o cp : Nat) (l : List UInt8) (h : At W w G) (ok : PlOk G) (hr : Rd w (.slice (some ⟨g, o, none⟩) l.length cp) (l.map B)) (hgs : g < w.heap.size) (hg : g ∉ G.blocks) (hcp : l.length ≤ cp) (hl : l.length ≤ 3200) (hn : name.size ≤ 1000000) (hi : isD name l = 0) (h5 : 5 ≤ l.length) (hl4 : l.length ≤ 2004)
    (hlast : 0 ≤ G.sh.last ∧ G.sh.last ≤ 1000000) (hkeys : ∀ x ∈ G.loads, x.1 ≤ G.sh.last) (hc0 : 0 ≤ c) (hc1 : c < 4) (hq1 : (l.length : Int) - 4 ≤ G.each - G.u c) (hq2 : (l.length : Int) - 4 ≤ G.all - sumU G.u) :
    Calls Tryz.prog 11 #[.pointer (some ⟨G.b, 0, none⟩), .int .i64 c, callV 6 name level handle (.slice (some ⟨g, o, none⟩) l.length cp)] w fun e w' => e = .returned (ansV 0 (G.sh.last + 1) (.slice none 0 0)) ∧ ∃ bb db cap, At W w' (G.loadedG c name (l.drop 4) bb db cap) := by
  refine (do_load (R := fun w1 v w2 => v = ansV 0 (G.sh.last + 1) (.slice none 0 0) ∧ ∃ bb db cap, IsPlan w2 (G.loadedG c name (l.drop 4) bb db cap) ∧ Upd G.blocks w1 w2 ∧ w1.heap.size ≤ bb ∧ w1.heap.size ≤ db) G.b c name level handle _ w ⟨_, _, _, rfl⟩ hc0 hc1 fun w1 hU1 => ?_).mono ?_
  · refine (load_plan G c 6 name level handle g o cp l w1 (h.quiet hU1).plan ok (hr.upd hU1 (by simp)) hg hcp hl hn hi h5 hl4 hlast hkeys hc0 hc1 hq1 hq2).mono ?_
    rintro e w2 ⟨rfl, bb, db, cap, hP, hU, q1, q2, -⟩
    exact ⟨_, _, rfl, isAns0 _ _, hU, h.plan.lt, rfl, bb, db, cap, hP, hU, q1, q2⟩
  · rintro e w3 ⟨v, w1, w2, k, rfl, ⟨rfl, bb, db, cap, hP, hU2, q1, q2⟩, hU1, hU3, hk1, hk2⟩
    refine ⟨rfl, bb, db, cap, at_step h hU1 hU2 hP (fun j hj => ?_) hU3 hk1 hk2⟩
    simp only [PlanG.loadedG, PlanG.goneG, PlanG.blocks, List.mem_cons, loadG_blocks, List.mem_append] at hj ⊢
    rcases hj with h | h | h | h | h | h
    · exact .inl (.inl h)
    · exact .inl (.inr (.inl h))
    · exact .inl (.inr (.inr (.inl h)))
    · exact .inl (.inr (.inr (.inr (.inl h))))
    · exact .inl (.inr (.inr (.inr (.inr ((retG_sub G.sh name).subset h)))))
    · right; simp at h; rcases h with rfl | rfl <;> assumption

theorem at_dict (W w : World) (G : PlanG) (c : Int) (name : ByteArray) (id : Int) (bk : Book) (level handle : Int) (dv : Value) (h : At W w G) (ok : PlOk G) (hd : ∃ a n c, dv = .slice a n c) (hl : 1 ≤ level ∧ level ≤ 3) (hn0 : 1 ≤ name.size) (hn1 : name.size ≤ 12) (hid : idAt G.sh name = id) (h0 : id ≠ 0) (hi1 : 0 ≤ id) (hi2 : id ≤ 1000000) (hbk : bookAt G.sh id = some bk) (hpin : bk.pins ≤ 1000000)
    (hdl : bk.dict.length ≤ 2000) (hc0 : 0 ≤ c) (hc1 : c < 4) (hq1 : 2500 ≤ G.each - G.u c) (hq2 : 2500 ≤ G.all - sumU G.u) (hnew : getI (G.last + 1) G.sess = none) (hlast : 0 ≤ G.last ∧ G.last ≤ 1000000) :
    Calls Tryz.prog 11 #[.pointer (some ⟨G.b, 0, none⟩), .int .i64 c, callV 1 name level handle dv] w fun e w' => ∃ sb, e = .returned (ansV 0 (G.last + 1) (.slice none 0 0)) ∧ At W w' ((G.pinned id).opened c sb id) := by
  refine (do_open (R := fun w1 v w2 => v = ansV 0 (G.last + 1) (.slice none 0 0) ∧ Upd G.blocks w1 w2 ∧ ∃ sb, IsPlan w2 ((G.pinned id).opened c sb id)) G.b c name level handle dv w hd hc0 hc1 fun w1 hU1 => ?_).mono ?_
  · refine (open_dict G c 1 name id bk level handle dv w1 (h.quiet hU1).plan ok hd hl hn0 hn1 hid h0 hi1 hi2 hbk hpin hdl hc0 hc1 hq1 hq2 hnew hlast).mono ?_
    rintro e w2 ⟨sb, cb, v', rfl, hU, hp, g1, g2, f1, f2, f3⟩
    exact ⟨_, _, rfl, isAns0 _ _, hU, h.plan.lt, rfl, hU, sb, hp⟩
  · rintro e w3 ⟨v, w1, w2, k, rfl, ⟨rfl, hU2, sb, hp⟩, hU1, hU3, hk1, hk2⟩
    refine ⟨sb, rfl, at_step h hU1 hU2 hp (fun j hj => ?_) hU3 hk1 hk2⟩
    have : ((G.pinned id).opened c sb id).blocks = (G.pinned id).blocks := rfl
    rw [this, pinned_blocks] at hj
    exact .inl hj

theorem at_retire (W w : World) (G : PlanG) (c : Int) (name : ByteArray) (level handle : Int) (dv : Value) (h : At W w G) (ok : PlOk G) (hd : ∃ a n c, dv = .slice a n c) (hc0 : 0 ≤ c) (hc1 : c < 4) :
    Calls Tryz.prog 11 #[.pointer (some ⟨G.b, 0, none⟩), .int .i64 c, callV 7 name level handle dv] w fun e w' => e = .returned (ansV (retE G.sh name) 0 (.slice none 0 0)) ∧ At W w' (G.retireG name) := by
  refine (do_retire (R := fun w1 v w2 => v = ansV (retE G.sh name) 0 (.slice none 0 0) ∧ IsPlan w2 (G.retireG name) ∧ Upd G.blocks w1 w2) G.b c name level handle dv w hd hc0 hc1 fun w1 hU1 => ?_).mono ?_
  · refine (retire_plan G 7 name level handle dv w1 (h.quiet hU1).plan ok hd).mono ?_
    rintro e w2 ⟨rfl, hP, hU⟩
    exact ⟨_, _, rfl, isAns0 _ _, hU, h.plan.lt, rfl, hP, hU⟩
  · rintro e w3 ⟨v, w1, w2, k, rfl, ⟨rfl, hP, hU2⟩, hU1, hU3, hk1, hk2⟩
    refine ⟨rfl, at_step h hU1 hU2 hP (fun j hj => .inl ?_) hU3 hk1 hk2⟩
    simp only [PlanG.retireG, PlanG.goneG, PlanG.blocks, List.mem_cons] at hj ⊢
    rcases hj with h | h | h | h | h
    · exact .inl h
    · exact .inr (.inl h)
    · exact .inr (.inr (.inl h))
    · exact .inr (.inr (.inr (.inl h)))
    · exact .inr (.inr (.inr (.inr ((retG_sub G.sh name).subset h))))

theorem at_abort (W w : World) (G : PlanG) (c : Int) (name : ByteArray) (level handle : Int) (dv : Value) (x : SessG) (st : Nat) (h : At W w G) (ok : PlOk G) (hp : ∀ x ∈ G.sh.books, x.2.1.pins ≤ 1000000) (hd : ∃ a n c, dv = .slice a n c) (hx : getI handle G.sess = some (x, st)) (hc : x.client = c) (hc0 : 0 ≤ c) (hc1 : c < 4) :
    Calls Tryz.prog 11 #[.pointer (some ⟨G.b, 0, none⟩), .int .i64 c, callV 5 name level handle dv] w fun e w' => e = .returned (ansV 0 0 (.slice none 0 0)) ∧ At W w' (G.endsG handle x) := by
  refine (do_session (R := fun w1 v w2 => v = ansV 0 0 (.slice none 0 0) ∧ IsPlan w2 (G.endsG handle x) ∧ Upd G.blocks w1 w2) G.b c 5 (by omega) name level handle dv w hd hc0 hc1 fun w1 hU1 => ?_).mono ?_
  · refine (session_abort G c name level handle dv x st w1 (h.quiet hU1).plan ok hp hd hx hc hc0 hc1).mono ?_
    rintro e w2 ⟨rfl, hP, hU⟩
    exact ⟨_, _, rfl, isAns0 _ _, hU, h.plan.lt, rfl, hP, hU⟩
  · rintro e w3 ⟨v, w1, w2, k, rfl, ⟨rfl, hP, hU2⟩, hU1, hU3, hk1, hk2⟩
    exact ⟨rfl, at_step h hU1 hU2 hP (fun j hj => .inl ((giveG_blocks G handle x).subset hj)) hU3 hk1 hk2⟩
end Go.Proofs.YtmcnjikafppccaaGreat
