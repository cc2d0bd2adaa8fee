/- A Plan that a law made itself: what each call does to it. -/
import Derived.Test.YtmcnjikafppccaaGreatPlanDo
namespace Go.Proofs.YtmcnjikafppccaaGreat
open Go.RowKit

/-- The law began in W; its Plan lies in new memory. -/
structure At (W w : World) (G : PlanG) : Prop where
  upd : Upd [] W w
  plan : IsPlan w G
  new : ∀ k ∈ G.blocks, W.heap.size ≤ k
theorem At.quiet {W w w' : World} {G : PlanG} (h : At W w G) (hU : Upd [] w w') : At W w' G := ⟨h.upd.trans hU, h.plan.upd hU (fun _ _ => by simp), h.new⟩

theorem new_at (all each : Int) (W w : World) (h : Upd [] W w) :
    Calls Tryz.prog 10 #[.int .i64 all, .int .i64 each] w fun e w' => ∃ G, e = .returned (.pointer (some ⟨G.b, 0, none⟩)) ∧ At W w' G ∧
      G.all = min (max all 0) 1099511627776 ∧ G.each = min (max each 0) 1099511627776 ∧ G.u = (fun _ => 0) ∧ G.sess = [] ∧ G.loads = [] ∧ G.last = 0 ∧ G.sh.books = [] ∧ G.sh.names = [] ∧ G.sh.last = 0 := by
  refine (pnew_any all each w).mono ?_
  rintro e w' ⟨G, rfl, hU, hp, hn, hr⟩
  exact ⟨G, rfl, ⟨h.trans hU, hp, fun k hk => Nat.le_trans h.size (hn k hk)⟩, hr⟩

theorem isAns (e n : Int) (a : Option Addr) (l c : Nat) : IsAns (ansV e n (.slice a l c)) := ⟨e, n, a, l, c, rfl⟩
theorem isAns0 (e n : Int) : IsAns (ansV e n (.slice none 0 0)) := isAns e n none 0 0

theorem at_none (W w : World) (G : PlanG) (c kind : Int) (name : ByteArray) (level handle : Int) (dv : Value) (h : At W w G) (hd : ∃ a n c, dv = .slice a n c) (hk : kind = 2 ∨ kind = 3 ∨ kind = 4 ∨ kind = 5) (hc0 : 0 ≤ c) (hc1 : c < 4) (hn : getI handle G.sess = none) :
    Calls Tryz.prog 11 #[.pointer (some ⟨G.b, 0, none⟩), .int .i64 c, callV kind name level handle dv] w fun e w' => e = .returned (ansV 7 0 (.slice none 0 0)) ∧ At W w' G := by
  refine (do_session (R := fun w1 v w2 => v = ansV 7 0 (.slice none 0 0) ∧ Upd [] w1 w2) G.b c kind hk name level handle dv w hd hc0 hc1 fun w1 hU1 => ?_).mono ?_
  · refine (session_none G c kind name level handle dv w1 (h.quiet hU1).plan hd hn).mono ?_
    rintro e w2 ⟨rfl, hU⟩
    exact ⟨_, [], rfl, isAns0 _ _, hU, by simp, rfl, hU⟩
  · rintro e w3 ⟨v, w1, w2, k, rfl, ⟨rfl, hU2⟩, hU1, hU3, hk1, hk2⟩
    exact ⟨rfl, h.quiet (Upd.drop (S := [k]) (((hU1.trans hU2).mono (by simp)).trans hU3) (by simp; omega))⟩

theorem at_openArg (W w : World) (G : PlanG) (c : Int) (name : ByteArray) (level handle : Int) (dv : Value) (h : At W w G) (hd : ∃ a n c, dv = .slice a n c) (hc0 : 0 ≤ c) (hc1 : c < 4) (hbad : level < 1 ∨ 3 < level ∨ 12 < name.size) :
    Calls Tryz.prog 11 #[.pointer (some ⟨G.b, 0, none⟩), .int .i64 c, callV 1 name level handle dv] w fun e w' => e = .returned (ansV 1 0 (.slice none 0 0)) ∧ At W w' G := by
  refine (do_open (R := fun w1 v w2 => v = ansV 1 0 (.slice none 0 0) ∧ Upd [] w1 w2) G.b c name level handle dv w hd hc0 hc1 fun w1 hU1 => ?_).mono ?_
  · refine (open_arg G c 1 name level handle dv w1 hd hbad).mono ?_
    rintro e w2 ⟨rfl, hU⟩
    exact ⟨_, [], rfl, isAns0 _ _, hU, by simp, rfl, hU⟩
  · rintro e w3 ⟨v, w1, w2, k, rfl, ⟨rfl, hU2⟩, hU1, hU3, hk1, hk2⟩
    exact ⟨rfl, h.quiet (Upd.drop (S := [k]) (((hU1.trans hU2).mono (by simp)).trans hU3) (by simp; omega))⟩

theorem at_openFull (W w : World) (G : PlanG) (c : Int) (level handle : Int) (dv : Value) (h : At W w G) (hd : ∃ a n c, dv = .slice a n c) (hc0 : 0 ≤ c) (hc1 : c < 4) (hl : 1 ≤ level ∧ level ≤ 3)
    (hq : ¬ (2500 ≤ G.each - G.u c ∧ 2500 ≤ G.all - sumU G.u)) (h0 : bookAt G.sh 0 = none) :
    Calls Tryz.prog 11 #[.pointer (some ⟨G.b, 0, none⟩), .int .i64 c, callV 1 ⟨#[]⟩ level handle dv] w fun e w' => e = .returned (ansV 6 0 (.slice none 0 0)) ∧ At W w' G := by
  refine (do_open (R := fun w1 v w2 => v = ansV 6 0 (.slice none 0 0) ∧ Upd [] w1 w2) G.b c ⟨#[]⟩ level handle dv w hd hc0 hc1 fun w1 hU1 => ?_).mono ?_
  · refine (open_quota G c 1 level handle dv w1 (h.quiet hU1).plan hd hl hc0 hc1 hq h0).mono ?_
    rintro e w2 ⟨rfl, hU⟩
    exact ⟨_, [], rfl, isAns0 _ _, hU, by simp, rfl, hU⟩
  · rintro e w3 ⟨v, w1, w2, k, rfl, ⟨rfl, hU2⟩, hU1, hU3, hk1, hk2⟩
    exact ⟨rfl, h.quiet (Upd.drop (S := [k]) (((hU1.trans hU2).mono (by simp)).trans hU3) (by simp; omega))⟩

/-- A Stream that has nothing. -/
def Fresh (w : World) (sb cb : Nat) (id depth : Int) (l : List UInt8) (base : Nat) : Prop :=
  ∃ v, w.heap[sb]? = some (streamO id depth v (.slice none 0 0) (.slice none 0 0) 1 4 8 false false cb) ∧ w.heap[cb]? = some (.chan 1 #[] false 0 0 false) ∧ w.ownsRow base 5 1 v l.length (l.map B) ∧ base ≤ sb ∧ base ≤ cb
theorem Fresh.upd {w w' : World} {sb cb : Nat} {id depth : Int} {l : List UInt8} {base : Nat} {S : List Nat} (h : Fresh w sb cb id depth l base) (hU : Upd S w w') (hS : ∀ k ∈ S, k < base) : Fresh w' sb cb id depth l base := by
  obtain ⟨v, h1, h2, h3, h4, h5⟩ := h
  refine ⟨v, hU.blk h1 (fun e => by have := hS _ e; omega), hU.blk h2 (fun e => by have := hS _ e; omega), own_upd h3 hU (fun k hk e => by have := hS _ e; have := (h3.lt k hk).1; omega) (Nat.le_refl _), h4, h5⟩

theorem at_open (W w : World) (G : PlanG) (c : Int) (level handle : Int) (dv : Value) (h : At W w G) (hd : ∃ a n c, dv = .slice a n c) (hc0 : 0 ≤ c) (hc1 : c < 4) (hl : 1 ≤ level ∧ level ≤ 3)
    (hq1 : 2500 ≤ G.each - G.u c) (hq2 : 2500 ≤ G.all - sumU G.u) (hnew : getI (G.last + 1) G.sess = none) (hlast : 0 ≤ G.last ∧ G.last ≤ 1000000) :
    Calls Tryz.prog 11 #[.pointer (some ⟨G.b, 0, none⟩), .int .i64 c, callV 1 ⟨#[]⟩ level handle dv] w fun e w' => ∃ sb cb, e = .returned (ansV 0 (G.last + 1) (.slice none 0 0)) ∧ At W w' (G.opened c sb 0) ∧
      Fresh w' sb cb 0 (depthOf level) [] w.heap.size ∧ Upd G.blocks w w' := by
  refine (do_open (R := fun w1 v w2 => v = ansV 0 (G.last + 1) (.slice none 0 0) ∧ Upd [G.b, G.pb, G.se] w1 w2 ∧ ∃ sb cb, IsPlan w2 (G.opened c sb 0) ∧ Fresh w2 sb cb 0 (depthOf level) [] w1.heap.size) G.b c ⟨#[]⟩ level handle dv w hd hc0 hc1 fun w1 hU1 => ?_).mono ?_
  · refine (open_ok G c 1 level handle dv w1 (h.quiet hU1).plan hd hl hc0 hc1 hq1 hq2 hnew hlast).mono ?_
    rintro e w2 ⟨sb, cb, v', rfl, hU, hp, g1, g2, f1, f2, f3⟩
    exact ⟨_, _, rfl, isAns0 _ _, hU, fun k hk => h.plan.lt k (by simp at hk; simp [PlanG.blocks]; omega), rfl, hU, sb, cb, hp, v', f1, f2, f3, g1, g2⟩
  · rintro e w3 ⟨v, w1, w2, k, rfl, ⟨rfl, hU2, sb, cb, hp, hf⟩, hU1, hU3, hk1, hk2⟩
    have hbl : (G.opened c sb 0).blocks = G.blocks := rfl
    have hU : Upd G.blocks w w3 := Upd.drop (S := k :: G.blocks) (((hU1.mono (by simp)).trans (hU2.mono (by intro j hj; simp at hj; simp [PlanG.blocks]; omega))).trans (hU3.mono (by simp))) (by intro j hj; simp at hj; rcases hj with rfl | hj; exact .inr hk1; exact .inl hj)
    refine ⟨sb, cb, rfl, ⟨?_, hp.upd hU3 ?_, h.new⟩, ?_, hU⟩
    · exact Upd.drop (S := G.blocks) ((h.upd.mono (by simp)).trans hU) (fun j hj => .inr (h.new j hj))
    · intro j hj e
      have := h.plan.lt j hj
      simp at e
      omega
    · obtain ⟨v, f1, f2, f3, f4, f5⟩ := hf.upd hU3 (by simp; omega)
      have := hU1.size
      exact ⟨v, f1, f2, own_upd f3 (Upd.refl [] _) (by simp) (by omega), by omega, by omega⟩
end Go.Proofs.YtmcnjikafppccaaGreat
