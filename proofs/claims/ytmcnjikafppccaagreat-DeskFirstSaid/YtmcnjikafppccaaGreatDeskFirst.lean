/- manglelaw13.DeskFirst: the walk. -/
import Derived.Test.YtmcnjikafppccaaGreatDeskLaw
import Derived.Test.YtmcnjikafppccaaGreatPlanQuota
namespace Go.Proofs.YtmcnjikafppccaaGreat
open Go.RowKit

theorem pd_open {W w : World} {G : PlanG} (h : At W w G) (c level handle : Int) (dv : Value) (hd : ∃ a n c, dv = .slice a n c) (hc0 : 0 ≤ c) (hc1 : c < 4) (hl : 1 ≤ level ∧ level ≤ 3)
    (hq1 : 2500 ≤ G.each - G.u c) (hq2 : 2500 ≤ G.all - sumU G.u) (hnew : getI (G.last + 1) G.sess = none) (hlast : 0 ≤ G.last ∧ G.last ≤ 1000000) :
    PlanDoes W w G c (callV 1 ⟨#[]⟩ level handle dv) (fun er n out G' => er = 0 ∧ n = G.last + 1 ∧ out = [] ∧ ∃ sb, G' = G.opened c sb 0) := by
  intro w1 h1
  refine (at_open W w1 G c level handle dv (h.quiet h1) hd hc0 hc1 hl hq1 hq2 hnew hlast).mono ?_
  rintro e w2 ⟨sb, cb, rfl, hA, -, hU⟩
  exact ⟨0, G.last + 1, [], .slice none 0 0, G.opened c sb 0, rfl, hU, bytes_nil _, by simp [Value.ownBlock], hA, rfl, rfl, rfl, rfl, rfl, sb, rfl⟩
theorem do_openFull (G : PlanG) (c level handle : Int) (dv : Value) (w : World) (h : IsPlan w G) (hd : ∃ a n c, dv = .slice a n c) (hc0 : 0 ≤ c) (hc1 : c < 4) (hl : 1 ≤ level ∧ level ≤ 3)
    (hq : ¬ (2500 ≤ G.each - G.u c ∧ 2500 ≤ G.all - sumU G.u)) (h0 : bookAt G.sh 0 = none) :
    Calls Tryz.prog 11 #[.pointer (some ⟨G.b, 0, none⟩), .int .i64 c, callV 1 ⟨#[]⟩ level handle dv] w fun e w' => e = .returned (ansV 6 0 (.slice none 0 0)) ∧ Upd [] w w' := by
  refine (do_open (R := fun w1 v w2 => v = ansV 6 0 (.slice none 0 0) ∧ Upd [] w1 w2) G.b c ⟨#[]⟩ level handle dv w hd hc0 hc1 fun w1 hU1 => ?_).mono ?_
  · refine (open_quota G c 1 level handle dv w1 (h.upd hU1 (fun _ _ => by simp)) hd hl hc0 hc1 hq h0).mono ?_
    rintro e w2 ⟨rfl, hU⟩
    exact ⟨_, [], rfl, isAns0 _ _, hU, by simp, rfl, hU⟩
  · rintro e w3 ⟨v, w1, w2, k, rfl, ⟨rfl, hU2⟩, hU1, hU3, hk1, hk2⟩
    exact ⟨rfl, Upd.drop (S := [k]) (((hU1.trans hU2).mono (by simp)).trans hU3) (by simp; omega)⟩

/-- An open that waits for its first step. -/
def Opens (g : GoingG) : Prop := g.at_ = -1 ∧ g.left = [] ∧ g.lv = .slice none 0 0 ∧ g.c.kind = 1 ∧ g.c.name = ⟨#[]⟩ ∧ g.c.level = 1
structure PF (G : PlanG) (k : Nat) : Prop where
  all : G.all = 5200
  each : G.each = 9000
  sum : sumU G.u = 2500 * k
  len : (G.sess.length : Int) = k
  last : G.last = k
  keys : ∀ x ∈ G.sess, x.1 ≤ k
  books : G.sh.books = []
structure I1 (W w : World) (b cb : Nat) (j : Nat) (D : DeskG) (G : PlanG) : Prop where
  d : DAt W w D G
  bb : D.b = b
  effs : D.effs = []
  pf : PF G 0
  u : G.u = fun _ => 0
  on : ∀ i : Int, 0 ≤ i → i < j → ∃ g, D.calls i = some g ∧ Opens g
  off : ∀ i : Int, j ≤ i → D.calls i = none
  cbk : w.heap[cb]? = some (.cells #[.int .i64 1, .string ⟨#[]⟩, .int .i64 1, .int .i64 0, .slice none 0 0] 30 (0, 0))
  ne : cb ≠ b
theorem I1.next {W w w' : World} {b cb j : Nat} {D : DeskG} {G : PlanG} {g : GoingG} (h : I1 W w b cb j D G) (hd : DAt W w' (D.invoked j g) G) (hU : Upd [b] w w') (hg : Opens g) : I1 W w' b cb (j + 1) (D.invoked j g) G := by
  refine ⟨hd, h.bb, h.effs, h.pf, h.u, ?_, ?_, hU.blk h.cbk (by simpa using h.ne), h.ne⟩
  · intro i i0 i1
    by_cases hi : i = j
    · exact ⟨g, by simp [DeskG.invoked, updC, hi], hg⟩
    · obtain ⟨g', h1, h2⟩ := h.on i i0 (by omega)
      exact ⟨g', by simp only [DeskG.invoked, updC]; rw [if_neg hi]; exact h1, h2⟩
  · intro i hi
    simp only [DeskG.invoked, updC]
    rw [if_neg (by omega)]
    exact h.off i (by omega)
theorem I1.quiet {W w w' : World} {b cb j : Nat} {D : DeskG} {G : PlanG} (h : I1 W w b cb j D G) (hU : Upd [] w w') : I1 W w' b cb j D G := { h with d := h.d.quiet hU, cbk := hU.blk h.cbk (by simp) }

def ordF (s : Bool) (i : Int) : Int := if s then 2 - i else i
theorem ordF_ne (s : Bool) {i j : Int} (h : i ≠ j) : ordF s i ≠ ordF s j := by unfold ordF; split <;> omega
theorem ordF_in (s : Bool) {i : Int} (h0 : 0 ≤ i) (h1 : i < 3) : 0 ≤ ordF s i ∧ ordF s i < 3 := by unfold ordF; split <;> omega
theorem sumU_add (u : Int → Int) (c n : Int) (h0 : 0 ≤ c) (h1 : c < 4) : sumU (addU u c n) = sumU u + n := by
  obtain rfl | rfl | rfl | rfl : c = 0 ∨ c = 1 ∨ c = 2 ∨ c = 3 := by omega
  all_goals (simp [sumU, addU]; try omega)
structure I2 (W w : World) (b ob : Nat) (s : Bool) (k : Nat) (D : DeskG) (G : PlanG) : Prop where
  d : DAt W w D G
  bb : D.b = b
  pf : PF G (min k 2)
  u : ∀ i : Nat, k ≤ i → i < 3 → G.u (ordF s i) = 0
  len : D.effs.length = k
  done : ∀ i : Nat, i < k → ∃ g x, D.calls (ordF s i) = some g ∧ g.at_ = i ∧ g.left = [] ∧ D.effs[i]? = some x ∧ x.err = (if i = 2 then 6 else 0) ∧ x.n = (if i = 2 then 0 else (i : Int) + 1) ∧ x.out = []
  todo : ∀ i : Nat, k ≤ i → i < 3 → ∃ g, D.calls (ordF s i) = some g ∧ Opens g
  ok : w.heap[ob]? = some (.cells #[.int .i64 (ordF s 0), .int .i64 (ordF s 1), .int .i64 (ordF s 2)] 3 (0, 0))
  om : ob ∉ D.mut
  og : ob ∉ G.blocks
theorem I1.to2 {W w w' : World} {b cb ob : Nat} {s : Bool} {D : DeskG} {G : PlanG} (h : I1 W w b cb 3 D G) (hU : Upd [] w w') (hl : w.heap.size ≤ ob)
    (ho : w'.heap[ob]? = some (.cells #[.int .i64 (ordF s 0), .int .i64 (ordF s 1), .int .i64 (ordF s 2)] 3 (0, 0))) : I2 W w' b ob s 0 D G := by
  refine ⟨h.d.quiet hU, h.bb, h.pf, fun i _ _ => by rw [h.u], by rw [h.effs]; rfl, fun i hi => by omega, fun i _ hi => ?_, ho, fun e => ?_, fun e => ?_⟩
  · have := ordF_in s (i := i) (by omega) (by omega)
    exact h.on _ this.1 (by omega)
  · have := h.d.d.lt.1 _ e; omega
  · have := h.d.a.plan.lt _ e; omega
theorem I2.next {W w w' : World} {b ob k : Nat} {s : Bool} {D : DeskG} {G G' : PlanG} {g : GoingG} {er n : Int} {out : List UInt8} {ov ev' : Value} (h : I2 W w b ob s k D G) (hk : k < 3) (hl : g.left = [])
    (hd : DAt W w' (D.begun (ordF s k) { g with at_ := (D.effs.length : Int) } ⟨ordF s k, g.c, er, n, out, ov⟩ ev') G') (hG : G'.blocks = G.blocks) (hU : Upd (D.mut ++ G.blocks) w w')
    (hm : ∀ x ∈ (D.begun (ordF s k) { g with at_ := (D.effs.length : Int) } ⟨ordF s k, g.c, er, n, out, ov⟩ ev').mut, x ∈ D.mut ∨ w.heap.size ≤ x)
    (he : er = if k = 2 then 6 else 0) (hn : n = if k = 2 then 0 else (k : Int) + 1) (ho : out = []) (hpf : PF G' (min (k + 1) 2)) (hu : ∀ i : Nat, k + 1 ≤ i → i < 3 → G'.u (ordF s i) = 0) :
    I2 W w' b ob s (k + 1) (D.begun (ordF s k) { g with at_ := (D.effs.length : Int) } ⟨ordF s k, g.c, er, n, out, ov⟩ ev') G' := by
  have hlo := lt_of_heap h.ok
  refine ⟨hd, h.bb, hpf, hu, ?_, ?_, ?_, hU.blk h.ok (fun e => ?_), fun e => ?_, fun e => h.og (hG ▸ e)⟩
  · simp [DeskG.begun, h.len]
  · intro i hi
    by_cases hik : i = k
    · subst hik
      exact ⟨{ g with at_ := (D.effs.length : Int) }, ⟨ordF s i, g.c, er, n, out, ov⟩, by simp [DeskG.begun, updC], by simp [h.len], hl, by simp [DeskG.begun, ← h.len], he, hn, ho⟩
    · obtain ⟨g', x, q1, q2, q3, q4, q5⟩ := h.done i (by omega)
      refine ⟨g', x, by simp only [DeskG.begun, updC]; rw [if_neg (ordF_ne s (by omega))]; exact q1, q2, q3, ?_, q5⟩
      simp only [DeskG.begun]
      rw [List.getElem?_append_left (by rw [h.len]; omega)]
      exact q4
  · intro i hi h3
    obtain ⟨g', q1, q2⟩ := h.todo i (by omega) h3
    exact ⟨g', by simp only [DeskG.begun, updC]; rw [if_neg (ordF_ne s (by omega))]; exact q1, q2⟩
  · rcases List.mem_append.1 e with e | e
    · exact h.om e
    · exact h.og e
  · rcases hm _ e with e | e
    · exact h.om e
    · omega
structure I3 (W w : World) (b ob : Nat) (s : Bool) (k : Nat) (D : DeskG) (G : PlanG) : Prop where
  d : DAt W w D G
  bb : D.b = b
  sess : (G.sess.length : Int) = 2
  len : D.effs.length = 3
  todo : ∀ i : Nat, k ≤ i → i < 3 → ∃ g x, D.calls (ordF s i) = some g ∧ g.at_ = i ∧ g.left = [] ∧ D.effs[i]? = some x ∧ x.err = (if i = 2 then 6 else 0) ∧ x.n = (if i = 2 then 0 else (i : Int) + 1) ∧ x.out = []
  ok : w.heap[ob]? = some (.cells #[.int .i64 (ordF s 0), .int .i64 (ordF s 1), .int .i64 (ordF s 2)] 3 (0, 0))
  om : ob ∉ D.mut
theorem I2.to3 {W w : World} {b ob : Nat} {s : Bool} {D : DeskG} {G : PlanG} (h : I2 W w b ob s 3 D G) : I3 W w b ob s 0 D G :=
  ⟨h.d, h.bb, h.pf.len, h.len, fun i _ hi => h.done i hi, h.ok, h.om⟩
theorem I3.quiet {W w w' : World} {b ob k : Nat} {s : Bool} {D : DeskG} {G : PlanG} (h : I3 W w b ob s k D G) (hU : Upd [] w w') : I3 W w' b ob s k D G := { h with d := h.d.quiet hU, ok := hU.blk h.ok (by simp) }
theorem I2.quiet {W w w' : World} {b ob k : Nat} {s : Bool} {D : DeskG} {G : PlanG} (h : I2 W w b ob s k D G) (hU : Upd [] w w') : I2 W w' b ob s k D G := { h with d := h.d.quiet hU, ok := hU.blk h.ok (by simp) }
theorem I3.next {W w w' : World} {b ob k : Nat} {s : Bool} {D : DeskG} {G : PlanG} (h : I3 W w b ob s k D G) (hd : DAt W w' (D.ended (ordF s k)) G) (hU : Upd [D.b] w w') (hm : ∀ x ∈ (D.ended (ordF s k)).mut, x ∈ D.mut) : I3 W w' b ob s (k + 1) (D.ended (ordF s k)) G := by
  refine ⟨hd, h.bb, h.sess, h.len, ?_, hU.blk h.ok (fun e => h.om ?_), fun e => h.om (hm _ e)⟩
  · intro i hi h3
    obtain ⟨g', x, q1, q2⟩ := h.todo i (by omega) h3
    exact ⟨g', x, by simp only [DeskG.ended, updC]; rw [if_neg (ordF_ne s (by omega))]; exact q1, q2⟩
  · simp at e; rw [e]; exact mem_mut.2 (.inl rfl)

/-- A step of loop 2. -/
theorem step2 {W w : World} {b ob k : Nat} {s : Bool} {D : DeskG} {G : PlanG} (h : I2 W w b ob s k D G) (hk : k < 3) :
    Calls Tryz.prog 19 #[.pointer (some ⟨b, 0, none⟩), .int .i64 (ordF s k)] w fun e w' => e = .returned (stepV 0 0 (.slice none 0 0) false 0) ∧ ∃ D' G', I2 W w' b ob s (k + 1) D' G' := by
  obtain ⟨g, hg, ho1, ho2, ho3, ho4, ho5, ho6⟩ := h.todo k (Nat.le_refl _) hk
  obtain ⟨c0, c1⟩ := ordF_in s (i := k) (by omega) (by omega)
  have hc := h.d.d.going g (DeskG.mem_goings c0 (by omega) hg)
  obtain ⟨da, dc, hdv⟩ := own_shape hc.data
  have hv : g.c.v = callV 1 ⟨#[]⟩ 1 g.c.handle (.slice da g.c.data.length dc) := by unfold CallG.v; rw [ho4, ho5, ho6, hdv]
  have hb := h.bb
  subst hb
  by_cases hk2 : k < 2
  · have hm : min k 2 = k := by omega
    have hpf := h.pf
    rw [hm] at hpf
    refine (d_begin (Q := fun er n out G' => er = 0 ∧ n = G.last + 1 ∧ out = [] ∧ ∃ sb, G' = G.opened (ordF s k) sb 0) h.d (ordF s k) g c0 (by omega) hg (by rw [ho4]; decide) ho1 (by rw [h.len]; omega) ?_).mono ?_
    · rw [hv]
      refine pd_open h.d.a (ordF s k) 1 g.c.handle _ ⟨_, _, _, rfl⟩ c0 (by omega) (by omega) (by rw [hpf.each, h.u k (Nat.le_refl _) hk]; omega) (by rw [hpf.all, hpf.sum]; omega) (getI_gt fun x hx => ?_) (by rw [hpf.last]; omega)
      have := hpf.keys x hx
      rw [hpf.last]; omega
    · rintro e w' ⟨rfl, er, n, out, ov, ev', G', ⟨rfl, rfl, rfl, sb, rfl⟩, hd, hG, hU, hmm⟩
      refine ⟨rfl, _, _, h.next hk ho2 hd hG hU hmm (by rw [if_neg (by omega)]) (by rw [if_neg (by omega), hpf.last]) rfl ?_ ?_⟩
      · have : min (k + 1) 2 = k + 1 := by omega
        rw [this]
        refine ⟨hpf.all, hpf.each, ?_, ?_, ?_, ?_, hpf.books⟩
        · simp only [PlanG.opened]; rw [sumU_add _ _ _ c0 (by omega), hpf.sum]; omega
        · simp only [PlanG.opened, List.length_append, List.length_singleton]; have := hpf.len; omega
        · simp only [PlanG.opened]; rw [hpf.last]; omega
        · intro x hx
          simp only [PlanG.opened, List.mem_append, List.mem_singleton] at hx
          rcases hx with hx | rfl
          · have := hpf.keys x hx; omega
          · simp only; have := hpf.last; omega
      · intro i hi h3
        simp only [PlanG.opened, addU]
        rw [if_neg (ordF_ne s (by omega))]
        exact h.u i (by omega) h3
  · obtain rfl : k = 2 := by omega
    have hpf : PF G 2 := h.pf
    refine (d_begin (Q := fun er n out G' => er = 6 ∧ n = 0 ∧ out = [] ∧ G' = G) h.d (ordF s (2 : Nat)) g c0 (by omega) hg (by rw [ho4]; decide) ho1 (by rw [h.len]; omega) ?_).mono ?_
    · rw [hv]
      refine PlanDoes.of_quiet h.d.a ⟨rfl, rfl, rfl, rfl⟩ fun w1 h1 => ?_
      exact do_openFull G (ordF s (2 : Nat)) 1 g.c.handle _ w1 (h.d.a.plan.upd h1 (fun _ _ => by simp)) ⟨_, _, _, rfl⟩ c0 (by omega) (by omega) (by rw [hpf.each, hpf.all, hpf.sum]; omega) (bookAt_nil hpf.books 0)
    · rintro e w' ⟨rfl, er, n, out, ov, ev', G', ⟨rfl, rfl, rfl, rfl⟩, hd, hG, hU, hmm⟩
      exact ⟨rfl, _, _, h.next hk ho2 hd hG hU hmm (by simp) (by simp) rfl hpf (fun i hi h3 => by omega)⟩
/-- A step of loop 3. -/
theorem step3 {W w : World} {b ob k : Nat} {s : Bool} {D : DeskG} {G : PlanG} (h : I3 W w b ob s k D G) (hk : k < 3) :
    Calls Tryz.prog 19 #[.pointer (some ⟨b, 0, none⟩), .int .i64 (ordF s k)] w fun e w' => ∃ a c, e = .returned (stepV (if k = 2 then 6 else 0) (if k = 2 then 0 else (k : Int) + 1) (.slice a 0 c) true 0) ∧ ∃ D' G', I3 W w' b ob s (k + 1) D' G' := by
  obtain ⟨g, x, hg, q1, q2, q3, q4, q5, q6⟩ := h.todo k (Nat.le_refl _) hk
  obtain ⟨c0, c1⟩ := ordF_in s (i := k) (by omega) (by omega)
  have hb := h.bb
  subst hb
  refine (d_end h.d (ordF s k) g k x c0 (by omega) hg q1 q3 q2 (by rw [q6]; simp) (by rw [h.len]; omega)).mono ?_
  rintro e w' ⟨ov', rfl, hd, hov, hU, hm⟩
  rw [q6] at hov
  obtain ⟨a, c, rfl⟩ := own_shape hov
  rw [q4, q5]
  exact ⟨a, c, rfl, _, _, h.next hd hU hm⟩

set_option maxRecDepth 100000 in
set_option maxHeartbeats 4000000 in
theorem first_walk (swap : Bool) (W : World) (hW : Upd [] W W) : Calls Tryz.prog 9 #[.bool swap] W fun e w' => e = .returned (.bool true) ∧ Upd [] W w' := by
  go_enter Tryz.func9, Tryz.ntmps9
  go_wp2_with fail
  refine (dat_new 5200 9000 W W hW).mono ?_
  rintro e w1 ⟨D, G, rfl, hA, e1, e2, e3, e4, e5, e6, e7, e8, e9, e10, e11⟩
  have HI : Hid (I1 W (w1.alloc (.cells #[.int .i64 1, .string ⟨#[]⟩, .int .i64 1, .int .i64 0, .slice none 0 0] 30)) D.b w1.heap.size 0 D G) := by
    refine ⟨hA.quiet (by (with_reducible (repeat (first | exact Upd.refl _ _ | refine Upd.alloc ?_ _ | refine Upd.drew ?_ | refine Upd.drewN ?_ _ | refine Upd.setCell ?_ (by first | (left; simp; done) | (right; simp; done) | (right; simp; omega)) _)))), rfl, e1, ⟨by rw [e3]; decide, by rw [e4]; decide, by rw [e5]; rfl, by rw [e6]; rfl, e8, by rw [e6]; simp, e9⟩, e5, fun i i0 i1 => by omega, fun i hi => by rw [e2], heap_new _ _, fun e => by have := lt_of_heap hA.d.desk; omega⟩
  clear e1 e2 e3 e4 e5 e6 e7 e8 e9 e10 e11 hA
  generalize D.b = b at *
  go_wp2_with fail
  go_loopw [5] (fun i wr => ∃ (j : Nat) (D' : DeskG) (G' : PlanG), j ≤ 3 ∧ i = .int .i64 j ∧ I1 W wr b w1.heap.size j D' G') (fun i _ => (3 - intOf i).toNat)
  case atStart => exact ⟨0, D, G, by omega, rfl, HI.out⟩
  case round =>
    obtain ⟨j, D1, G1, hj, rfl, hI⟩ := hrel
    have H1 := Lib.hid hI
    have kc := cell_of hI.cbk
    obtain ⟨hb⟩ := (⟨hI.bb⟩ : PLift (D1.b = b))
    clear hI HI
    subst hb
    by_cases hlt : (j : Int) < 3
    · go_wp2_with fail
      refine (d_invoke H1.out.d j 1 _ 1 0 _ [] (by omega) (by omega) (H1.out.off j (by omega)) (Rd.nil _) (by simp) ⟨_, _, rfl⟩).mono ?_
      rintro e w2 ⟨g, rfl, hA2, hU2, p1, p2, p3, p4, p5, p6, p7, p8⟩
      have H2 := Lib.hid (H1.out.next hA2 hU2 ⟨p1, p2, p3, p4, p5, p6⟩)
      clear hA2 hU2 p1 p2 p3 p4 p5 p6 p7 p8 kc
      go_wp2_with fail
      refine (effects_len (D1.invoked j g) _ H2.out.d.d (by rw [H2.out.effs]; simp) (by rw [H2.out.effs]; simp)).mono ?_
      rintro e w3 ⟨a3, c3, he, hU3⟩
      have e0 : (D1.invoked j g).effs.length = 0 := by rw [H2.out.effs]; rfl
      rw [e0] at he
      subst he
      have H3 := Lib.hid (H2.out.quiet hU3)
      clear hU3 e0
      go_wp2_with fail
      refine (dused_any (D1.invoked j g) G1 _ H3.out.d.d H3.out.d.a.plan H3.out.d.pb).mono ?_
      rintro e w4 ⟨he, rfl⟩
      have e0 : sumU G1.u = 0 := by rw [H3.out.pf.sum]; rfl
      rw [e0] at he
      subst he
      clear e0
      go_wp2
      go_roundw
      case rel => exact ⟨j + 1, D1.invoked j g, G1, by omega, by go_num, H3.out⟩
      case measure => simp [intOf]; omega
    · have hj3 : j = 3 := by omega
      subst hj3
      cases swap
      · have H2 := Lib.hid (H1.out.to2 (s := false) (ob := wr.heap.size) (w' := wr.alloc (.cells #[.int .i64 0, .int .i64 1, .int .i64 2] 3 (0, 0))) (by (with_reducible (repeat (first | exact Upd.refl _ _ | refine Upd.alloc ?_ _ | refine Upd.drew ?_ | refine Upd.drewN ?_ _ | refine Upd.setCell ?_ (by first | (left; simp; done) | (right; simp; done) | (right; simp; omega)) _)))) (by omega) (heap_new _ _))
        clear kc H1
        go_wp2
        generalize wr.heap.size = ob at *
        go_loopw [7] (fun i wr => ∃ (k : Nat) (D' : DeskG) (G' : PlanG), k ≤ 3 ∧ i = .int .i64 k ∧ I2 W wr D1.b ob false k D' G') (fun i _ => (3 - intOf i).toNat)
        case atStart => exact ⟨0, D1, G1, by omega, rfl, H2.out⟩
        case round =>
          obtain ⟨k, D2, G2, hk, rfl, hI2⟩ := hrel
          have H3 := Lib.hid hI2
          have kc := cell_of hI2.ok
          clear hI2 H2
          by_cases hlt : (k : Int) < 3
          · obtain rfl | rfl | rfl : k = 0 ∨ k = 1 ∨ k = 2 := by omega
            all_goals
              go_wp2_with fail
              refine (step2 H3.out (by omega)).mono ?_
              rintro e w5 ⟨rfl, D3, G3, hI3⟩
              have H4 := Lib.hid hI3
              clear hI3
              unfold stepV ansV
              go_wp2
              go_roundw
              case rel => exact ⟨_, D3, G3, by omega, by go_num, H4.out⟩
              case measure => simp [intOf]
          · have hk3 : k = 3 := by omega
            subst hk3
            have H5 := Lib.hid H3.out.to3
            clear H3 kc
            go_wp2
            go_loopw [8] (fun i wr => ∃ (k : Nat) (D' : DeskG) (G' : PlanG), k ≤ 3 ∧ i = .int .i64 k ∧ I3 W wr D1.b ob false k D' G') (fun i _ => (3 - intOf i).toNat)
            case atStart => exact ⟨0, D2, G2, by omega, rfl, H5.out⟩
            case round =>
              obtain ⟨k, D4, G4, hk4, rfl, hI4⟩ := hrel
              have H6 := Lib.hid hI4
              have kc := cell_of hI4.ok
              have hb4 := hI4.bb
              have HB := Lib.hid hb4
              clear hI4 H5 hb4
              by_cases hlt : (k : Int) < 3
              · obtain rfl | rfl | rfl : k = 0 ∨ k = 1 ∨ k = 2 := by omega
                all_goals
                  go_wp2_with fail
                  refine (step3 H6.out (by omega)).mono ?_
                  rintro e w6 ⟨a6, c6, rfl, D5, G5, hI5⟩
                  have H7 := Lib.hid hI5
                  clear hI5
                  unfold stepV ansV
                  go_wp2
                  go_roundw
                  case rel => exact ⟨_, D5, G5, by omega, by go_num, H7.out.quiet (by (with_reducible (repeat (first | exact Upd.refl _ _ | refine Upd.alloc ?_ _ | refine Upd.drew ?_ | refine Upd.drewN ?_ _ | refine Upd.setCell ?_ (by first | (left; simp; done) | (right; simp; done) | (right; simp; omega)) _))))⟩
                  case measure => simp [intOf]
              · have hk3 : k = 3 := by omega
                subst hk3
                clear kc
                go_wp2_with fail
                rw [← HB.out]
                refine (dsessions_any D4 G4 _ H6.out.d.d H6.out.d.a.plan H6.out.d.pb).mono ?_
                rintro e w6 ⟨he, rfl⟩
                rw [H6.out.sess] at he
                subst he
                go_wp2_with fail
                refine (known13 W _ H6.out.d.a.upd).mono ?_
                rintro e w7 ⟨rfl, hU7⟩
                go_wp2
                go_ret
                exact ⟨rfl, hU7⟩
      · have H2 := Lib.hid (H1.out.to2 (s := true) (ob := (wr.heap.size + 1)) (w' := (wr.alloc (.cells #[.int .i64 0, .int .i64 1, .int .i64 2] 3 (0, 0))).alloc (.cells #[.int .i64 2, .int .i64 1, .int .i64 0] 3 (0, 0))) (by (with_reducible (repeat (first | exact Upd.refl _ _ | refine Upd.alloc ?_ _ | refine Upd.drew ?_ | refine Upd.drewN ?_ _ | refine Upd.setCell ?_ (by first | (left; simp; done) | (right; simp; done) | (right; simp; omega)) _)))) (by omega) (by rw [show wr.heap.size + 1 = (wr.alloc (.cells #[.int .i64 0, .int .i64 1, .int .i64 2] 3 (0, 0))).heap.size from by simp]; exact heap_new _ _))
        clear kc H1
        go_wp2
        generalize (wr.heap.size + 1) = ob at *
        go_loopw [7] (fun i wr => ∃ (k : Nat) (D' : DeskG) (G' : PlanG), k ≤ 3 ∧ i = .int .i64 k ∧ I2 W wr D1.b ob true k D' G') (fun i _ => (3 - intOf i).toNat)
        case atStart => exact ⟨0, D1, G1, by omega, rfl, H2.out⟩
        case round =>
          obtain ⟨k, D2, G2, hk, rfl, hI2⟩ := hrel
          have H3 := Lib.hid hI2
          have kc := cell_of hI2.ok
          clear hI2 H2
          by_cases hlt : (k : Int) < 3
          · obtain rfl | rfl | rfl : k = 0 ∨ k = 1 ∨ k = 2 := by omega
            all_goals
              go_wp2_with fail
              refine (step2 H3.out (by omega)).mono ?_
              rintro e w5 ⟨rfl, D3, G3, hI3⟩
              have H4 := Lib.hid hI3
              clear hI3
              unfold stepV ansV
              go_wp2
              go_roundw
              case rel => exact ⟨_, D3, G3, by omega, by go_num, H4.out⟩
              case measure => simp [intOf]
          · have hk3 : k = 3 := by omega
            subst hk3
            have H5 := Lib.hid H3.out.to3
            clear H3 kc
            go_wp2
            go_loopw [8] (fun i wr => ∃ (k : Nat) (D' : DeskG) (G' : PlanG), k ≤ 3 ∧ i = .int .i64 k ∧ I3 W wr D1.b ob true k D' G') (fun i _ => (3 - intOf i).toNat)
            case atStart => exact ⟨0, D2, G2, by omega, rfl, H5.out⟩
            case round =>
              obtain ⟨k, D4, G4, hk4, rfl, hI4⟩ := hrel
              have H6 := Lib.hid hI4
              have kc := cell_of hI4.ok
              have hb4 := hI4.bb
              have HB := Lib.hid hb4
              clear hI4 H5 hb4
              by_cases hlt : (k : Int) < 3
              · obtain rfl | rfl | rfl : k = 0 ∨ k = 1 ∨ k = 2 := by omega
                all_goals
                  go_wp2_with fail
                  refine (step3 H6.out (by omega)).mono ?_
                  rintro e w6 ⟨a6, c6, rfl, D5, G5, hI5⟩
                  have H7 := Lib.hid hI5
                  clear hI5
                  unfold stepV ansV
                  go_wp2
                  go_roundw
                  case rel => exact ⟨_, D5, G5, by omega, by go_num, H7.out.quiet (by (with_reducible (repeat (first | exact Upd.refl _ _ | refine Upd.alloc ?_ _ | refine Upd.drew ?_ | refine Upd.drewN ?_ _ | refine Upd.setCell ?_ (by first | (left; simp; done) | (right; simp; done) | (right; simp; omega)) _))))⟩
                  case measure => simp [intOf]
              · have hk3 : k = 3 := by omega
                subst hk3
                clear kc
                go_wp2_with fail
                rw [← HB.out]
                refine (dsessions_any D4 G4 _ H6.out.d.d H6.out.d.a.plan H6.out.d.pb).mono ?_
                rintro e w6 ⟨he, rfl⟩
                rw [H6.out.sess] at he
                subst he
                go_wp2_with fail
                refine (known13 W _ H6.out.d.a.upd).mono ?_
                rintro e w7 ⟨rfl, hU7⟩
                go_wp2
                go_ret
                exact ⟨rfl, hU7⟩
end Go.Proofs.YtmcnjikafppccaaGreat
