/- plan.open without a dictionary; unpins of nothing; Pin of what is not there. -/
import Derived.Test.YtmcnjikafppccaaGreatPlanBase
import Derived.Deep.RegionHeld3
namespace Go.Proofs.YtmcnjikafppccaaGreat
open Go.RowKit

def ansV (e n : Int) (out : Value) : Value := .agg #[.int .i64 e, .int .i64 n, out]
def callV (kind : Int) (name : ByteArray) (level handle : Int) (data : Value) : Value := .agg #[.int .i64 kind, .string name, .int .i64 level, .int .i64 handle, data]

theorem unpin_none (G : ShelfG) (id : Int) (w : World) (h : IsShelf w G) (hid : bookAt G id = none) :
    Calls Tryz.prog 56 #[.pointer (some ⟨G.b, 0, none⟩), .int .i64 id] w fun e w' => e = .returned (.bool false) ∧ w' = w := by
  have H := Lib.hid h
  have HB : Hid (bookPtr (bookAt G id) = .pointer none) := by unfold Hid; rw [hid]; rfl
  clear h hid
  go_enter Tryz.func56, Tryz.ntmps56
  go_wp2_with (go_at_call 65; refine (book_any _ _ _ H.out).mono ?_; rintro e w' ⟨he, rfl⟩; rw [HB.out] at he; subst he)
  go_ret
  exact ⟨rfl, rfl⟩

theorem unpins_none (G : PlanG) (id : Int) (w : World) (h : IsPlan w G) (hid : bookAt G.sh id = none) :
    Calls Tryz.prog 42 #[.pointer (some ⟨G.b, 0, none⟩), .int .i64 id] w fun e w' => e = .returned (.tuple #[]) ∧ w' = w := by
  have hc := cell_of h.plan
  have H := Lib.hid h
  have HB := Lib.hid hid
  clear h hid
  go_enter Tryz.func42, Tryz.ntmps42
  go_wp2_with (go_at_call 56; refine (unpin_none _ _ _ H.out.shelf HB.out).mono ?_; rintro e w' ⟨rfl, rfl⟩)
  go_end0
  exact ⟨rfl, rfl⟩

theorem pin_none (G : ShelfG) (k : ByteArray) (w : World) (h : IsShelf w G) (hk : idAt G k = 0) :
    Calls Tryz.prog 40 #[.pointer (some ⟨G.b, 0, none⟩), .string k] w fun e w' => e = .returned (.tuple #[.int .i64 0, .slice none 0 0, .int .i64 5]) ∧ w' = w := by
  have H := Lib.hid h
  have HB := Lib.hid hk
  clear h hk
  go_enter Tryz.func40, Tryz.ntmps40
  go_wp2_with (go_at_call 54; refine (at_any _ _ _ H.out).mono ?_; rintro e w' ⟨he, rfl⟩; rw [HB.out] at he; subst he)
  go_ret3
  exact ⟨rfl, rfl⟩

theorem PlanG.nd_parts {G : PlanG} (h : G.blocks.Nodup) :
    (G.b ≠ G.pb ∧ G.b ≠ G.se ∧ G.b ≠ G.lo ∧ G.b ∉ G.sh.blocks) ∧ (G.pb ≠ G.se ∧ G.pb ≠ G.lo ∧ G.pb ∉ G.sh.blocks) ∧ (G.se ≠ G.lo ∧ G.se ∉ G.sh.blocks) ∧ G.lo ∉ G.sh.blocks ∧ G.sh.blocks.Nodup := by
  simp only [PlanG.blocks, List.nodup_cons, List.mem_cons, not_or] at h
  exact ⟨⟨h.1.1, h.1.2.1, h.1.2.2.1, h.1.2.2.2⟩, ⟨h.2.1.1, h.2.1.2.1, h.2.1.2.2⟩, ⟨h.2.2.1.1, h.2.2.1.2⟩, h.2.2.2.1, h.2.2.2.2⟩
theorem ne1 {a b : Nat} (h : a ≠ b) : a ∉ [b] := by simp [h]
theorem mem_ne {a : Nat} {l : List Nat} (h : a ∉ l) : ∀ k ∈ l, k ∉ [a] := fun k hk e => by
  rw [List.mem_singleton] at e
  exact h (e ▸ hk)
theorem IsPlan.setU {w w' : World} {G : PlanG} (h : IsPlan w G) {u : Int → Int} (hU : Upd [G.pb] w w') (hp : w'.heap[G.pb]? = some (purseO G.all G.each u)) (ok : PurseOk G.all G.each u) : IsPlan w' { G with u := u } := by
  obtain ⟨⟨a1, a2, a3, a4⟩, ⟨b1, b2, b3⟩, ⟨c1, c2⟩, d1, e1⟩ := PlanG.nd_parts h.nd
  exact ⟨hU.blk h.plan (ne1 a1), hp, hU.blk h.sess (ne1 b1.symm), hU.blk h.loads (ne1 b2.symm), h.shelf.upd hU (mem_ne b3), ok, h.nd⟩
theorem IsPlan.setLast {w w' : World} {G : PlanG} (h : IsPlan w G) {n : Int} (hU : Upd [G.b] w w') (hp : w'.heap[G.b]? = some (planO { G with last := n })) : IsPlan w' { G with last := n } := by
  obtain ⟨⟨a1, a2, a3, a4⟩, ⟨b1, b2, b3⟩, ⟨c1, c2⟩, d1, e1⟩ := PlanG.nd_parts h.nd
  exact ⟨hp, hU.blk h.purse (ne1 a1.symm), hU.blk h.sess (ne1 a2.symm), hU.blk h.loads (ne1 a3.symm), h.shelf.upd hU (mem_ne a4), h.ok, h.nd⟩
theorem IsPlan.setSess {w w' : World} {G : PlanG} (h : IsPlan w G) {s : List (Int × SessG × Nat)} {c : Nat} (hU : Upd [G.se] w w') (hp : w'.heap[G.se]? = some (sessO s c)) : IsPlan w' { G with sess := s, c3 := c } := by
  obtain ⟨⟨a1, a2, a3, a4⟩, ⟨b1, b2, b3⟩, ⟨c1, c2⟩, d1, e1⟩ := PlanG.nd_parts h.nd
  exact ⟨hU.blk h.plan (ne1 a2), hU.blk h.purse (ne1 b1), hp, hU.blk h.loads (ne1 c1.symm), h.shelf.upd hU (mem_ne c2), h.ok, h.nd⟩
theorem IsPlan.setLoads {w w' : World} {G : PlanG} (h : IsPlan w G) {s : List (Int × (Int × Int) × Nat)} {c : Nat} (hU : Upd [G.lo] w w') (hp : w'.heap[G.lo]? = some (loadO s c)) : IsPlan w' { G with loads := s, c4 := c } := by
  obtain ⟨⟨a1, a2, a3, a4⟩, ⟨b1, b2, b3⟩, ⟨c1, c2⟩, d1, e1⟩ := PlanG.nd_parts h.nd
  exact ⟨hU.blk h.plan (ne1 a3), hU.blk h.purse (ne1 b2), hU.blk h.sess (ne1 c1), hp, h.shelf.upd hU (mem_ne d1), h.ok, h.nd⟩
theorem PurseOk.add {all each : Int} {u : Int → Int} (h : PurseOk all each u) {c n : Int} (h0 : 0 ≤ n) (h1 : n ≤ each - u c) : PurseOk all each (addU u c n) := by
  refine ⟨fun i => ?_, fun i => ?_, h.each0, h.each1, h.all0, h.all1⟩
  · have := h.pos i
    unfold addU; split <;> omega
  · have := h.le i
    have := h.each1
    unfold addU; split
    · subst i; omega
    · omega

theorem open_arg (G : PlanG) (c kind : Int) (name : ByteArray) (level handle : Int) (dv : Value) (w : World) (hd : ∃ a n c, dv = .slice a n c) (hbad : level < 1 ∨ 3 < level ∨ 12 < name.size) :
    Calls Tryz.prog 27 #[.pointer (some ⟨G.b, 0, none⟩), .int .i64 c, callV kind name level handle dv] w fun e w' => e = .returned (ansV 1 0 (.slice none 0 0)) ∧ Upd [] w w' := by
  obtain ⟨a, n, cp, rfl⟩ := hd
  unfold callV
  go_enter Tryz.func27, Tryz.ntmps27
  go_wp2
  all_goals exact bodyPost_ret (v := ansV 1 0 (.slice none 0 0)) (by simp [results, Tryz.results27, go_sem, ansV]) rfl ⟨rfl, by (with_reducible (repeat (first | exact Upd.refl _ _ | refine Upd.alloc ?_ _ | refine Upd.drew ?_ | refine Upd.drewN ?_ _ | refine Upd.setCell ?_ (by first | (left; simp; done) | (right; simp; done) | (right; simp; omega)) _)))⟩

set_option maxRecDepth 100000 in
theorem open_quota (G : PlanG) (c kind : Int) (level handle : Int) (dv : Value) (w : World) (h : IsPlan w G) (hd : ∃ a n c, dv = .slice a n c) (hl : 1 ≤ level ∧ level ≤ 3) (hc0 : 0 ≤ c) (hc1 : c < 4)
    (hq : ¬ (2500 ≤ G.each - G.u c ∧ 2500 ≤ G.all - sumU G.u)) (h0 : bookAt G.sh 0 = none) :
    Calls Tryz.prog 27 #[.pointer (some ⟨G.b, 0, none⟩), .int .i64 c, callV kind ⟨#[]⟩ level handle dv] w fun e w' => e = .returned (ansV 6 0 (.slice none 0 0)) ∧ Upd [] w w' := by
  obtain ⟨a, n, cp, rfl⟩ := hd
  obtain ⟨l1, l2⟩ := hl
  have H := Lib.hid h
  have HQ := Lib.hid hq
  have HB := Lib.hid h0
  have hc := cell_of h.plan
  have hs : G.b < w.heap.size := lt_of_heap h.plan
  clear h hq h0
  unfold callV
  go_enter Tryz.func27, Tryz.ntmps27
  go_wp2_with fail
  refine (take_no _ _ _ _ _ _ _ (H.out.upd (S := []) (by (with_reducible (repeat (first | exact Upd.refl _ _ | refine Upd.alloc ?_ _ | refine Upd.drew ?_ | refine Upd.drewN ?_ _ | refine Upd.setCell ?_ (by first | (left; simp; done) | (right; simp; done) | (right; simp; omega)) _)))) (by simp)).purse H.out.ok hc0 hc1 (by omega) (by omega) HQ.out).mono ?_
  rintro e w' ⟨rfl, m, rfl⟩
  go_wp2_with fail
  refine (unpins_none _ _ _ (H.out.upd (S := []) (by (with_reducible (repeat (first | exact Upd.refl _ _ | refine Upd.alloc ?_ _ | refine Upd.drew ?_ | refine Upd.drewN ?_ _ | refine Upd.setCell ?_ (by first | (left; simp; done) | (right; simp; done) | (right; simp; omega)) _)))) (by simp)) HB.out).mono ?_
  rintro e w' ⟨rfl, rfl⟩
  go_wp2
  exact bodyPost_ret (v := ansV 6 0 (.slice none 0 0)) (by simp [results, Tryz.results27, go_sem, ansV]) rfl ⟨rfl, by (with_reducible (repeat (first | exact Upd.refl _ _ | refine Upd.alloc ?_ _ | refine Upd.drew ?_ | refine Upd.drewN ?_ _ | refine Upd.setCell ?_ (by first | (left; simp; done) | (right; simp; done) | (right; simp; omega)) _)))⟩

theorem put_sess (c : Int) (sb : Nat) (id : Int) {w : World} {se : Nat} {l : List (Int × SessG × Nat)} {c3 : Nat} {k : Int} (h : w.heap[se]? = some (sessO l c3)) (hn : getI k l = none) :
    (Instr.mapUpdate 52 (.map (some se)) (.int .i64 k) (.agg #[.int .i64 c, .pointer (some ⟨sb, 0, none⟩), .int .i64 id])).run Tryz.prog w = .ok () (putB w se (sessO (l ++ [(k, (⟨c, sb, id⟩ : SessG), c3)]) (c3 + 1))) := by
  have e : getI k (l.map sessEnt) = (getI k l).map (fun y => (sessV y.1, y.2)) := getI_map (fun y : SessG × Nat => (sessV y.1, y.2)) k l
  rw [hn] at e
  have := run_update_new (P := Tryz.prog) (sessV (⟨c, sb, id⟩ : SessG)) Tryz.underlying52 Tryz.underlying3 h e
  simpa [sessO, List.map_append, sessEnt, sessV] using this

/-- The Plan with a session more. -/
def PlanG.opened (G : PlanG) (c : Int) (sb : Nat) (id : Int) : PlanG :=
  { G with u := addU G.u c 2500, last := G.last + 1, sess := G.sess ++ [(G.last + 1, ⟨c, sb, id⟩, G.c3)], c3 := G.c3 + 1 }

set_option maxRecDepth 100000 in
theorem open_ok (G : PlanG) (c kind : Int) (level handle : Int) (dv : Value) (w : World) (h : IsPlan w G) (hd : ∃ a n c, dv = .slice a n c) (hl : 1 ≤ level ∧ level ≤ 3) (hc0 : 0 ≤ c) (hc1 : c < 4)
    (hq1 : 2500 ≤ G.each - G.u c) (hq2 : 2500 ≤ G.all - sumU G.u) (hnew : getI (G.last + 1) G.sess = none) (hlast : 0 ≤ G.last ∧ G.last ≤ 1000000) :
    Calls Tryz.prog 27 #[.pointer (some ⟨G.b, 0, none⟩), .int .i64 c, callV kind ⟨#[]⟩ level handle dv] w fun e w' => ∃ sb cb v', e = .returned (ansV 0 (G.last + 1) (.slice none 0 0)) ∧ Upd [G.b, G.pb, G.se] w w' ∧
      IsPlan w' (G.opened c sb 0) ∧ w.heap.size ≤ sb ∧ w.heap.size ≤ cb ∧ w'.heap[sb]? = some (streamO 0 (depthOf level) v' (.slice none 0 0) (.slice none 0 0) 1 4 8 false false cb) ∧ w'.heap[cb]? = some (.chan 1 #[] false 0 0 false) ∧ w'.ownsRow w.heap.size 5 1 v' 0 [] := by
  obtain ⟨a, n, cp, rfl⟩ := hd
  obtain ⟨l1, l2⟩ := hl
  obtain ⟨e0, e1⟩ := hlast
  have H := Lib.hid h
  have HN := Lib.hid hnew
  have hc := cell_of h.plan
  have hs : G.b < w.heap.size := lt_of_heap h.plan
  have HP := Lib.hid (PlanG.nd_parts h.nd)
  clear h hnew
  unfold callV
  go_enter Tryz.func27, Tryz.ntmps27
  go_wp2_with fail
  have h0 : IsPlan ((w.alloc (.cells #[.int .i64 kind, .string ⟨#[]⟩, .int .i64 level, .int .i64 handle, .slice a n cp] 30)).alloc (.cells #[.int .i64 0, .int .i64 0, .slice none 0 0] 27)) G := (H.out.upd (S := []) (by (with_reducible (repeat (first | exact Upd.refl _ _ | refine Upd.alloc ?_ _ | refine Upd.drew ?_ | refine Upd.drewN ?_ _ | refine Upd.setCell ?_ (by first | (left; simp; done) | (right; simp; done) | (right; simp; omega)) _)))) (by simp))
  refine (take_yes _ _ _ _ _ _ _ h0.purse H.out.ok hc0 hc1 (by omega) (by omega) hq1 hq2).mono ?_
  rintro e w1 ⟨rfl, hU1, hp1⟩
  have h1 := Lib.hid (h0.setU hU1 hp1 (H.out.ok.add (by omega) hq1))
  have z1 := hU1.size
  simp only [World.size_alloc] at z1
  have HU1 := Lib.hid hU1
  have k5 : ∀ o, w1.cell? ⟨w.heap.size, o, none⟩ = #[Value.int .i64 kind, .string ⟨#[]⟩, .int .i64 level, .int .i64 handle, .slice a n cp][o]? := cell_of (hU1.blk (heap_old (heap_new w _)) (by have := lt_of_heap H.out.purse; simp; omega))
  have B6 : Hid (w1.heap[w.heap.size + 1]? = some (.cells #[Value.int .i64 0, .int .i64 0, .slice none 0 0] 27 (0, 0))) := hU1.blk (heap_new' (by simp)) (by have := lt_of_heap H.out.purse; simp; omega)
  have hc' := cell_of h1.out.plan
  have hf' := froz_of h1.out.plan
  clear hc h0 hp1 hU1
  go_wp2_with fail
  have hU2 : Upd [G.b] w1 (w1.setCell ⟨G.b, 4, none⟩ (.int .i64 (G.last + 1))) := (Upd.refl _ _).setCell (.inl (by simp)) _
  have h2 := Lib.hid (h1.out.setLast (n := G.last + 1) hU2 ((heap_setCell_at h1.out.plan 4 _).trans (by simp [planO])))
  have ne5 : w.heap.size ∉ [G.b] := by simp; omega
  have ne6 : w.heap.size + 1 ∉ [G.b] := by simp; omega
  have K5 : ∀ o, (w1.setCell ⟨G.b, 4, none⟩ (.int .i64 (G.last + 1))).cell? ⟨w.heap.size, o, none⟩ = #[Value.int .i64 kind, .string ⟨#[]⟩, .int .i64 level, .int .i64 handle, .slice a n cp][o]? := fun o => (hU2.cell (p := ⟨w.heap.size, o, none⟩) (by simp only; omega) ne5).trans (k5 o)
  have B7 := Lib.hid (hU2.blk B6.out ne6)
  have HU2 := Lib.hid (HU1.out.mono (S' := [G.b, G.pb, G.se]) (by simp) |>.trans (hU2.mono (by simp)))
  have z2 : w.heap.size + 1 + 1 ≤ (w1.setCell ⟨G.b, 4, none⟩ (.int .i64 (G.last + 1))).heap.size := by simpa using z1
  have hc2 := cell_of h2.out.plan
  clear k5 B6 hc' hf' hU2 HU1 z1
  generalize w1.setCell ⟨G.b, 4, none⟩ (.int .i64 (G.last + 1)) = w2 at *
  clear h1 
  have nbse : G.b ≠ G.se := HP.out.1.2.1
  have hse : G.se < w.heap.size := lt_of_heap H.out.sess
  go_region_held3 (fun w' => w'.cell? ⟨G.b, 2, none⟩ = some (.map (some G.se)) ∧ w'.cell? ⟨G.b, 4, none⟩ = some (.int .i64 (G.last + 1)) ∧ w'.cell? ⟨w.heap.size, 2, none⟩ = some (.int .i64 level)) (first | (refine ⟨(hU3.cell (by first | omega | (simp; omega)) (by simp)).trans ?_, (hU3.cell (by first | omega | (simp; omega)) (by simp)).trans ?_, (hU3.cell (by first | omega | (simp; omega)) (by simp)).trans ?_⟩ <;> (simp [*]; done)) | (refine ⟨(cell_putB nbse).trans ?_, (cell_putB nbse).trans ?_, (cell_putB (by simp only; omega)).trans ?_⟩ <;> (simp [*]; done)) | go_keep) (first | (go_at_call 43; refine (snew_any (.slice none 0 0) [] 0 level _ (Rd.nil _) (by simp) ⟨none, 0, rfl⟩ l1 l2 (by omega) (by omega)).mono ?_; rintro e w3 ⟨sb, cb, v', rfl, hU3, g1, g2, s1, s2, o1⟩; have hup := put_sess c sb 0 (hU3.blk h2.out.sess (by simp)) HN.out))
  have hU4 : Upd [] w2 w3 := (Upd.refl _ _).drew.trans hU3
  have h3 := h2.out.upd hU4 (fun _ _ => by simp)
  have h4 := h3.setSess (s := G.sess ++ [(G.last + 1, (⟨c, sb, 0⟩ : SessG), G.c3)]) (c := G.c3 + 1) ((Upd.refl [G.se] w3).putB (.inl (by simp)) _) (heap_putB h3.sess)
  have hU5 : Upd [G.se] w3 (putB w3 G.se (sessO (G.sess ++ [(G.last + 1, (⟨c, sb, 0⟩ : SessG), G.c3)]) (G.c3 + 1))) := (Upd.refl [G.se] w3).putB (.inl (by simp)) _
  have B8 := Lib.hid (hU5.blk (hU4.blk B7.out (by simp)) (by simp; omega))
  have q6 := cell_of B8.out
  have qf := froz_of B8.out
  have nsb : sb ≠ G.se := by have : w2.heap.size ≤ sb := g1; omega
  have ncb : cb ≠ G.se := by have : w2.heap.size ≤ cb := g2; omega
  have s1' := hU5.blk s1 (by simpa using nsb)
  have s2' := hU5.blk s2 (by simpa using ncb)
  have HU6 := Lib.hid ((HU2.out.trans (hU4.mono (by simp))).trans (hU5.mono (by simp)))
  have hc4 := cell_of h4.plan
  have z4 : w.heap.size + 1 + 1 ≤ (putB w3 G.se (sessO (G.sess ++ [(G.last + 1, (⟨c, sb, 0⟩ : SessG), G.c3)]) (G.c3 + 1))).heap.size := by have := hU4.size; simp; omega
  have o2 := own_upd (base' := w.heap.size) (own_upd o1 hU5 (fun k hk => by have := (o1.lt k hk).1; have e : w2.drew.heap.size = w2.heap.size := rfl; simp; omega) (Nat.le_refl _)) (Upd.refl [] _) (by simp) (by have e : w2.drew.heap.size = w2.heap.size := rfl; omega)
  have HV : Hid (∀ k, v'.ownBlock = some k → w2.heap.size ≤ k) := fun k hk => (o1.lt k hk).1
  clear hup h3 hU5 hU4 hU3 s1 s2 hc2 HU2 K5 B7 o1 
  simp only at h4 hc4
  generalize putB w3 G.se (sessO (G.sess ++ [(G.last + 1, (⟨c, sb, 0⟩ : SessG), G.c3)]) (G.c3 + 1)) = w4 at *
  have H4 := Lib.hid h4
  have S1 := Lib.hid s1'
  have S2 := Lib.hid s2'
  have O2 := Lib.hid o2
  clear h4 s1' s2' o2
  go_wp2
  have hU7 : Upd [w.heap.size + 1] w4 (((w4.setCell ⟨w.heap.size + 1, 0, none⟩ (.int .i64 0)).setCell ⟨w.heap.size + 1, 1, none⟩ (.int .i64 (G.last + 1))).setCell ⟨w.heap.size + 1, 2, none⟩ (.slice none 0 0)) := by (with_reducible (repeat (first | exact Upd.refl _ _ | refine Upd.alloc ?_ _ | refine Upd.drew ?_ | refine Upd.drewN ?_ _ | refine Upd.setCell ?_ (by first | (left; simp; done) | (right; simp; done) | (right; simp; omega)) _)))
  have z2' : w.heap.size + 1 < w2.heap.size := by omega
  have qq := cell_of (heap_setCell_at (heap_setCell_at (heap_setCell_at B8.out 0 (.int .i64 0)) 1 (.int .i64 (G.last + 1))) 2 (.slice none 0 0))
  simp only [List.setIfInBounds_toArray, List.set_cons_zero, List.set_cons_succ] at qq
  refine bodyPost_ret (v := ansV 0 (G.last + 1) (.slice none 0 0)) (by simp [results, Tryz.results27, go_sem, ansV, qq]) rfl ⟨sb, cb, v', rfl, ?_, ?_, ?_, ?_, hU7.blk S1.out ?_, hU7.blk S2.out ?_, own_upd O2.out hU7 ?_ (Nat.le_refl _)⟩
  · refine Upd.drop (S := [w.heap.size + 1, G.b, G.pb, G.se]) ((Upd.trans (by (with_reducible (repeat (first | exact Upd.refl _ _ | refine Upd.alloc ?_ _ | refine Upd.drew ?_ | refine Upd.drewN ?_ _ | refine Upd.setCell ?_ (by first | (left; simp; done) | (right; simp; done) | (right; simp; omega)) _)))) (HU6.out.mono (by intro k hk; simp at hk ⊢; omega))).trans (hU7.mono (by simp))) (fun k hk => ?_)
    simp at hk ⊢
    omega
  · exact H4.out.upd hU7 (fun k hk e => by
      have : k < w.heap.size := H.out.lt k hk
      simp at e
      omega)
  · have e : w2.drew.heap.size = w2.heap.size := rfl
    omega
  · have e : w2.drew.heap.size = w2.heap.size := rfl
    omega
  · have e : w2.drew.heap.size = w2.heap.size := rfl
    simp
    omega
  · have e : w2.drew.heap.size = w2.heap.size := rfl
    simp
    omega
  · intro k hk
    have := HV.out k hk
    simp
    omega
end Go.Proofs.YtmcnjikafppccaaGreat
