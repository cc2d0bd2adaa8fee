/- desk.Step: the last step. -/
import Derived.Test.YtmcnjikafppccaaGreatDeskStep
import Derived.Deep.RegionWith
namespace Go.Proofs.YtmcnjikafppccaaGreat
open Go.RowKit

theorem flat9 (l : List EffG) (i : Nat) (e : EffG) (h : l[i]? = some e) (j : Nat) (hj : j < 9) : (l.flatMap EffG.cells)[i * 9 + j]? = e.cells[j]? := by
  induction l generalizing i with
  | nil => simp at h
  | cons x l ih =>
    have hx : x.cells.length = 9 := rfl
    cases i with
    | zero =>
      simp at h
      subst h
      rw [List.flatMap_cons, List.getElem?_append_left (by omega)]
      simp
    | succ i =>
      have h' : l[i]? = some e := by simpa using h
      rw [List.flatMap_cons, List.getElem?_append_right (by omega), hx, ← ih i h']
      congr 1
      omega
/-- An effect's cells. -/
theorem eff_cells {w : World} {D : DeskG} (h : IsDesk w D) {i : Nat} {e : EffG} (hi : D.effs[i]? = some e) :
    ∃ g cap, D.ev = .slice (some ⟨g, 0, none⟩) D.effs.length cap ∧ g < w.heap.size ∧ ∀ j, j < 9 → w.cell? ⟨g, i * 9 + j, none⟩ = e.cells[j]? := by
  have hlt : i < D.effs.length := (List.getElem?_eq_some_iff.1 hi).1
  have ho := h.effs
  rcases ho.2 with ⟨-, h0⟩ | ⟨g, cap, cur, hv, -, hg, hn, -, hs, ht⟩
  · omega
  · refine ⟨g, cap, hv, lt_of_heap hg, fun j hj => ?_⟩
    have hf := flat9 D.effs i e hi j hj
    have hc := ho.cells (g := g) (by rw [hv]; rfl) (i * 9 + j)
    have he : ∃ u, e.cells[j]? = some u := ⟨e.cells[j]'(by show j < 9; exact hj), List.getElem?_eq_getElem _⟩
    obtain ⟨u, hu⟩ := he
    have := hc u (hf.trans hu)
    have ha : (⟨g, 0, none⟩ : Addr).add (i * 9 + j) = ⟨g, i * 9 + j, none⟩ := by unfold Addr.add; split <;> simp_all
    rw [ha] at this
    rw [this, hu]
theorem done_f2 (a b c d e f g h i : Value) (w : World) : (Instr.field 66 (.agg #[a, b, c, d, e, f, g, h, i]) 2).run Tryz.prog w = .ok (.agg #[g, h, i]) w := by kernel_rfl

def EPost (D : DeskG) (c : Int) (x : EffG) (w w' : World) (ov' : Value) : Prop :=
  w'.ownsRow w.heap.size 5 1 ov' x.out.length (x.out.map B) ∧ ∃ w1, Upd [D.b] w w1 ∧ w1.heap[D.b]? = some (deskO { D with calls := updC D.calls c none }) ∧ Upd [w.heap.size] w1 w'
set_option maxRecDepth 100000 in
set_option maxHeartbeats 2000000 in
theorem step_end (D : DeskG) (c : Int) (g : GoingG) (i : Nat) (x : EffG) (w : World) (h : IsDesk w D) (h0 : 0 ≤ c) (h1 : c < 4) (hb : D.calls c = some g) (hat : g.at_ = (i : Int)) (hx : D.effs[i]? = some x) (hl : g.left = []) (ho : x.out.length ≤ 1000000) (hlen : D.effs.length ≤ 1000000) :
    Calls Tryz.prog 19 #[.pointer (some ⟨D.b, 0, none⟩), .int .i64 c] w fun e w' => ∃ ov', e = .returned (stepV x.err x.n ov' true 0) ∧ EPost D c x w w' ov' := by
  have hc := cell_some h.desk h0 h1 hb
  have hs := lt_of_heap h.desk
  have hf := froz_of h.desk
  have hG := goings_of h h0 h1 hb
  obtain ⟨la, lc, hlv⟩ := hG.shape
  rw [hl] at hlv
  have hg := cell_of hG.blk
  have hgs := lt_of_heap hG.blk
  rw [hat, hlv] at hg
  obtain ⟨eg, ec, hev, hgl, hcell⟩ := eff_cells h hx
  have hd : w.cell? ⟨D.b, 5, none⟩ = some (.slice (some ⟨eg, 0, none⟩) D.effs.length ec) := by rw [cell_of h.desk, hev]; rfl
  have hil : i < D.effs.length := (List.getElem?_eq_some_iff.1 hx).1
  have hEO := h.eff x (List.mem_of_getElem? hx)
  have HEV := Lib.hid hev
  have hat2 : w.cell? ⟨g.b, 5, none⟩ = some (.int .i64 (i : Int)) := hg 5
  have H := Lib.hid h
  have HB := Lib.hid hb
  have HE := Lib.hid hEO
  have HO := Lib.hid ho
  have hngb : g.b ≠ D.b := fun e => by
    have hn := h.nd
    simp only [DeskG.mut, List.nodup_cons, List.mem_append, List.mem_map, not_or] at hn
    exact hn.1.2 ⟨_, DeskG.mem_goings h0 h1 hb, e⟩
  have hneg : eg ≠ D.b := fun e => by
    have hn := h.nd
    simp only [DeskG.mut, List.nodup_cons, List.mem_append, not_or, hev, Value.ownBlock] at hn
    exact hn.1.1 (by simp [e])
  have e0 := hcell 0 (by omega)
  have e1 := hcell 1 (by omega)
  have e2 := hcell 2 (by omega)
  have e3 := hcell 3 (by omega)
  have e4 := hcell 4 (by omega)
  have e5 := hcell 5 (by omega)
  have e6 := hcell 6 (by omega)
  have e7 := hcell 7 (by omega)
  have e8 := hcell 8 (by omega)
  simp only [EffG.cells, List.getElem?_cons_zero, List.getElem?_cons_succ, Nat.add_zero] at e0 e1 e2 e3 e4 e5 e6 e7 e8
  have hf2 := done_f2
  have HI : Hid (∀ k ∈ x.c.dv.ownBlock.toList ++ x.ov.ownBlock.toList, k ∈ D.imm) := DeskG.mem_imm_eff (List.mem_of_getElem? hx)
  clear h hb hG hl hat hx ho hEO hcell hlv hev
  obtain rfl | rfl | rfl | rfl : c = 0 ∨ c = 1 ∨ c = 2 ∨ c = 3 := by omega
  · simp at hc
    go_enter Tryz.func19, Tryz.ntmps19
    go_wp2_with (go_at_call 33; refine (isClient_yes _ _ _ (by omega) (by omega)).mono ?_; rintro e w' ⟨rfl, rfl⟩)
    have u1 : Upd [D.b] w ((w.setCell ⟨D.b, 1, none⟩ (.pointer none)).alloc (.cells #[.int .i64 0, .int .i64 0, .slice none 0 0] 27)) := by (with_reducible (repeat (first | exact Upd.refl _ _ | refine Upd.alloc ?_ _ | refine Upd.drew ?_ | refine Upd.drewN ?_ _ | refine Upd.setCell ?_ (by first | (left; simp; done) | (right; simp; done) | (right; simp; omega)) _)))
    have b1 := Lib.hid ((heap_old (o := .cells #[.int .i64 0, .int .i64 0, .slice none 0 0] 27) (heap_setCell_at H.out.desk 1 (.pointer none))).trans (show _ = some (deskO { D with calls := updC D.calls 0 none }) by simp [deskO, updC, goP]))
    have t1 : Hid (((w.setCell ⟨D.b, 1, none⟩ (.pointer none)).alloc (.cells #[.int .i64 0, .int .i64 0, .slice none 0 0] 27)).heap[w.heap.size]? = some (.cells #[.int .i64 0, .int .i64 0, .slice none 0 0] 27 (0, 0))) := heap_new' (by simp)
    have EO := Lib.hid (HE.out.upd u1 (fun k hk e => H.out.apart k (HI.out k hk) (by simp at e; simp [DeskG.mut, e])))
    have d1 : ((w.setCell ⟨D.b, 1, none⟩ (.pointer none)).alloc (.cells #[.int .i64 0, .int .i64 0, .slice none 0 0] 27)).cell? ⟨D.b, 5, none⟩ = some (.slice (some ⟨eg, 0, none⟩) D.effs.length ec) := by rw [cell_of b1.out 5, ← HEV.out]; rfl
    have a1 := (u1.cell (p := ⟨g.b, 5, none⟩) hgs (by simpa using hngb)).trans hat2
    have c0 := (u1.cell (p := ⟨eg, i * 9, none⟩) hgl (by simpa using hneg)).trans e0
    have c1 := (u1.cell (p := ⟨eg, i * 9 + 1, none⟩) hgl (by simpa using hneg)).trans e1
    have c2 := (u1.cell (p := ⟨eg, i * 9 + 2, none⟩) hgl (by simpa using hneg)).trans e2
    have c3 := (u1.cell (p := ⟨eg, i * 9 + 3, none⟩) hgl (by simpa using hneg)).trans e3
    have c4 := (u1.cell (p := ⟨eg, i * 9 + 4, none⟩) hgl (by simpa using hneg)).trans e4
    have c5 := (u1.cell (p := ⟨eg, i * 9 + 5, none⟩) hgl (by simpa using hneg)).trans e5
    have c6 := (u1.cell (p := ⟨eg, i * 9 + 6, none⟩) hgl (by simpa using hneg)).trans e6
    have c7 := (u1.cell (p := ⟨eg, i * 9 + 7, none⟩) hgl (by simpa using hneg)).trans e7
    have c8 := (u1.cell (p := ⟨eg, i * 9 + 8, none⟩) hgl (by simpa using hneg)).trans e8
    have U1 := Lib.hid u1
    clear u1 e0 e1 e2 e3 e4 e5 e6 e7 e8 hat2 hd hg hf hc
    generalize ((w.setCell ⟨D.b, 1, none⟩ (.pointer none)).alloc (.cells #[.int .i64 0, .int .i64 0, .slice none 0 0] 27)) = w1 at *
    go_region_with (go_at_call 37; refine (told_any x _ (EO.out.upd (S := []) (by (with_reducible (repeat (first | exact Upd.refl _ _ | refine Upd.alloc ?_ _ | refine Upd.drew ?_ | refine Upd.drewN ?_ _ | refine Upd.setCell ?_ (by first | (left; simp; done) | (right; simp; done) | (right; simp; omega)) _)))) (fun _ _ => by simp)) HO.out).mono ?_; rintro e w2 ⟨dv', ov', rfl, hU2, o1, o2⟩; obtain ⟨da, dc, rfl⟩ := own_shape o1; obtain ⟨oa, oc, rfl⟩ := own_shape o2; have b2 := hU2.blk t1.out (by simp); have k2 := cell_of b2; have f2 := froz_of b2; have B2 := Lib.hid b2; clear b2; simp only [EffG.cells])
    all_goals
      go_wp2
      have q2 := cell_of (set3 B2.out (.int .i64 x.err) (.int .i64 x.n) (.slice oa x.out.length oc))
      refine bodyPost_ret (v := stepV x.err x.n (.slice oa x.out.length oc) true 0) (by simp [results, Tryz.results19, go_sem, stepV, ansV, q2]) rfl ⟨_, rfl, ?_, w1, U1.out, b1.out, ?_⟩
      · have l1 := lt_of_heap t1.out
        have z1 := U1.out.size
        refine own_upd (S := [w.heap.size]) o2 (by (with_reducible (repeat (first | exact Upd.refl _ _ | refine Upd.alloc ?_ _ | refine Upd.drew ?_ | refine Upd.drewN ?_ _ | refine Upd.setCell ?_ (by first | (left; simp; done) | (right; simp; done) | (right; simp; omega)) _)))) (fun k hk e => ?_) (by first | omega | (simp; omega))
        have := (o2.lt k hk).1
        simp at e this
        omega
      · exact Upd.trans (Upd.trans (by (with_reducible (repeat (first | exact Upd.refl _ _ | refine Upd.alloc ?_ _ | refine Upd.drew ?_ | refine Upd.drewN ?_ _ | refine Upd.setCell ?_ (by first | (left; simp; done) | (right; simp; done) | (right; simp; omega)) _)))) (hU2.mono (by simp))) (by (with_reducible (repeat (first | exact Upd.refl _ _ | refine Upd.alloc ?_ _ | refine Upd.drew ?_ | refine Upd.drewN ?_ _ | refine Upd.setCell ?_ (by first | (left; simp; done) | (right; simp; done) | (right; simp; omega)) _))))
  · simp at hc
    go_enter Tryz.func19, Tryz.ntmps19
    go_wp2_with (go_at_call 33; refine (isClient_yes _ _ _ (by omega) (by omega)).mono ?_; rintro e w' ⟨rfl, rfl⟩)
    have u1 : Upd [D.b] w ((w.setCell ⟨D.b, 2, none⟩ (.pointer none)).alloc (.cells #[.int .i64 0, .int .i64 0, .slice none 0 0] 27)) := by (with_reducible (repeat (first | exact Upd.refl _ _ | refine Upd.alloc ?_ _ | refine Upd.drew ?_ | refine Upd.drewN ?_ _ | refine Upd.setCell ?_ (by first | (left; simp; done) | (right; simp; done) | (right; simp; omega)) _)))
    have b1 := Lib.hid ((heap_old (o := .cells #[.int .i64 0, .int .i64 0, .slice none 0 0] 27) (heap_setCell_at H.out.desk 2 (.pointer none))).trans (show _ = some (deskO { D with calls := updC D.calls 1 none }) by simp [deskO, updC, goP]))
    have t1 : Hid (((w.setCell ⟨D.b, 2, none⟩ (.pointer none)).alloc (.cells #[.int .i64 0, .int .i64 0, .slice none 0 0] 27)).heap[w.heap.size]? = some (.cells #[.int .i64 0, .int .i64 0, .slice none 0 0] 27 (0, 0))) := heap_new' (by simp)
    have EO := Lib.hid (HE.out.upd u1 (fun k hk e => H.out.apart k (HI.out k hk) (by simp at e; simp [DeskG.mut, e])))
    have d1 : ((w.setCell ⟨D.b, 2, none⟩ (.pointer none)).alloc (.cells #[.int .i64 0, .int .i64 0, .slice none 0 0] 27)).cell? ⟨D.b, 5, none⟩ = some (.slice (some ⟨eg, 0, none⟩) D.effs.length ec) := by rw [cell_of b1.out 5, ← HEV.out]; rfl
    have a1 := (u1.cell (p := ⟨g.b, 5, none⟩) hgs (by simpa using hngb)).trans hat2
    have c0 := (u1.cell (p := ⟨eg, i * 9, none⟩) hgl (by simpa using hneg)).trans e0
    have c1 := (u1.cell (p := ⟨eg, i * 9 + 1, none⟩) hgl (by simpa using hneg)).trans e1
    have c2 := (u1.cell (p := ⟨eg, i * 9 + 2, none⟩) hgl (by simpa using hneg)).trans e2
    have c3 := (u1.cell (p := ⟨eg, i * 9 + 3, none⟩) hgl (by simpa using hneg)).trans e3
    have c4 := (u1.cell (p := ⟨eg, i * 9 + 4, none⟩) hgl (by simpa using hneg)).trans e4
    have c5 := (u1.cell (p := ⟨eg, i * 9 + 5, none⟩) hgl (by simpa using hneg)).trans e5
    have c6 := (u1.cell (p := ⟨eg, i * 9 + 6, none⟩) hgl (by simpa using hneg)).trans e6
    have c7 := (u1.cell (p := ⟨eg, i * 9 + 7, none⟩) hgl (by simpa using hneg)).trans e7
    have c8 := (u1.cell (p := ⟨eg, i * 9 + 8, none⟩) hgl (by simpa using hneg)).trans e8
    have U1 := Lib.hid u1
    clear u1 e0 e1 e2 e3 e4 e5 e6 e7 e8 hat2 hd hg hf hc
    generalize ((w.setCell ⟨D.b, 2, none⟩ (.pointer none)).alloc (.cells #[.int .i64 0, .int .i64 0, .slice none 0 0] 27)) = w1 at *
    go_region_with (go_at_call 37; refine (told_any x _ (EO.out.upd (S := []) (by (with_reducible (repeat (first | exact Upd.refl _ _ | refine Upd.alloc ?_ _ | refine Upd.drew ?_ | refine Upd.drewN ?_ _ | refine Upd.setCell ?_ (by first | (left; simp; done) | (right; simp; done) | (right; simp; omega)) _)))) (fun _ _ => by simp)) HO.out).mono ?_; rintro e w2 ⟨dv', ov', rfl, hU2, o1, o2⟩; obtain ⟨da, dc, rfl⟩ := own_shape o1; obtain ⟨oa, oc, rfl⟩ := own_shape o2; have b2 := hU2.blk t1.out (by simp); have k2 := cell_of b2; have f2 := froz_of b2; have B2 := Lib.hid b2; clear b2; simp only [EffG.cells])
    all_goals
      go_wp2
      have q2 := cell_of (set3 B2.out (.int .i64 x.err) (.int .i64 x.n) (.slice oa x.out.length oc))
      refine bodyPost_ret (v := stepV x.err x.n (.slice oa x.out.length oc) true 0) (by simp [results, Tryz.results19, go_sem, stepV, ansV, q2]) rfl ⟨_, rfl, ?_, w1, U1.out, b1.out, ?_⟩
      · have l1 := lt_of_heap t1.out
        have z1 := U1.out.size
        refine own_upd (S := [w.heap.size]) o2 (by (with_reducible (repeat (first | exact Upd.refl _ _ | refine Upd.alloc ?_ _ | refine Upd.drew ?_ | refine Upd.drewN ?_ _ | refine Upd.setCell ?_ (by first | (left; simp; done) | (right; simp; done) | (right; simp; omega)) _)))) (fun k hk e => ?_) (by first | omega | (simp; omega))
        have := (o2.lt k hk).1
        simp at e this
        omega
      · exact Upd.trans (Upd.trans (by (with_reducible (repeat (first | exact Upd.refl _ _ | refine Upd.alloc ?_ _ | refine Upd.drew ?_ | refine Upd.drewN ?_ _ | refine Upd.setCell ?_ (by first | (left; simp; done) | (right; simp; done) | (right; simp; omega)) _)))) (hU2.mono (by simp))) (by (with_reducible (repeat (first | exact Upd.refl _ _ | refine Upd.alloc ?_ _ | refine Upd.drew ?_ | refine Upd.drewN ?_ _ | refine Upd.setCell ?_ (by first | (left; simp; done) | (right; simp; done) | (right; simp; omega)) _))))
  · simp at hc
    go_enter Tryz.func19, Tryz.ntmps19
    go_wp2_with (go_at_call 33; refine (isClient_yes _ _ _ (by omega) (by omega)).mono ?_; rintro e w' ⟨rfl, rfl⟩)
    have u1 : Upd [D.b] w ((w.setCell ⟨D.b, 3, none⟩ (.pointer none)).alloc (.cells #[.int .i64 0, .int .i64 0, .slice none 0 0] 27)) := by (with_reducible (repeat (first | exact Upd.refl _ _ | refine Upd.alloc ?_ _ | refine Upd.drew ?_ | refine Upd.drewN ?_ _ | refine Upd.setCell ?_ (by first | (left; simp; done) | (right; simp; done) | (right; simp; omega)) _)))
    have b1 := Lib.hid ((heap_old (o := .cells #[.int .i64 0, .int .i64 0, .slice none 0 0] 27) (heap_setCell_at H.out.desk 3 (.pointer none))).trans (show _ = some (deskO { D with calls := updC D.calls 2 none }) by simp [deskO, updC, goP]))
    have t1 : Hid (((w.setCell ⟨D.b, 3, none⟩ (.pointer none)).alloc (.cells #[.int .i64 0, .int .i64 0, .slice none 0 0] 27)).heap[w.heap.size]? = some (.cells #[.int .i64 0, .int .i64 0, .slice none 0 0] 27 (0, 0))) := heap_new' (by simp)
    have EO := Lib.hid (HE.out.upd u1 (fun k hk e => H.out.apart k (HI.out k hk) (by simp at e; simp [DeskG.mut, e])))
    have d1 : ((w.setCell ⟨D.b, 3, none⟩ (.pointer none)).alloc (.cells #[.int .i64 0, .int .i64 0, .slice none 0 0] 27)).cell? ⟨D.b, 5, none⟩ = some (.slice (some ⟨eg, 0, none⟩) D.effs.length ec) := by rw [cell_of b1.out 5, ← HEV.out]; rfl
    have a1 := (u1.cell (p := ⟨g.b, 5, none⟩) hgs (by simpa using hngb)).trans hat2
    have c0 := (u1.cell (p := ⟨eg, i * 9, none⟩) hgl (by simpa using hneg)).trans e0
    have c1 := (u1.cell (p := ⟨eg, i * 9 + 1, none⟩) hgl (by simpa using hneg)).trans e1
    have c2 := (u1.cell (p := ⟨eg, i * 9 + 2, none⟩) hgl (by simpa using hneg)).trans e2
    have c3 := (u1.cell (p := ⟨eg, i * 9 + 3, none⟩) hgl (by simpa using hneg)).trans e3
    have c4 := (u1.cell (p := ⟨eg, i * 9 + 4, none⟩) hgl (by simpa using hneg)).trans e4
    have c5 := (u1.cell (p := ⟨eg, i * 9 + 5, none⟩) hgl (by simpa using hneg)).trans e5
    have c6 := (u1.cell (p := ⟨eg, i * 9 + 6, none⟩) hgl (by simpa using hneg)).trans e6
    have c7 := (u1.cell (p := ⟨eg, i * 9 + 7, none⟩) hgl (by simpa using hneg)).trans e7
    have c8 := (u1.cell (p := ⟨eg, i * 9 + 8, none⟩) hgl (by simpa using hneg)).trans e8
    have U1 := Lib.hid u1
    clear u1 e0 e1 e2 e3 e4 e5 e6 e7 e8 hat2 hd hg hf hc
    generalize ((w.setCell ⟨D.b, 3, none⟩ (.pointer none)).alloc (.cells #[.int .i64 0, .int .i64 0, .slice none 0 0] 27)) = w1 at *
    go_region_with (go_at_call 37; refine (told_any x _ (EO.out.upd (S := []) (by (with_reducible (repeat (first | exact Upd.refl _ _ | refine Upd.alloc ?_ _ | refine Upd.drew ?_ | refine Upd.drewN ?_ _ | refine Upd.setCell ?_ (by first | (left; simp; done) | (right; simp; done) | (right; simp; omega)) _)))) (fun _ _ => by simp)) HO.out).mono ?_; rintro e w2 ⟨dv', ov', rfl, hU2, o1, o2⟩; obtain ⟨da, dc, rfl⟩ := own_shape o1; obtain ⟨oa, oc, rfl⟩ := own_shape o2; have b2 := hU2.blk t1.out (by simp); have k2 := cell_of b2; have f2 := froz_of b2; have B2 := Lib.hid b2; clear b2; simp only [EffG.cells])
    all_goals
      go_wp2
      have q2 := cell_of (set3 B2.out (.int .i64 x.err) (.int .i64 x.n) (.slice oa x.out.length oc))
      refine bodyPost_ret (v := stepV x.err x.n (.slice oa x.out.length oc) true 0) (by simp [results, Tryz.results19, go_sem, stepV, ansV, q2]) rfl ⟨_, rfl, ?_, w1, U1.out, b1.out, ?_⟩
      · have l1 := lt_of_heap t1.out
        have z1 := U1.out.size
        refine own_upd (S := [w.heap.size]) o2 (by (with_reducible (repeat (first | exact Upd.refl _ _ | refine Upd.alloc ?_ _ | refine Upd.drew ?_ | refine Upd.drewN ?_ _ | refine Upd.setCell ?_ (by first | (left; simp; done) | (right; simp; done) | (right; simp; omega)) _)))) (fun k hk e => ?_) (by first | omega | (simp; omega))
        have := (o2.lt k hk).1
        simp at e this
        omega
      · exact Upd.trans (Upd.trans (by (with_reducible (repeat (first | exact Upd.refl _ _ | refine Upd.alloc ?_ _ | refine Upd.drew ?_ | refine Upd.drewN ?_ _ | refine Upd.setCell ?_ (by first | (left; simp; done) | (right; simp; done) | (right; simp; omega)) _)))) (hU2.mono (by simp))) (by (with_reducible (repeat (first | exact Upd.refl _ _ | refine Upd.alloc ?_ _ | refine Upd.drew ?_ | refine Upd.drewN ?_ _ | refine Upd.setCell ?_ (by first | (left; simp; done) | (right; simp; done) | (right; simp; omega)) _))))
  · simp at hc
    go_enter Tryz.func19, Tryz.ntmps19
    go_wp2_with (go_at_call 33; refine (isClient_yes _ _ _ (by omega) (by omega)).mono ?_; rintro e w' ⟨rfl, rfl⟩)
    have u1 : Upd [D.b] w ((w.setCell ⟨D.b, 4, none⟩ (.pointer none)).alloc (.cells #[.int .i64 0, .int .i64 0, .slice none 0 0] 27)) := by (with_reducible (repeat (first | exact Upd.refl _ _ | refine Upd.alloc ?_ _ | refine Upd.drew ?_ | refine Upd.drewN ?_ _ | refine Upd.setCell ?_ (by first | (left; simp; done) | (right; simp; done) | (right; simp; omega)) _)))
    have b1 := Lib.hid ((heap_old (o := .cells #[.int .i64 0, .int .i64 0, .slice none 0 0] 27) (heap_setCell_at H.out.desk 4 (.pointer none))).trans (show _ = some (deskO { D with calls := updC D.calls 3 none }) by simp [deskO, updC, goP]))
    have t1 : Hid (((w.setCell ⟨D.b, 4, none⟩ (.pointer none)).alloc (.cells #[.int .i64 0, .int .i64 0, .slice none 0 0] 27)).heap[w.heap.size]? = some (.cells #[.int .i64 0, .int .i64 0, .slice none 0 0] 27 (0, 0))) := heap_new' (by simp)
    have EO := Lib.hid (HE.out.upd u1 (fun k hk e => H.out.apart k (HI.out k hk) (by simp at e; simp [DeskG.mut, e])))
    have d1 : ((w.setCell ⟨D.b, 4, none⟩ (.pointer none)).alloc (.cells #[.int .i64 0, .int .i64 0, .slice none 0 0] 27)).cell? ⟨D.b, 5, none⟩ = some (.slice (some ⟨eg, 0, none⟩) D.effs.length ec) := by rw [cell_of b1.out 5, ← HEV.out]; rfl
    have a1 := (u1.cell (p := ⟨g.b, 5, none⟩) hgs (by simpa using hngb)).trans hat2
    have c0 := (u1.cell (p := ⟨eg, i * 9, none⟩) hgl (by simpa using hneg)).trans e0
    have c1 := (u1.cell (p := ⟨eg, i * 9 + 1, none⟩) hgl (by simpa using hneg)).trans e1
    have c2 := (u1.cell (p := ⟨eg, i * 9 + 2, none⟩) hgl (by simpa using hneg)).trans e2
    have c3 := (u1.cell (p := ⟨eg, i * 9 + 3, none⟩) hgl (by simpa using hneg)).trans e3
    have c4 := (u1.cell (p := ⟨eg, i * 9 + 4, none⟩) hgl (by simpa using hneg)).trans e4
    have c5 := (u1.cell (p := ⟨eg, i * 9 + 5, none⟩) hgl (by simpa using hneg)).trans e5
    have c6 := (u1.cell (p := ⟨eg, i * 9 + 6, none⟩) hgl (by simpa using hneg)).trans e6
    have c7 := (u1.cell (p := ⟨eg, i * 9 + 7, none⟩) hgl (by simpa using hneg)).trans e7
    have c8 := (u1.cell (p := ⟨eg, i * 9 + 8, none⟩) hgl (by simpa using hneg)).trans e8
    have U1 := Lib.hid u1
    clear u1 e0 e1 e2 e3 e4 e5 e6 e7 e8 hat2 hd hg hf hc
    generalize ((w.setCell ⟨D.b, 4, none⟩ (.pointer none)).alloc (.cells #[.int .i64 0, .int .i64 0, .slice none 0 0] 27)) = w1 at *
    go_region_with (go_at_call 37; refine (told_any x _ (EO.out.upd (S := []) (by (with_reducible (repeat (first | exact Upd.refl _ _ | refine Upd.alloc ?_ _ | refine Upd.drew ?_ | refine Upd.drewN ?_ _ | refine Upd.setCell ?_ (by first | (left; simp; done) | (right; simp; done) | (right; simp; omega)) _)))) (fun _ _ => by simp)) HO.out).mono ?_; rintro e w2 ⟨dv', ov', rfl, hU2, o1, o2⟩; obtain ⟨da, dc, rfl⟩ := own_shape o1; obtain ⟨oa, oc, rfl⟩ := own_shape o2; have b2 := hU2.blk t1.out (by simp); have k2 := cell_of b2; have f2 := froz_of b2; have B2 := Lib.hid b2; clear b2; simp only [EffG.cells])
    all_goals
      go_wp2
      have q2 := cell_of (set3 B2.out (.int .i64 x.err) (.int .i64 x.n) (.slice oa x.out.length oc))
      refine bodyPost_ret (v := stepV x.err x.n (.slice oa x.out.length oc) true 0) (by simp [results, Tryz.results19, go_sem, stepV, ansV, q2]) rfl ⟨_, rfl, ?_, w1, U1.out, b1.out, ?_⟩
      · have l1 := lt_of_heap t1.out
        have z1 := U1.out.size
        refine own_upd (S := [w.heap.size]) o2 (by (with_reducible (repeat (first | exact Upd.refl _ _ | refine Upd.alloc ?_ _ | refine Upd.drew ?_ | refine Upd.drewN ?_ _ | refine Upd.setCell ?_ (by first | (left; simp; done) | (right; simp; done) | (right; simp; omega)) _)))) (fun k hk e => ?_) (by first | omega | (simp; omega))
        have := (o2.lt k hk).1
        simp at e this
        omega
      · exact Upd.trans (Upd.trans (by (with_reducible (repeat (first | exact Upd.refl _ _ | refine Upd.alloc ?_ _ | refine Upd.drew ?_ | refine Upd.drewN ?_ _ | refine Upd.setCell ?_ (by first | (left; simp; done) | (right; simp; done) | (right; simp; omega)) _)))) (hU2.mono (by simp))) (by (with_reducible (repeat (first | exact Upd.refl _ _ | refine Upd.alloc ?_ _ | refine Upd.drew ?_ | refine Upd.drewN ?_ _ | refine Upd.setCell ?_ (by first | (left; simp; done) | (right; simp; done) | (right; simp; omega)) _))))

/-- What a Desk is behind a call's last step. -/
theorem ended_ok {D : DeskG} {c : Int} {g : GoingG} {w w' : World} (h : IsDesk w D) (h0 : 0 ≤ c) (h1 : c < 4) (hb : D.calls c = some g) (hU : Upd [D.b] w w') (hdesk : w'.heap[D.b]? = some (deskO { D with calls := updC D.calls c none })) :
    IsDesk w' { D with calls := updC D.calls c none } := by
  have hsub : ∀ x ∈ ({ D with calls := updC D.calls c none } : DeskG).goings, x ∈ D.goings := by
    intro x hx
    simp only [DeskG.goings, List.mem_filterMap, id, updC] at hx ⊢
    obtain ⟨o, ho, hx⟩ := hx
    subst hx
    simp only [List.mem_cons, List.not_mem_nil, or_false] at ho
    refine ⟨some x, ?_, rfl⟩
    simp only [List.mem_cons, List.not_mem_nil, or_false]
    rcases ho with ho | ho | ho | ho <;> (split at ho <;> simp_all)
  have hnd := h.nd
  have hb1 : ∀ k, k ∈ D.ev.ownBlock.toList ++ D.goings.map (·.b) → k ≠ D.b := fun k hk e => by
    simp only [DeskG.mut, List.nodup_cons] at hnd
    exact hnd.1 (e ▸ hk)
  have himm : ∀ k ∈ D.imm, k ∉ [D.b] := fun k hk e => h.apart k hk (by simp at e; simp [DeskG.mut, e])
  refine ⟨hdesk, fun x hx => (h.going x (hsub x hx)).upd hU (by simpa using hb1 x.b (by simp only [List.mem_append, List.mem_map]; exact .inr ⟨x, hsub x hx, rfl⟩)) (fun k hk => himm k (DeskG.mem_imm_going (hsub x hx) k hk)),
    own_upd h.effs hU (fun k hk => by simpa using hb1 k (by simp only [List.mem_append]; exact .inl (by simpa using hk))) (Nat.le_refl _), fun e he => (h.eff e he).upd hU (fun k hk => himm k (DeskG.mem_imm_eff (D := D) he k hk)), ?_, ?_⟩
  · have hs : (({ D with calls := updC D.calls c none } : DeskG).goings).Sublist D.goings := by
      obtain rfl | rfl | rfl | rfl : c = 0 ∨ c = 1 ∨ c = 2 ∨ c = 3 := by omega
      all_goals
        simp only [DeskG.goings, updC]
        cases D.calls 0 <;> cases D.calls 1 <;> cases D.calls 2 <;> cases D.calls 3 <;> simp
    refine hnd.sublist ?_
    simp only [DeskG.mut]
    exact List.Sublist.cons_cons _ (List.Sublist.append (List.Sublist.refl _) (hs.map _))
  · intro k hk hm
    refine h.apart k ?_ ?_
    · simp only [DeskG.imm, List.mem_append, List.mem_flatMap] at hk ⊢
      rcases hk with ⟨x, hx, hk⟩ | hk
      · exact .inl ⟨x, hsub x hx, hk⟩
      · exact .inr hk
    · simp only [DeskG.mut, List.mem_cons, List.mem_append, List.mem_map] at hm ⊢
      rcases hm with hm | hm | ⟨x, hx, hm⟩
      · exact .inl hm
      · exact .inr (.inl hm)
      · exact .inr (.inr ⟨x, hsub x hx, hm⟩)
end Go.Proofs.YtmcnjikafppccaaGreat
