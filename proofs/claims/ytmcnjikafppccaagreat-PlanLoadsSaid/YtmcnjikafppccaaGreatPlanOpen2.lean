/- plan.open with a dictionary. -/
import Derived.Test.YtmcnjikafppccaaGreatPlanEnds
namespace Go.Proofs.YtmcnjikafppccaaGreat
open Go.RowKit

/-- The Plan where a dictionary is held once more. -/
def PlanG.pinned (G : PlanG) (id : Int) : PlanG := { G with sh := G.sh.set id incr }
theorem pinned_blocks (G : PlanG) (id : Int) : (G.pinned id).blocks = G.blocks := by
  simp only [PlanG.blocks, PlanG.pinned, set_blocks _ _ _ soft_incr]

set_option maxRecDepth 100000 in
set_option maxHeartbeats 2000000 in
theorem open_dict (G : PlanG) (c kind : Int) (name : ByteArray) (id : Int) (bk : Book) (level handle : Int) (dv : Value) (w : World) (h : IsPlan w G) (ok : PlOk G) (hd : ∃ a n c, dv = .slice a n c) (hl : 1 ≤ level ∧ level ≤ 3) (hn0 : 1 ≤ name.size) (hn1 : name.size ≤ 12) (hid : idAt G.sh name = id) (h0 : id ≠ 0) (hi1 : 0 ≤ id) (hi2 : id ≤ 1000000) (hbk : bookAt G.sh id = some bk) (hpin : bk.pins ≤ 1000000)
    (hdl : bk.dict.length ≤ 2000) (hc0 : 0 ≤ c) (hc1 : c < 4)
    (hq1 : 2500 ≤ G.each - G.u c) (hq2 : 2500 ≤ G.all - sumU G.u) (hnew : getI (G.last + 1) G.sess = none) (hlast : 0 ≤ G.last ∧ G.last ≤ 1000000) :
    Calls Tryz.prog 27 #[.pointer (some ⟨G.b, 0, none⟩), .int .i64 c, callV kind name level handle dv] w fun e w' => ∃ sb cb v', e = .returned (ansV 0 (G.last + 1) (.slice none 0 0)) ∧ Upd G.blocks w w' ∧
      IsPlan w' ((G.pinned id).opened c sb id) ∧ w.heap.size ≤ sb ∧ w.heap.size ≤ cb ∧ w'.heap[sb]? = some (streamO id (depthOf level) v' (.slice none 0 0) (.slice none 0 0) 1 4 8 false false cb) ∧ w'.heap[cb]? = some (.chan 1 #[] false 0 0 false) ∧ w'.ownsRow w.heap.size 5 1 v' bk.dict.length (bk.dict.map B) := by
  obtain ⟨a, n, cp, rfl⟩ := hd
  obtain ⟨l1, l2⟩ := hl
  obtain ⟨e0, e1⟩ := hlast
  have hne : name.toList ≠ [] := by
    rw [ByteArray.toList_eq]
    intro e
    have h2 : name.data.size = 0 := by rw [← Array.length_toList, e]; rfl
    have h3 : name.size = 0 := h2
    omega
  have hie : name.toList.isEmpty = false := by simpa using hne
  have H := Lib.hid h
  have HN := Lib.hid hnew
  have OK := Lib.hid ok
  have HID := Lib.hid hid
  have HBK := Lib.hid hbk
  have HDL := Lib.hid hdl
  have hc := cell_of h.plan
  have hs : G.b < w.heap.size := lt_of_heap h.plan
  have HP := Lib.hid (PlanG.nd_parts h.nd)
  have hlt := h.lt
  clear h hnew ok hid hbk hdl
  unfold callV
  go_enter Tryz.func27, Tryz.ntmps27
  go_wp2_with fail
  have U0 : Upd [] w ((w.alloc (.cells #[.int .i64 kind, .string name, .int .i64 level, .int .i64 handle, .slice a n cp] 30)).alloc (.cells #[.int .i64 0, .int .i64 0, .slice none 0 0] 27)) := by (with_reducible (repeat (first | exact Upd.refl _ _ | refine Upd.alloc ?_ _ | refine Upd.drew ?_ | refine Upd.drewN ?_ _ | refine Upd.setCell ?_ (by first | (left; simp; done) | (right; simp; done) | (right; simp; omega)) _)))
  have B5 : Hid (((w.alloc (.cells #[.int .i64 kind, .string name, .int .i64 level, .int .i64 handle, .slice a n cp] 30)).alloc (.cells #[.int .i64 0, .int .i64 0, .slice none 0 0] 27)).heap[w.heap.size]? = some (.cells #[.int .i64 kind, .string name, .int .i64 level, .int .i64 handle, .slice a n cp] 30 (0, 0))) := heap_old (heap_new w _)
  have B6 : Hid (((w.alloc (.cells #[.int .i64 kind, .string name, .int .i64 level, .int .i64 handle, .slice a n cp] 30)).alloc (.cells #[.int .i64 0, .int .i64 0, .slice none 0 0] 27)).heap[w.heap.size + 1]? = some (.cells #[.int .i64 0, .int .i64 0, .slice none 0 0] 27 (0, 0))) := heap_new' (by simp)
  generalize (w.alloc (.cells #[.int .i64 kind, .string name, .int .i64 level, .int .i64 handle, .slice a n cp] 30)).alloc (.cells #[.int .i64 0, .int .i64 0, .slice none 0 0] 27) = w0 at *
  have P0 := Lib.hid (H.out.upd U0 (by simp))
  have HU0 := Lib.hid U0
  have c0 := cell_of P0.out.plan
  have c5 := cell_of B5.out
  clear hc U0
  obtain ⟨st, hm⟩ := bookAt_mem HBK.out
  have hbb : bk.b ∈ G.sh.blocks := (book_in (G := G.sh) hm).1
  have a4' : G.b ∉ [bk.b] := by rw [List.mem_singleton]; intro e; exact HP.out.1.2.2.2 (e ▸ hbb)
  have n5 : w.heap.size ∉ [bk.b] := by rw [List.mem_singleton]; intro e; have := hlt bk.b (by simp only [PlanG.blocks, List.mem_cons]; exact .inr (.inr (.inr (.inr hbb)))); omega
  have n6 : w.heap.size + 1 ∉ [bk.b] := by rw [List.mem_singleton]; intro e; have := hlt bk.b (by simp only [PlanG.blocks, List.mem_cons]; exact .inr (.inr (.inr (.inr hbb)))); omega
  have s0 := lt_of_heap P0.out.plan
  have s5 := lt_of_heap B5.out
  have P1 := Lib.hid (P0.out.upd (S := []) (w' := w0.drew) (by (with_reducible (repeat (first | exact Upd.refl _ _ | refine Upd.alloc ?_ _ | refine Upd.drew ?_ | refine Upd.drewN ?_ _ | refine Upd.setCell ?_ (by first | (left; simp; done) | (right; simp; done) | (right; simp; omega)) _)))) (by simp))
  have HM := Lib.hid hm
  clear hm
  go_region_held3 (fun w' => w'.cell? ⟨G.b, 1, none⟩ = some (.pointer (some ⟨G.sh.b, 0, none⟩)) ∧ w'.cell? ⟨w.heap.size, 1, none⟩ = some (.string name)) (first | (refine ⟨(U1.cell (by first | exact s0 | (simp; omega)) a4').trans ?_, (U1.cell (by first | exact s5 | (simp; omega)) n5).trans ?_⟩ <;> (simp [*]; done)) | go_keep) (first | (go_at_call 40; refine (pin_ok G.sh name id bk _ P1.out.shelf OK.out.sh HP.out.2.2.2.2 HID.out h0 HBK.out hpin).mono ?_; rintro e w1 ⟨v1, rfl, o1, S1, U1⟩; obtain ⟨va, vc, rfl⟩ := own_shape o1))
  have P2 := Lib.hid (P1.out.setShelf (U1.mono (by intro x hx; simp at hx; subst hx; exact hbb)) S1 rfl (fun k hk => .inl (by rw [set_blocks _ _ _ soft_incr] at hk; exact hk)) (by rw [set_blocks _ _ _ soft_incr]; exact HP.out.2.2.2.2))
  have B51 := Lib.hid (U1.blk (show w0.drew.heap[w.heap.size]? = _ from B5.out) n5)
  have B61 := Lib.hid (U1.blk (show w0.drew.heap[w.heap.size + 1]? = _ from B6.out) n6)
  have z0 := HU0.out.size
  have z1 : w0.heap.size ≤ w1.heap.size := U1.size
  have HUT := Lib.hid ((HU0.out.mono (S' := G.blocks) (by simp)).trans (Upd.trans (by (with_reducible (repeat (first | exact Upd.refl _ _ | refine Upd.alloc ?_ _ | refine Upd.drew ?_ | refine Upd.drewN ?_ _ | refine Upd.setCell ?_ (by first | (left; simp; done) | (right; simp; done) | (right; simp; omega)) _)))) (U1.mono (S' := G.blocks) (by intro x hx; simp at hx; subst hx; simp [PlanG.blocks, hbb]))))
  have o1' : w1.ownsRow w.heap.size 5 1 (.slice va bk.dict.length vc) bk.dict.length (bk.dict.map B) := own_upd o1 (Upd.refl [] _) (by simp) (by have : w0.drew.heap.size = w0.heap.size := rfl; omega)
  have O1 := Lib.hid o1'
  have HGB : Hid ((G.pinned id).blocks = G.blocks) := pinned_blocks G id
  clear U1 S1 c0 c5 o1 o1'
  have hcp : ∀ o, w1.cell? ⟨G.b, o, none⟩ = #[.pointer (some ⟨G.pb, 0, none⟩), .pointer (some ⟨G.sh.b, 0, none⟩), .map (some G.se), .map (some G.lo), .int .i64 G.last][o]? := cell_of P2.out.plan
  go_wp2_with fail
  refine (take_yes _ _ _ _ _ _ _ P2.out.purse P2.out.ok hc0 hc1 (by omega) (by omega) hq1 hq2).mono ?_
  rintro e w2 ⟨rfl, U2, hp2⟩
  have P3 := Lib.hid (P2.out.setU U2 hp2 (P2.out.ok.add (by omega) hq1))
  have lpb : G.pb < w.heap.size := hlt _ (by simp [PlanG.blocks])
  have z2 := U2.size
  have B52 := Lib.hid (U2.blk B51.out (by rw [List.mem_singleton]; show w.heap.size ≠ G.pb; omega))
  have B62 := Lib.hid (U2.blk B61.out (by rw [List.mem_singleton]; show w.heap.size + 1 ≠ G.pb; omega))
  have nO : ∀ k, (Value.slice va bk.dict.length vc).ownBlock = some k → w.heap.size ≤ k ∧ k < w1.heap.size := fun k hk => O1.out.lt k hk
  have O2 := Lib.hid (own_upd O1.out U2 (fun k hk e => by have := (nO k hk).1; rw [List.mem_singleton] at e; have : k = G.pb := e; omega) (Nat.le_refl _))
  have HU2 := Lib.hid (HUT.out.trans (U2.mono (S' := G.blocks) (by intro x hx; rw [List.mem_singleton] at hx; subst hx; show G.pb ∈ G.blocks; simp [PlanG.blocks])))
  clear U2 hp2 hcp
  have hc' : ∀ o, w2.cell? ⟨G.b, o, none⟩ = #[.pointer (some ⟨G.pb, 0, none⟩), .pointer (some ⟨G.sh.b, 0, none⟩), .map (some G.se), .map (some G.lo), .int .i64 G.last][o]? := cell_of P3.out.plan
  have hf' : ∀ o, w2.frozen? ⟨G.b, o, none⟩ = false := froz_of P3.out.plan
  have k5 := cell_of B52.out
  go_wp2_with fail
  have U3 : Upd [G.b] w2 (w2.setCell ⟨G.b, 4, none⟩ (.int .i64 (G.last + 1))) := (Upd.refl _ _).setCell (Or.inl (by simp)) _
  have P4 := Lib.hid (P3.out.setLast (n := G.last + 1) U3 ((heap_setCell_at P3.out.plan 4 _).trans (by simp [planO, PlanG.pinned])))
  have ne5 : w.heap.size ∉ [G.b] := by rw [List.mem_singleton]; omega
  have ne6 : w.heap.size + 1 ∉ [G.b] := by rw [List.mem_singleton]; omega
  have B53 := Lib.hid (U3.blk B52.out ne5)
  have B63 := Lib.hid (U3.blk B62.out ne6)
  have O3 := Lib.hid (own_upd O2.out U3 (fun k hk e => by have := (nO k hk).1; rw [List.mem_singleton] at e; omega) (Nat.le_refl _))
  have HU3 := Lib.hid (HU2.out.trans (U3.mono (S' := G.blocks) (by intro x hx; rw [List.mem_singleton] at hx; subst hx; simp [PlanG.blocks])))
  have z3 : w2.heap.size ≤ (w2.setCell ⟨G.b, 4, none⟩ (.int .i64 (G.last + 1))).heap.size := U3.size
  clear hc' hf' k5 U3
  generalize w2.setCell ⟨G.b, 4, none⟩ (.int .i64 (G.last + 1)) = w3 at *
  have hc2 : ∀ o, w3.cell? ⟨G.b, o, none⟩ = #[.pointer (some ⟨G.pb, 0, none⟩), .pointer (some ⟨G.sh.b, 0, none⟩), .map (some G.se), .map (some G.lo), .int .i64 (G.last + 1)][o]? := cell_of P4.out.plan
  have K5 := cell_of B53.out
  have nbse : G.b ≠ G.se := HP.out.1.2.1
  have hse : G.se < w.heap.size := hlt _ (by simp [PlanG.blocks])
  go_region_held3 (fun w' => w'.cell? ⟨G.b, 2, none⟩ = some (.map (some G.se)) ∧ w'.cell? ⟨G.b, 4, none⟩ = some (.int .i64 (G.last + 1)) ∧ w'.cell? ⟨w.heap.size, 2, none⟩ = some (.int .i64 level)) (first | (refine ⟨(hU3.cell (by first | omega | (simp; omega)) (by simp)).trans ?_, (hU3.cell (by first | omega | (simp; omega)) (by simp)).trans ?_, (hU3.cell (by first | omega | (simp; omega)) (by simp)).trans ?_⟩ <;> (simp [*]; done)) | (refine ⟨(cell_putB nbse).trans ?_, (cell_putB nbse).trans ?_, (cell_putB (by simp only; omega)).trans ?_⟩ <;> (simp [*]; done)) | go_keep) (first | (go_at_call 43; refine (snew_any (.slice va bk.dict.length vc) bk.dict id level _ (Rd.upd (S := []) (Rd.of_own O3.out).1 (by (with_reducible (repeat (first | exact Upd.refl _ _ | refine Upd.alloc ?_ _ | refine Upd.drew ?_ | refine Upd.drewN ?_ _ | refine Upd.setCell ?_ (by first | (left; simp; done) | (right; simp; done) | (right; simp; omega)) _)))) (by simp)) HDL.out ⟨va, vc, rfl⟩ l1 l2 hi1 (by omega)).mono ?_; rintro e w4 ⟨sb, cb, v', rfl, hU3, g1, g2, s1, s2, o4⟩; have hup := put_sess c sb id (hU3.blk P4.out.sess (by simp)) HN.out))
  have hU4 : Upd [] w3 w4 := (Upd.refl _ _).drew.trans hU3
  have h3 := P4.out.upd hU4 (fun _ _ => by simp)
  have hU5 : Upd [G.se] w4 (putB w4 G.se (sessO (G.sess ++ [(G.last + 1, (⟨c, sb, id⟩ : SessG), G.c3)]) (G.c3 + 1))) := (Upd.refl [G.se] w4).putB (Or.inl (by simp)) _
  have h4 := h3.setSess (s := G.sess ++ [(G.last + 1, (⟨c, sb, id⟩ : SessG), G.c3)]) (c := G.c3 + 1) hU5 (heap_putB h3.sess)
  have B8 := Lib.hid (hU5.blk (hU4.blk B63.out (by simp)) (by simp; omega))
  have q6 := cell_of B8.out
  have qf := froz_of B8.out
  have ed : w3.drew.heap.size = w3.heap.size := rfl
  have nsb : sb ≠ G.se := by omega
  have ncb : cb ≠ G.se := by omega
  have s1' := hU5.blk s1 (by rw [List.mem_singleton]; exact nsb)
  have s2' := hU5.blk s2 (by rw [List.mem_singleton]; exact ncb)
  have HU6 := Lib.hid ((HU3.out.trans (hU4.mono (S' := G.blocks) (by simp))).trans (hU5.mono (S' := G.blocks) (by intro x hx; rw [List.mem_singleton] at hx; subst hx; simp [PlanG.blocks])))
  have z4 : w.heap.size + 1 + 1 ≤ (putB w4 G.se (sessO (G.sess ++ [(G.last + 1, (⟨c, sb, id⟩ : SessG), G.c3)]) (G.c3 + 1))).heap.size := by
    have h1 := lt_of_heap B61.out
    have h2 := hU4.size
    simp only [size_putB]
    omega
  have z5 : w.heap.size + 1 + 1 ≤ w3.heap.size := by have h1 := lt_of_heap B61.out; omega
  have o2 := own_upd (base' := w.heap.size) (own_upd o4 hU5 (fun k hk => by have := (o4.lt k hk).1; rw [List.mem_singleton]; omega) (Nat.le_refl _)) (Upd.refl [] _) (by simp) (by omega)
  have HV : Hid (∀ k, v'.ownBlock = some k → w3.heap.size ≤ k) := fun k hk => (o4.lt k hk).1
  clear hup h3 hU5 hU4 hU3 s1 s2 hc2 K5 o4
  have hc4 : ∀ o, (putB w4 G.se (sessO (G.sess ++ [(G.last + 1, (⟨c, sb, id⟩ : SessG), G.c3)]) (G.c3 + 1))).cell? ⟨G.b, o, none⟩ = #[.pointer (some ⟨G.pb, 0, none⟩), .pointer (some ⟨G.sh.b, 0, none⟩), .map (some G.se), .map (some G.lo), .int .i64 (G.last + 1)][o]? := cell_of h4.plan
  have H4 : Hid (IsPlan (putB w4 G.se (sessO (G.sess ++ [(G.last + 1, (⟨c, sb, id⟩ : SessG), G.c3)]) (G.c3 + 1))) ((G.pinned id).opened c sb id)) := h4
  clear h4
  generalize putB w4 G.se (sessO (G.sess ++ [(G.last + 1, (⟨c, sb, id⟩ : SessG), G.c3)]) (G.c3 + 1)) = w5 at *
  have S1 := Lib.hid s1'
  have S2 := Lib.hid s2'
  have O2 := Lib.hid o2
  clear s1' s2' o2
  go_wp2
  have hU7 : Upd [w.heap.size + 1] w5 (((w5.setCell ⟨w.heap.size + 1, 0, none⟩ (.int .i64 0)).setCell ⟨w.heap.size + 1, 1, none⟩ (.int .i64 (G.last + 1))).setCell ⟨w.heap.size + 1, 2, none⟩ (.slice none 0 0)) := by (with_reducible (repeat (first | exact Upd.refl _ _ | refine Upd.alloc ?_ _ | refine Upd.drew ?_ | refine Upd.drewN ?_ _ | refine Upd.setCell ?_ (by first | (left; simp; done) | (right; simp; done) | (right; simp; omega)) _)))
  have qq := cell_of (heap_setCell_at (heap_setCell_at (heap_setCell_at B8.out 0 (.int .i64 0)) 1 (.int .i64 (G.last + 1))) 2 (.slice none 0 0))
  simp only [List.setIfInBounds_toArray, List.set_cons_zero, List.set_cons_succ] at qq
  refine bodyPost_ret (v := ansV 0 (G.last + 1) (.slice none 0 0)) (by simp [results, Tryz.results27, go_sem, ansV, qq]) rfl ⟨sb, cb, v', rfl, ?_, ?_, by omega, by omega, hU7.blk S1.out (by rw [List.mem_singleton]; omega), hU7.blk S2.out (by rw [List.mem_singleton]; omega), own_upd O2.out hU7 ?_ (Nat.le_refl _)⟩
  · refine Upd.drop (S := (w.heap.size + 1) :: G.blocks) ((HU6.out.mono (by intro k hk; simp [hk])).trans (hU7.mono (by simp))) ?_
    intro k hk
    rcases List.mem_cons.1 hk with rfl | hk
    · exact .inr (by omega)
    · exact .inl hk
  · refine H4.out.upd hU7 (fun k hk e => ?_)
    have hk' : k ∈ G.blocks := by
      have : ((G.pinned id).opened c sb id).blocks = (G.pinned id).blocks := rfl
      rw [this, HGB.out] at hk
      exact hk
    have := hlt k hk'
    rw [List.mem_singleton] at e
    omega
  · intro k hk
    have := HV.out k hk
    rw [List.mem_singleton]
    omega
end Go.Proofs.YtmcnjikafppccaaGreat
