/- desk.begins at a Write. -/
import Derived.Test.YtmcnjikafppccaaGreatDeskBegin
namespace Go.Proofs.YtmcnjikafppccaaGreat
open Go.RowKit

/-- What a Write's first step leaves to be written, and its error. -/
def GoingG.wr (g : GoingG) (er at_ : Int) : GoingG := if er = 0 ∧ g.c.data.length ≤ 3000 then { g with at_ := at_, left := g.c.data, lv := g.c.dv } else { g with at_ := at_ }
def wrErr (g : GoingG) (er : Int) : Int := if er = 0 ∧ 3000 < g.c.data.length then 1 else er
def WPost (R : World → Int → Int → List UInt8 → World → Prop) (D : DeskG) (PB : List Nat) (c : Int) (g : GoingG) (w w' : World) : Prop :=
  ∃ (w1 w2 : World) (er n : Int) (out : List UInt8) (ov ev' : Value) (S : List Nat), R w1 er n out w2 ∧ Upd [] w w1 ∧ Upd S w2 w' ∧ (∀ k ∈ S, k ∈ D.mut ∨ (w.heap.size < k ∧ (k < w1.heap.size ∨ w2.heap.size ≤ k))) ∧
    Upd (D.mut ++ PB) w w' ∧ IsDesk w' (D.begun c (g.wr er (D.effs.length : Int)) ⟨c, g.c, wrErr g er, n, out, ov⟩ ev') ∧ (∀ k, ov.ownBlock = some k → w.heap.size ≤ k) ∧ (∀ k, ev'.ownBlock = some k → D.ev.ownBlock = some k ∨ w.heap.size ≤ k)
/-- What stands behind the middle of begins: the going call's block, the answer's. -/
structure WCut (R : World → Int → Int → List UInt8 → World → Prop) (w : World) (PB : List Nat) (D : DeskG) (g : GoingG) (k7 : Nat) (er n : Int) (out : List UInt8) (oa : Option Addr) (oc : Nat) (w1 w2 wx : World) : Prop where
  r : R w1 er n out w2
  u1 : Upd [] w w1
  u2 : Upd [k7, g.b] w2 wx
  lo : w.heap.size < k7
  hi : k7 < w1.heap.size ∨ w2.heap.size ≤ k7
  u : Upd (g.b :: PB) w wx
  ans : wx.heap[k7]? = some (.cells #[.int .i64 (wrErr g er), .int .i64 n, .slice oa out.length oc] 27 (0, 0))
  going : wx.heap[g.b]? = some (goingO (g.wr er g.at_))
  bytes : Bytes wx (.slice oa out.length oc) out
  fresh : ∀ k, (Value.slice oa out.length oc).ownBlock = some k → w.heap.size < k ∧ k ≠ k7
def WCut' (R : World → Int → Int → List UInt8 → World → Prop) (w : World) (PB : List Nat) (D : DeskG) (g : GoingG) (s7 : Value) (wx : World) : Prop :=
  ∃ k7 er n out oa oc w1 w2, s7 = .pointer (some ⟨k7, 0, none⟩) ∧ WCut R w PB D g k7 er n out oa oc w1 w2 wx

set_option maxRecDepth 100000 in
set_option maxHeartbeats 4000000 in
theorem begins_wr {R : World → Int → Int → List UInt8 → World → Prop} (D : DeskG) (PB : List Nat) (c : Int) (g : GoingG) (w : World) (h : IsDesk w D) (h0 : 0 ≤ c) (h1 : c < 4) (hg : D.calls c = some g) (hk : g.c.kind = 2)
    (hPB : ∀ k ∈ PB, k < w.heap.size ∧ k ∉ D.mut ∧ k ∉ D.imm) (hlen : D.effs.length ≤ 1000000) (hat : g.at_ = -1) (hdo : DoesSo w D.pb PB c (callV 2 g.c.name g.c.level g.c.handle (.slice none 0 0)) R) :
    Calls Tryz.prog 35 #[.pointer (some ⟨D.b, 0, none⟩), .int .i64 c, .pointer (some ⟨g.b, 0, none⟩)] w fun e w' => e = .returned (.tuple #[]) ∧ WPost R D PB c g w w' := by
  have hG := goings_of h h0 h1 hg
  have hgm := DeskG.mem_goings h0 h1 hg
  obtain ⟨gb, ⟨kind, name, level, handle, data, dv⟩, at_, left, lv⟩ := g
  obtain ⟨da, dc, hdv⟩ := own_shape hG.data
  obtain ⟨la, lc, hlv⟩ := hG.shape
  simp only at hdv hlv
  subst hdv
  subst hlv
  have k1 := cell_of hG.blk
  have kd := cell_of h.desk
  have s1 := lt_of_heap hG.blk
  have s2 := lt_of_heap h.desk
  simp only at hk hat
  subst hk
  subst hat
  have HDO := Lib.hid hdo
  have H := Lib.hid h
  have HP := Lib.hid hPB
  have HG := Lib.hid hG
  simp only [callV] at *
  clear h hG hdo hPB
  go_enter Tryz.func35, Tryz.ntmps35
  go_upto_region 3 with fail
  go_cut [7] (fun s7 wx => BCut' R w PB #[.int .i64 2, .string name, .int .i64 level, .int .i64 handle, .slice none 0 0] s7 wx)
  case first =>
    have U0 : Upd [] w (w.alloc (.cells #[.int .i64 2, .string name, .int .i64 level, .int .i64 handle, .slice none 0 0] 30)) := by (with_reducible (repeat (first | exact Upd.refl _ _ | refine Upd.alloc ?_ _ | refine Upd.drew ?_ | refine Upd.drewN ?_ _ | refine Upd.setCell ?_ (by first | (left; simp; done) | (right; simp; done) | (right; simp; omega)) _)))
    have B0 : Hid ((w.alloc (.cells #[.int .i64 2, .string name, .int .i64 level, .int .i64 handle, .slice none 0 0] 30)).heap[w.heap.size]? = some (.cells #[.int .i64 2, .string name, .int .i64 level, .int .i64 handle, .slice none 0 0] 30 (0, 0))) := heap_new w _
    generalize w.alloc (.cells #[.int .i64 2, .string name, .int .i64 level, .int .i64 handle, .slice none 0 0] 30) = w0 at *
    have U0' := Lib.hid U0
    have D0 := Lib.hid (H.out.quiet U0)
    have c0 := cell_of B0.out
    have d0 := cell_of D0.out.desk
    have t0 := lt_of_heap B0.out
    have t1 := lt_of_heap D0.out.desk
    have p1 : D.b ∉ PB := fun e => (HP.out _ e).2.1 (by simp [DeskG.mut])
    have p2 : w.heap.size ∉ PB := fun e => by have := (HP.out _ e).1; omega
    have p7 : w0.heap.size ∉ PB := fun e => by have := (HP.out _ e).1; omega
    have n1 : D.b ≠ w0.heap.size := by omega
    have n2 : w.heap.size ≠ w0.heap.size := by omega
    clear U0 k1 kd
    go_region_held3 (fun w' => w'.cell? ⟨D.b, 0, none⟩ = some (.pointer (some ⟨D.pb, 0, none⟩)) ∧ w'.cell? ⟨w.heap.size, 0, none⟩ = some (.int .i64 2) ∧ w'.cell? ⟨w.heap.size, 1, none⟩ = some (.string name) ∧ w'.cell? ⟨w.heap.size, 2, none⟩ = some (.int .i64 level) ∧ w'.cell? ⟨w.heap.size, 3, none⟩ = some (.int .i64 handle) ∧ w'.cell? ⟨w.heap.size, 4, none⟩ = some (.slice none 0 0)) (first | (refine ⟨(hU.cell (by first | omega | (simp; omega)) p1).trans ?_, (hU.cell (by first | omega | (simp; omega)) p2).trans ?_, (hU.cell (by first | omega | (simp; omega)) p2).trans ?_, (hU.cell (by first | omega | (simp; omega)) p2).trans ?_, (hU.cell (by first | omega | (simp; omega)) p2).trans ?_, (hU.cell (by first | omega | (simp; omega)) p2).trans ?_⟩ <;> (simp [*]; done)) | (refine ⟨(World.cell?_alloc_lt _ _ ⟨D.b, 0, none⟩ t2).trans ?_, (World.cell?_alloc_lt _ _ ⟨w.heap.size, 0, none⟩ t3).trans ?_, (World.cell?_alloc_lt _ _ ⟨w.heap.size, 1, none⟩ t3).trans ?_, (World.cell?_alloc_lt _ _ ⟨w.heap.size, 2, none⟩ t3).trans ?_, (World.cell?_alloc_lt _ _ ⟨w.heap.size, 3, none⟩ t3).trans ?_, (World.cell?_alloc_lt _ _ ⟨w.heap.size, 4, none⟩ t3).trans ?_⟩ <;> (simp [*]; done)) | (refine ⟨(cell3 n1).trans ?_, (cell3 n2).trans ?_, (cell3 n2).trans ?_, (cell3 n2).trans ?_, (cell3 n2).trans ?_, (cell3 n2).trans ?_⟩ <;> (simp [*]; done)) | go_keep) (first | (go_at_call 11; refine (HDO.out _ (Upd.trans U0'.out (by (with_reducible (repeat (first | exact Upd.refl _ _ | refine Upd.alloc ?_ _ | refine Upd.drew ?_ | refine Upd.drewN ?_ _ | refine Upd.setCell ?_ (by first | (left; simp; done) | (right; simp; done) | (right; simp; omega)) _)))))).mono ?_; rintro e w2 ⟨er, n, out, ov, rfl, hU, hb, hfr, hR⟩; obtain ⟨oa, oc, rfl⟩ := own_shape hb; have z : w0.heap.size ≤ w2.heap.size := (by have zz := hU.size; first | exact zz | (simp at zz; omega)); have t2 : D.b < w2.heap.size := Nat.lt_of_lt_of_le t1 z; have t3 : w.heap.size < w2.heap.size := Nat.lt_of_lt_of_le t0 z; have bD : w2.heap[D.b]? = some (deskO D) := (by first | exact hU.blk D0.out.desk p1 | exact hU.blk (heap_old D0.out.desk) p1); have bC : w2.heap[w.heap.size]? = some (.cells #[.int .i64 2, .string name, .int .i64 level, .int .i64 handle, .slice none 0 0] 30 (0, 0)) := (by first | exact hU.blk B0.out p2 | exact hU.blk (heap_old B0.out) p2); have d2 := cell_of bD; have c2 := cell_of bC; have BD := Lib.hid bD; have BC := Lib.hid bC; clear bD bC; (try (have b7 := hU.blk (heap_new w0 (.cells #[.int .i64 0, .int .i64 0, .slice none 0 0] 27)) p7; have k7 := cell_of b7; have f7 := froz_of b7)); unfold ansV))
    all_goals go_wp2_with fail
    all_goals go_meet
    · have uw : Upd [w2.heap.size] w2 (w2.alloc (.cells #[.int .i64 er, .int .i64 n, .slice oa out.length oc] 27)) := by (with_reducible (repeat (first | exact Upd.refl _ _ | refine Upd.alloc ?_ _ | refine Upd.drew ?_ | refine Upd.drewN ?_ _ | refine Upd.setCell ?_ (by first | (left; simp; done) | (right; simp; done) | (right; simp; omega)) _)))
      have hfr' : ∀ k, (Value.slice oa out.length oc).ownBlock = some k → w0.heap.size ≤ k := hfr
      refine ⟨w2.heap.size, er, n, out, oa, oc, _, w2, rfl, ⟨hR, Upd.trans U0'.out (by (with_reducible (repeat (first | exact Upd.refl _ _ | refine Upd.alloc ?_ _ | refine Upd.drew ?_ | refine Upd.drewN ?_ _ | refine Upd.setCell ?_ (by first | (left; simp; done) | (right; simp; done) | (right; simp; omega)) _)))), uw, t3, .inr (Nat.le_refl _), ?_, heap_new' rfl, heap_old BC.out, hb.upd uw ?_, ?_⟩⟩
      · exact ((U0'.out.mono (by simp)).trans (Upd.trans (by (with_reducible (repeat (first | exact Upd.refl _ _ | refine Upd.alloc ?_ _ | refine Upd.drew ?_ | refine Upd.drewN ?_ _ | refine Upd.setCell ?_ (by first | (left; simp; done) | (right; simp; done) | (right; simp; omega)) _)))) hU)).alloc _
      · intro k hk
        have := hb.lt k hk
        simp
        omega
      · intro k hk
        have h1 := hfr' k hk
        have h2 := hb.lt k (by simp [hk])
        constructor <;> omega
    · have uw : Upd [w0.heap.size] w2 (((w2.setCell ⟨w0.heap.size, 0, none⟩ (.int .i64 er)).setCell ⟨w0.heap.size, 1, none⟩ (.int .i64 n)).setCell ⟨w0.heap.size, 2, none⟩ (.slice oa out.length oc)) := by (with_reducible (repeat (first | exact Upd.refl _ _ | refine Upd.alloc ?_ _ | refine Upd.drew ?_ | refine Upd.drewN ?_ _ | refine Upd.setCell ?_ (by first | (left; simp; done) | (right; simp; done) | (right; simp; omega)) _)))
      have hfr' : ∀ k, (Value.slice oa out.length oc).ownBlock = some k → w0.heap.size + 1 ≤ k := fun k hk => by have h1 := hfr k hk; simp only [World.size_alloc, World.size_drew] at h1; omega
      refine ⟨w0.heap.size, er, n, out, oa, oc, _, w2, rfl, ⟨hR, Upd.trans U0'.out (by (with_reducible (repeat (first | exact Upd.refl _ _ | refine Upd.alloc ?_ _ | refine Upd.drew ?_ | refine Upd.drewN ?_ _ | refine Upd.setCell ?_ (by first | (left; simp; done) | (right; simp; done) | (right; simp; omega)) _)))), uw, t0, .inl (by simp), ?_, set3 b7 _ _ _, ?_, hb.upd uw ?_, ?_⟩⟩
      · refine Upd.drop (S := w0.heap.size :: PB) (((U0'.out.mono (by simp)).trans (Upd.trans (by (with_reducible (repeat (first | exact Upd.refl _ _ | refine Upd.alloc ?_ _ | refine Upd.drew ?_ | refine Upd.drewN ?_ _ | refine Upd.setCell ?_ (by first | (left; simp; done) | (right; simp; done) | (right; simp; omega)) _)))) (hU.mono (by intro k hk; simp [hk])))).trans (uw.mono (by intro k hk; simp at hk; simp [hk]))) ?_
        intro k hk
        simp only [List.mem_cons] at hk
        rcases hk with rfl | hk
        · right; omega
        · exact .inl hk
      · rw [heap_setCell_ne n2, heap_setCell_ne n2, heap_setCell_ne n2]
        exact BC.out
      · intro k hk
        have := hfr' k (by simpa using hk)
        simp
        omega
      · intro k hk
        have h1 := hfr' k hk
        constructor <;> omega
  case rest =>
    obtain ⟨k7, er, n, out, oa, oc, w1, w2, rfl, hC⟩ := hcut
    have HC := Lib.hid hC
    have d1 := Lib.hid (H.out.upd hC.u (fun k hk e => (HP.out k e).2.1 hk) (fun k hk e => (HP.out k e).2.2 hk))
    have g1 := Lib.hid (goings_of d1.out h0 h1 hg)
    have kc := cell_of hC.call
    have ka := cell_of hC.ans
    have fa := froz_of hC.ans
    have kg1 := cell_of g1.out.blk
    have fg1 := froz_of g1.out.blk
    have l1 := hC.lo
    clear k1 kd hC
    go_upto_if 30 with fail
    go_cut [7] (fun s7 wx => WCut' R w PB D ⟨gb, ⟨2, name, level, handle, data, .slice da data.length dc⟩, -1, left, .slice la left.length lc⟩ s7 wx)
    case first =>
      have gb0 : gb < w.heap.size := H.out.lt.1 gb (DeskG.mem_mut_going hgm)
      have nk : k7 ≠ gb := by omega
      have sk := lt_of_heap HC.out.ans
      by_cases he : er = 0
      · have he2 : (er == 0) = true := by simpa using he
        by_cases hlen2 : data.length ≤ 3000
        · have w1e : wrErr ⟨gb, ⟨2, name, level, handle, data, .slice da data.length dc⟩, -1, left, .slice la left.length lc⟩ er = er := by
            unfold wrErr; rw [if_neg (by simp only; omega)]
          have w2e : GoingG.wr ⟨gb, ⟨2, name, level, handle, data, .slice da data.length dc⟩, -1, left, .slice la left.length lc⟩ er (-1) = ⟨gb, ⟨2, name, level, handle, data, .slice da data.length dc⟩, -1, data, .slice da data.length dc⟩ := by
            unfold GoingG.wr; rw [if_pos ⟨he, hlen2⟩]
          have W1 := Lib.hid w1e
          have W2 := Lib.hid w2e
          clear w1e w2e he
          go_wp2_with fail
          go_meet
          have u : Upd [k7, gb] wc (wc.setCell ⟨gb, 6, none⟩ (.slice da data.length dc)) := by (with_reducible (repeat (first | exact Upd.refl _ _ | refine Upd.alloc ?_ _ | refine Upd.drew ?_ | refine Upd.drewN ?_ _ | refine Upd.setCell ?_ (by first | (left; simp; done) | (right; simp; done) | (right; simp; omega)) _)))
          refine ⟨k7, er, n, out, oa, oc, w1, w2, rfl, ⟨HC.out.r, HC.out.u1, (HC.out.u2.mono (by intro k hk; simp at hk; simp [hk])).trans u, HC.out.lo, HC.out.hi, ?_, ?_, ?_, HC.out.bytes.upd u ?_, HC.out.fresh⟩⟩
          · exact (HC.out.u.mono (by intro k hk; simp [hk])).trans (by (with_reducible (repeat (first | exact Upd.refl _ _ | refine Upd.alloc ?_ _ | refine Upd.drew ?_ | refine Upd.drewN ?_ _ | refine Upd.setCell ?_ (by first | (left; simp; done) | (right; simp; done) | (right; simp; omega)) _))))
          · rw [W1.out, heap_setCell_ne nk]; exact HC.out.ans
          · rw [W2.out]; exact (heap_setCell_at g1.out.blk 6 _).trans rfl
          · intro k hk e
            have := HC.out.fresh k (by simpa using hk)
            simp at e
            omega
        · have w1e : wrErr ⟨gb, ⟨2, name, level, handle, data, .slice da data.length dc⟩, -1, left, .slice la left.length lc⟩ er = 1 := by
            unfold wrErr; rw [if_pos ⟨he, by simp only; omega⟩]
          have w2e : GoingG.wr ⟨gb, ⟨2, name, level, handle, data, .slice da data.length dc⟩, -1, left, .slice la left.length lc⟩ er (-1) = ⟨gb, ⟨2, name, level, handle, data, .slice da data.length dc⟩, -1, left, .slice la left.length lc⟩ := by
            unfold GoingG.wr; rw [if_neg (by simp only; omega)]
          have W1 := Lib.hid w1e
          have W2 := Lib.hid w2e
          clear w1e w2e he
          go_wp2_with fail
          go_meet
          have u : Upd [k7, gb] wc (wc.setCell ⟨k7, 0, none⟩ (.int .i64 1)) := by (with_reducible (repeat (first | exact Upd.refl _ _ | refine Upd.alloc ?_ _ | refine Upd.drew ?_ | refine Upd.drewN ?_ _ | refine Upd.setCell ?_ (by first | (left; simp; done) | (right; simp; done) | (right; simp; omega)) _)))
          refine ⟨k7, er, n, out, oa, oc, w1, w2, rfl, ⟨HC.out.r, HC.out.u1, (HC.out.u2.mono (by intro k hk; simp at hk; simp [hk])).trans u, HC.out.lo, HC.out.hi, ?_, ?_, ?_, HC.out.bytes.upd u ?_, HC.out.fresh⟩⟩
          · exact Upd.drop (S := k7 :: gb :: PB) (((HC.out.u.mono (by intro k hk; simp [hk]))).trans (by (with_reducible (repeat (first | exact Upd.refl _ _ | refine Upd.alloc ?_ _ | refine Upd.drew ?_ | refine Upd.drewN ?_ _ | refine Upd.setCell ?_ (by first | (left; simp; done) | (right; simp; done) | (right; simp; omega)) _))))) (by intro k hk; rcases List.mem_cons.1 hk with rfl | hk; exact .inr (by omega); exact .inl hk)
          · rw [W1.out]; exact (heap_setCell_at HC.out.ans 0 _).trans (by simp)
          · rw [W2.out, heap_setCell_ne nk.symm]; exact g1.out.blk
          · intro k hk e
            have := HC.out.fresh k (by simpa using hk)
            simp at e
            omega
      · have he2 : (er == 0) = false := by simpa using he
        have w1e : wrErr ⟨gb, ⟨2, name, level, handle, data, .slice da data.length dc⟩, -1, left, .slice la left.length lc⟩ er = er := by
          unfold wrErr; rw [if_neg (by simp only; omega)]
        have w2e : GoingG.wr ⟨gb, ⟨2, name, level, handle, data, .slice da data.length dc⟩, -1, left, .slice la left.length lc⟩ er (-1) = ⟨gb, ⟨2, name, level, handle, data, .slice da data.length dc⟩, -1, left, .slice la left.length lc⟩ := by
          unfold GoingG.wr; rw [if_neg (by simp only; omega)]
        have W1 := Lib.hid w1e
        have W2 := Lib.hid w2e
        clear w1e w2e he
        go_wp2_with fail
        go_meet
        refine ⟨k7, er, n, out, oa, oc, w1, w2, rfl, ⟨HC.out.r, HC.out.u1, HC.out.u2.mono (by intro k hk; simp at hk; simp [hk]), HC.out.lo, HC.out.hi, HC.out.u.mono (by intro k hk; simp [hk]), ?_, ?_, HC.out.bytes, HC.out.fresh⟩⟩
        · rw [W1.out]; exact HC.out.ans
        · rw [W2.out]; exact g1.out.blk
    case rest =>
      clear HC d1 g1 kc ka fa kg1 fg1 l1
      obtain ⟨k7, er, n, out, oa, oc, w1, w2, rfl, hC⟩ := hcut
      obtain ⟨left', la', lc', hw, hwc⟩ : ∃ left' la' lc', (∀ x, GoingG.wr ⟨gb, ⟨2, name, level, handle, data, .slice da data.length dc⟩, -1, left, .slice la left.length lc⟩ er x = ⟨gb, ⟨2, name, level, handle, data, .slice da data.length dc⟩, x, left', .slice la' left'.length lc'⟩) ∧
          ((left' = data ∧ Value.slice la' left'.length lc' = .slice da data.length dc) ∨ (left' = left ∧ Value.slice la' left'.length lc' = .slice la left.length lc)) := by
        by_cases hc : er = 0 ∧ data.length ≤ 3000
        · exact ⟨data, da, dc, fun x => by unfold GoingG.wr; rw [if_pos hc], .inl ⟨rfl, rfl⟩⟩
        · exact ⟨left, la, lc, fun x => by unfold GoingG.wr; rw [if_neg hc], .inr ⟨rfl, rfl⟩⟩
      have hCg := hC.going
      have hCa := hC.ans
      rw [hw] at hCg
      generalize hwe : wrErr ⟨gb, ⟨2, name, level, handle, data, .slice da data.length dc⟩, -1, left, .slice la left.length lc⟩ er = er' at hCa
      have HC := Lib.hid hC
      have HW := Lib.hid hw
      have HWC := Lib.hid hwc
      have HWE := Lib.hid hwe
      clear hw hwc hwe
      have gne : ∀ k, k ∈ D.imm → k ≠ gb := fun k hk e => H.out.apart k hk (e ▸ DeskG.mem_mut_going hgm)
      have ngb : D.b ≠ gb := fun e => by
        have hn := H.out.nd
        simp only [DeskG.mut, List.nodup_cons, List.mem_append, List.mem_map, not_or] at hn
        exact hn.1.2 ⟨_, hgm, e.symm⟩
      have nev : ∀ k, D.ev.ownBlock = some k → k ≠ gb := fun k hk e => by
        have hn := H.out.nd
        simp only [DeskG.mut, List.nodup_cons, List.nodup_append, List.mem_map] at hn
        exact hn.2.2.2 k (by simp [hk]) gb ⟨_, hgm, rfl⟩ e
      have hDP : ∀ k ∈ D.mut, k ∉ PB := fun k hk e => (HP.out k e).2.1 hk
      have hDm0 : D.b ∈ D.mut := by simp [DeskG.mut]
      have hevm0 : ∀ k, D.ev.ownBlock = some k → k ∈ D.mut := fun k hk => by simp only [DeskG.mut, List.mem_cons, List.mem_append]; exact .inr (.inl (by simp [hk]))
      have hdesk := hC.u.blk H.out.desk (fun e => by rcases List.mem_cons.1 e with e | e; exact ngb e; exact hDP _ hDm0 e)
      have heffs := own_upd H.out.effs hC.u (fun k hk e => by rcases List.mem_cons.1 e with e | e; exact nev k hk e; exact hDP _ (hevm0 k hk) e) (Nat.le_refl _)
      have HD1 := Lib.hid hdesk
      have HE1 := Lib.hid heffs
      have HG1 := Lib.hid hCg
      have HA1 := Lib.hid hCa
      have ka := cell_of hCa
      have kd1 := cell_of hdesk
      have kg1 := cell_of hCg
      have fg1 := froz_of hCg
      have hev := own_shape heffs
      obtain ⟨ea, ec, hev⟩ := hev
      have HEV := Lib.hid hev
      rw [hev] at kd1
      have l1 := hC.lo
      clear hC hev hdesk heffs hCg hCa
      go_wp2_with fail
      have U4 : Upd [gb] wc (wc.setCell ⟨gb, 5, none⟩ (.int .i64 (D.effs.length : Int))) := by (with_reducible (repeat (first | exact Upd.refl _ _ | refine Upd.alloc ?_ _ | refine Upd.drew ?_ | refine Upd.drewN ?_ _ | refine Upd.setCell ?_ (by first | (left; simp; done) | (right; simp; done) | (right; simp; omega)) _)))
      have g4 := Lib.hid ((heap_setCell_at HG1.out 5 (.int .i64 (D.effs.length : Int))).trans (show _ = some (goingO ⟨gb, ⟨2, name, level, handle, data, .slice da data.length dc⟩, (D.effs.length : Int), left', .slice la' left'.length lc'⟩) from rfl))
      have gb1 := lt_of_heap HG1.out
      have gb0 : gb < w.heap.size := H.out.lt.1 gb (DeskG.mem_mut_going hgm)
      have b4 := Lib.hid (U4.blk HD1.out (by simpa using ngb))
      have a4 := Lib.hid (U4.blk HA1.out (by have := HC.out.lo; simp; omega))
      have o4 := own_upd HE1.out U4 (fun k hk e => nev k hk (by simpa using e)) (Nat.le_refl _)
      rw [HEV.out] at o4
      have O4 := Lib.hid o4
      have W4 := Lib.hid U4
      clear kd1 kg1 fg1 ka o4 U4
      generalize wc.setCell ⟨gb, 5, none⟩ (.int .i64 (D.effs.length : Int)) = w4 at *
      have kd4 := cell_of b4.out
      rw [HEV.out] at kd4
      have kg4 := cell_of g4.out
      have ka4 := cell_of a4.out
      have fd4 := froz_of b4.out
      obtain ⟨i9, hi9, hz9, hs9, hb9⟩ := info_parts infoDone
      have HI := Lib.hid hi9
      have HL := Lib.hid hlen
      have s4 := lt_of_heap b4.out
      have s5 := lt_of_heap g4.out
      have s6 := lt_of_heap a4.out
      have nde : D.b ∉ (Value.slice ea D.effs.length ec).ownBlock.toList := fun e => by
        have hn := H.out.nd
        simp only [DeskG.mut, List.nodup_cons, List.mem_append, not_or] at hn
        rw [HEV.out] at hn
        exact hn.1.1 e
      clear hi9 hlen
      go_region_law (refine step_append_own (v := .slice ea D.effs.length ec) rfl _ _ 45 rfl 0 66 i9 _ 9 112 Tryz.underlying45 HI.out hz9 hs9 hb9 rfl (by decide) rfl (own_upd (S := []) O4.out (by (with_reducible (repeat (first | exact Upd.refl _ _ | refine Upd.alloc ?_ _ | refine Upd.drew ?_ | refine Upd.drewN ?_ _ | refine Upd.setCell ?_ (by first | (left; simp; done) | (right; simp; done) | (right; simp; omega)) _)))) (by simp) (Nat.le_refl _)) ⟨w4.heap.size, 0, none⟩ 1 1 (EffG.cells ⟨c, ⟨2, name, level, handle, data, .slice da data.length dc⟩, er', n, out, .slice oa out.length oc⟩) rfl rfl (eff_new _ ⟨c, ⟨2, name, level, handle, data, .slice da data.length dc⟩, er', n, out, .slice oa out.length oc⟩ _) (eff_one ⟨c, ⟨2, name, level, handle, data, .slice da data.length dc⟩, er', n, out, .slice oa out.length oc⟩ ⟨_, _, _, rfl⟩ ⟨_, _, _, rfl⟩) (by have := HL.out; unfold maxLen; omega) (by have := HL.out; omega) (Nat.zero_le _) (by decide) ?_; intro v5 w5 o5 h5 h6; obtain ⟨a5, c5, rfl⟩ := own_shape o5; have hU5 := Upd.of_grown (S := (Value.slice ea D.effs.length ec).ownBlock.toList) h5 (fun k hk => .inl (by rw [hk]; simp)); have b5 := hU5.blk (heap_old b4.out) nde; have kd5 := cell_of b5; have fd5 := froz_of b5; rw [HEV.out] at kd5; have B5 := Lib.hid b5; have HU5 := Lib.hid hU5; have H5 := Lib.hid h5; have O5 := Lib.hid o5; have H6 := Lib.hid h6; clear b5 hU5 h5 o5 h6)
      all_goals
        go_wp2
        go_end0
        refine ⟨rfl, ?_⟩
        have hC := HC.out
        have hDm : D.b ∈ D.mut := by simp [DeskG.mut]
        have hgmm : gb ∈ D.mut := DeskG.mem_mut_going hgm
        have hevE : (Value.slice ea D.effs.length ec).ownBlock = D.ev.ownBlock := by rw [HEV.out]
        have hevm : ∀ k, k ∈ D.ev.ownBlock.toList → k ∈ D.mut := fun k hk => by simp only [DeskG.mut, List.mem_cons, List.mem_append]; exact .inr (.inl hk)
        have HU5' := HU5.out
        have H6' := H6.out
        rw [hevE] at HU5' H6' nde
        have u45 : Upd D.ev.ownBlock.toList w4 w5 := (((Upd.refl _ w4).alloc _).drew).trans HU5'
        have uf : Upd [D.b] w5 (w5.setCell ⟨D.b, 5, none⟩ (.slice a5 (D.effs.length + 1) c5)) := (Upd.refl _ _).setCell (.inl (by simp)) _
        have uc : Upd (D.b :: gb :: (D.ev.ownBlock.toList ++ PB)) wc (w5.setCell ⟨D.b, 5, none⟩ (.slice a5 (D.effs.length + 1) c5)) :=
          ((W4.out.mono (by intro k hk; simp at hk; simp [hk])).trans (u45.mono (by intro k hk; simp only [List.mem_cons, List.mem_append]; exact .inr (.inr (.inl hk))))).trans (uf.mono (by intro k hk; simp at hk; simp [hk]))
        have uT : Upd (D.b :: gb :: (D.ev.ownBlock.toList ++ PB)) w (w5.setCell ⟨D.b, 5, none⟩ (.slice a5 (D.effs.length + 1) c5)) :=
          (hC.u.mono (by intro k hk; simp at hk; rcases hk with rfl | hk; simp; simp [hk])).trans uc
        have zc := hC.u.size
        have z4 := W4.out.size
        have hlt := H.out.lt
        have hovlt : ∀ k, (Value.slice oa out.length oc).ownBlock = some k → k < wc.heap.size := fun k hk => hC.bytes.lt k (by simp [hk])
        have hE6 : ∀ k, (Value.slice a5 (D.effs.length + 1) c5).ownBlock = some k → D.ev.ownBlock = some k ∨ w4.heap.size < k := by
          intro k hk
          rcases H6' with h6 | ⟨j, hj, hj2⟩
          · left; rw [← h6]; exact hk
          · right
            rw [hj] at hk
            simp only [World.size_drew, World.size_alloc] at hj2
            have : j = k := by simpa using hk
            omega
        refine ⟨w1, w2, er, n, out, .slice oa out.length oc, .slice a5 (D.effs.length + 1) c5, k7 :: D.b :: gb :: D.ev.ownBlock.toList, hC.r, hC.u1, ?_, ?_, uT.mono ?_, ?_, fun k hk => Nat.le_of_lt (hC.fresh k hk).1, fun k hk => (hE6 k hk).imp id (fun h => by omega)⟩
        · exact (((hC.u2.mono (by intro k hk; simp at hk; rcases hk with rfl | rfl <;> simp)).trans (W4.out.mono (by intro k hk; simp at hk; simp [hk]))).trans (u45.mono (by intro k hk; simp only [List.mem_cons]; exact .inr (.inr (.inr hk))))).trans (uf.mono (by intro k hk; simp at hk; simp [hk]))
        · intro k hk
          simp only [List.mem_cons] at hk
          rcases hk with rfl | rfl | rfl | hk
          · exact .inr ⟨hC.lo, hC.hi⟩
          · exact .inl hDm
          · exact .inl hgmm
          · exact .inl (hevm k hk)
        · intro k hk
          simp only [List.mem_cons, List.mem_append] at hk ⊢
          rcases hk with rfl | rfl | hk | hk
          · exact .inl hDm
          · exact .inl hgmm
          · exact .inl (hevm k hk)
          · exact .inr hk
        · have hG := HG.out
          have hin : ∀ k ∈ D.imm, k ∉ D.b :: gb :: (D.ev.ownBlock.toList ++ PB) := fun k hk hm => by
            simp only [List.mem_cons, List.mem_append] at hm
            rcases hm with rfl | rfl | hm | hm
            · exact H.out.apart _ hk hDm
            · exact H.out.apart _ hk hgmm
            · exact H.out.apart _ hk (hevm _ hm)
            · exact (HP.out _ hm).2.2 hk
          have hgi := DeskG.mem_imm_going hgm
          rw [HW.out, HWE.out]
          refine begun_ok H.out h0 h1 hg rfl rfl ?_ ⟨?_, ?_, ?_, ?_, hG.size, ⟨_, _, rfl⟩⟩ uT (fun k hk => ⟨(HP.out k hk).2.1, (HP.out k hk).2.2⟩) ?_ ?_ rfl ?_ (fun k hk => Nat.le_of_lt (hC.fresh k hk).1) ?_
          · rcases HWC.out with hx | hx
            · exact .inr (.inl (congrArg Value.ownBlock hx.2))
            · exact .inr (.inr (congrArg Value.ownBlock hx.2))
          · exact uf.blk (u45.blk g4.out (fun e => nev gb (by simpa using e) rfl)) (by simpa using fun e => ngb e.symm)
          · exact hG.data.upd uT (fun k hk => hin k (hgi k (by simp at hk; simp [hk])))
          · rcases HWC.out with ⟨hx1, hx2⟩ | ⟨hx1, hx2⟩
            · simp only
              rw [hx2, hx1]
              exact (Rd.of_own (hG.data.upd uT (fun k hk => hin k (hgi k (by simp at hk; simp [hk]))))).1
            · simp only
              rw [hx2, hx1]
              exact hG.left.upd uT (fun k hk => hin k (hgi k (by simp [hk])))
          · intro k hk
            rcases HWC.out with ⟨hx1, hx2⟩ | ⟨hx1, hx2⟩
            · simp only at hk
              rw [hx2] at hk
              exact Nat.lt_of_lt_of_le (hG.data.lt k (by show k ∈ (Value.slice da data.length dc).ownBlock.toList; rw [hk]; simp)) uT.size
            · simp only at hk
              rw [hx2] at hk
              exact Nat.lt_of_lt_of_le (hG.lb k hk) uT.size
          · refine (heap_setCell_at B5.out 5 _).trans ?_
            simp only [deskO, DeskG.begun, goP_upd hg (g' := ⟨gb, ⟨2, name, level, handle, data, .slice da data.length dc⟩, (D.effs.length : Int), left', .slice la' left'.length lc'⟩) rfl]
            simp
          · have := own_upd O5.out uf (fun k hk e => by
              simp at e
              subst e
              rcases hE6 _ hk with he | he
              · exact nde (by simp [he])
              · omega) (Nat.le_refl _)
            simpa [List.flatMap_append] using this
          · exact hC.bytes.upd uc (fun k hk e => by
              have hk' : (Value.slice oa out.length oc).ownBlock = some k := by simpa using hk
              have h8 := (hC.fresh k hk').1
              simp only [List.mem_cons, List.mem_append] at e
              rcases e with rfl | rfl | e | e
              · omega
              · omega
              · have := hlt.1 k (hevm k e); omega
              · have := (HP.out k e).1; omega)
          · rcases H6' with h6 | ⟨j, hj, hj2⟩
            · exact .inl h6
            · refine .inr ⟨j, hj, ?_, ?_⟩
              · simp only [World.size_drew, World.size_alloc] at hj2; omega
              · intro e
                have := hovlt j e
                simp only [World.size_drew, World.size_alloc] at hj2
                omega
end Go.Proofs.YtmcnjikafppccaaGreat
