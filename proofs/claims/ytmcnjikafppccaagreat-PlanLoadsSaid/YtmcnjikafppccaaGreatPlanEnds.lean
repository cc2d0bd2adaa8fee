/- plan.ends; an aborted session. -/
import Derived.Test.YtmcnjikafppccaaGreatShelfPin
namespace Go.Proofs.YtmcnjikafppccaaGreat
open Go.RowKit

def PlanG.giveG (G : PlanG) (c n : Int) : PlanG := { G with u := addU G.u c (- min n (G.u c)) }
def PlanG.endsG (G : PlanG) (h : Int) (x : SessG) : PlanG := (({ G with sess := G.sess.eraseP (fun y => y.1 == h) } : PlanG).unpinsG x.id).giveG x.client 2500
theorem run_sess_hit {w : World} {se : Nat} {l : List (Int × SessG × Nat)} {c3 : Nat} (h : w.heap[se]? = some (sessO l c3)) {k : Int} {x : SessG × Nat} (hn : getI k l = some x) (b : Bool) :
    (Instr.lookup 52 (.map (some se)) (.int .i64 k) b).run Tryz.prog w = .ok (if b then .tuple #[.agg #[.int .i64 x.1.client, .pointer (some ⟨x.1.sb, 0, none⟩), .int .i64 x.1.id], .bool true] else .agg #[.int .i64 x.1.client, .pointer (some ⟨x.1.sb, 0, none⟩), .int .i64 x.1.id]) w := by
  have e : getI k (l.map sessEnt) = (getI k l).map (fun y => (sessV y.1, y.2)) := getI_map (fun y : SessG × Nat => (sessV y.1, y.2)) k l
  rw [hn] at e
  exact run_lookup_hit Tryz.underlying52 Tryz.underlying3 h e b
theorem del_sess {w : World} {se : Nat} {l : List (Int × SessG × Nat)} {c : Nat} (h : w.heap[se]? = some (sessO l c)) (k : Int) (x : TypeId) (ts : Array TypeId) (hts : ts[0]? = some 52) :
    (Builtin.delete_ ts x #[.map (some se), .int .i64 k]).run Tryz.prog w = .ok (.tuple #[]) (putB w se (sessO (l.eraseP (fun x => x.1 == k)) c)) := by
  rw [run_delete Tryz.underlying52 Tryz.underlying3 h hts, List.eraseP_map]
  rfl

set_option maxRecDepth 100000 in
theorem ends_any (G : PlanG) (hd : Int) (x : SessG) (st : Nat) (w : World) (h : IsPlan w G) (ok : PlOk G) (hp : ∀ x ∈ G.sh.books, x.2.1.pins ≤ 1000000) (hx : getI hd G.sess = some (x, st)) (hc0 : 0 ≤ x.client) (hc1 : x.client < 4) :
    Calls Tryz.prog 45 #[.pointer (some ⟨G.b, 0, none⟩), .int .i64 hd] w fun e w' => e = .returned (.tuple #[]) ∧ IsPlan w' (G.endsG hd x) ∧ Upd G.blocks w w' := by
  have hc := cell_of h.plan
  have hs := lt_of_heap h.sess
  have hb := lt_of_heap h.plan
  have hr := run_sess_hit h.sess hx false
  simp only [Bool.false_eq_true, if_false] at hr
  have hdl := fun o => del_sess (w := w.alloc o) (heap_old h.sess) hd 0
  have H := Lib.hid h
  have OK := Lib.hid ok
  have HP := Lib.hid hp
  obtain ⟨⟨a1, a2, a3, a4⟩, ⟨b1, b2, b3⟩, ⟨c1, c2⟩, d1, e1⟩ := PlanG.nd_parts h.nd
  have hcl : ∀ o, (putB (w.alloc o) G.se (sessO (G.sess.eraseP (fun y => y.1 == hd)) G.c3)).cell? ⟨w.heap.size, 2, none⟩ = (w.alloc o).cell? ⟨w.heap.size, 2, none⟩ := fun o => cell_putB (by show w.heap.size ≠ G.se; omega)
  have hlt := h.lt
  clear h ok hp hx
  go_enter Tryz.func45, Tryz.ntmps45
  go_wp2_with fail
  have U1 : Upd [G.se] w (putB (w.alloc (.cells #[.int .i64 x.client, .pointer (some ⟨x.sb, 0, none⟩), .int .i64 x.id] 82)) G.se (sessO (G.sess.eraseP (fun y => y.1 == hd)) G.c3)) := ((Upd.refl _ _).alloc _).putB (Or.inl (by simp)) _
  have P1 := Lib.hid (H.out.setSess (s := G.sess.eraseP (fun y => y.1 == hd)) (c := G.c3) U1 (heap_putB (heap_old H.out.sess)))
  have B1 : Hid ((putB (w.alloc (.cells #[.int .i64 x.client, .pointer (some ⟨x.sb, 0, none⟩), .int .i64 x.id] 82)) G.se (sessO (G.sess.eraseP (fun y => y.1 == hd)) G.c3)).heap[w.heap.size]? = some (.cells #[.int .i64 x.client, .pointer (some ⟨x.sb, 0, none⟩), .int .i64 x.id] 82 (0, 0))) := (heap_putB_ne (by omega)).trans (heap_new w _)
  have HU1 := Lib.hid U1
  clear hc hr hdl U1 hcl
  generalize putB (w.alloc (.cells #[.int .i64 x.client, .pointer (some ⟨x.sb, 0, none⟩), .int .i64 x.id] 82)) G.se (sessO (G.sess.eraseP (fun y => y.1 == hd)) G.c3) = w1 at *
  refine (unpins_any _ x.id _ P1.out ⟨OK.out.sh, OK.out.loads⟩ HP.out).mono ?_
  rintro e w2 ⟨rfl, P2, U2⟩
  have nB : w.heap.size ∉ G.blocks := fun e => by have := hlt _ e; omega
  have B2 := Lib.hid (U2.blk B1.out nB)
  have HP2 := Lib.hid P2
  have HU2 := Lib.hid U2
  have hpb : (({ G with sess := G.sess.eraseP (fun y => y.1 == hd) } : PlanG).unpinsG x.id).pb = G.pb := by unfold PlanG.unpinsG; split <;> rfl
  have hbb : (({ G with sess := G.sess.eraseP (fun y => y.1 == hd) } : PlanG).unpinsG x.id).b = G.b := by unfold PlanG.unpinsG; split <;> rfl
  have k1 : ∀ o, w2.cell? ⟨G.b, o, none⟩ = (planO (({ G with sess := G.sess.eraseP (fun y => y.1 == hd) } : PlanG).unpinsG x.id) |> fun | .cells c _ _ => c[o]? | _ => none) := by
    have := cell_of P2.plan
    rw [hbb] at this
    exact this
  simp only [planO, hpb] at k1
  have k2 := cell_of B2.out
  have HPB := Lib.hid hpb
  clear P2 U2 hpb hbb
  go_wp2_with fail
  go_still_tail 6, (by kernel_rfl)
  go_wp2_with fail
  have P3 := HP2.out.upd (S := []) (w' := w2.drew) (by (with_reducible (repeat (first | exact Upd.refl _ _ | refine Upd.alloc ?_ _ | refine Upd.drew ?_ | refine Upd.drewN ?_ _ | refine Upd.setCell ?_ (by first | (left; simp; done) | (right; simp; done) | (right; simp; omega)) _)))) (by simp)
  have hpu := P3.purse
  rw [HPB.out] at hpu
  refine (give_any _ _ _ _ x.client 2500 _ hpu P3.ok hc0 hc1 (by omega) (by omega)).mono ?_
  rintro e w3 ⟨rfl, U3, p3⟩
  have P4 := P3.setU (u := addU _ x.client (- min 2500 (_ : Int))) (by rw [HPB.out]; exact U3) (by rw [HPB.out]; exact p3) (P3.ok.sub (by omega))
  have HP4 := Lib.hid P4
  have HU3 := Lib.hid U3
  clear P4 U3 P3 hpu p3 k1 k2
  go_wp2
  go_end0
  refine ⟨rfl, HP4.out, (HU1.out.mono ?_).trans (HU2.out.trans (Upd.trans (by (with_reducible (repeat (first | exact Upd.refl _ _ | refine Upd.alloc ?_ _ | refine Upd.drew ?_ | refine Upd.drewN ?_ _ | refine Upd.setCell ?_ (by first | (left; simp; done) | (right; simp; done) | (right; simp; omega)) _)))) (HU3.out.mono ?_)))⟩
  · intro y hy; simp at hy; subst hy; simp [PlanG.blocks]
  · intro y hy; simp at hy; subst hy; simp [PlanG.blocks]

theorem giveG_blocks (G : PlanG) (h : Int) (x : SessG) : (G.endsG h x).blocks.Sublist G.blocks := unpins_sub ({ G with sess := G.sess.eraseP (fun y => y.1 == h) } : PlanG) x.id

set_option maxRecDepth 100000 in
theorem session_abort (G : PlanG) (c : Int) (name : ByteArray) (level handle : Int) (dv : Value) (x : SessG) (st : Nat) (w : World) (h : IsPlan w G) (ok : PlOk G) (hp : ∀ x ∈ G.sh.books, x.2.1.pins ≤ 1000000) (hd : ∃ a n c, dv = .slice a n c) (hx : getI handle G.sess = some (x, st)) (hc : x.client = c) (hc0 : 0 ≤ c) (hc1 : c < 4) :
    Calls Tryz.prog 28 #[.pointer (some ⟨G.b, 0, none⟩), .int .i64 c, callV 5 name level handle dv] w fun e w' => e = .returned (ansV 0 0 (.slice none 0 0)) ∧ IsPlan w' (G.endsG handle x) ∧ Upd G.blocks w w' := by
  obtain ⟨a, n, cp, rfl⟩ := hd
  subst hc
  have H := Lib.hid h
  have OK := Lib.hid ok
  have HP := Lib.hid hp
  have HX := Lib.hid hx
  have hl : ∀ W : World, W.heap[G.se]? = some (sessO G.sess G.c3) → (Instr.lookup 52 (.map (some G.se)) (.int .i64 handle) true).run Tryz.prog W = .ok (.tuple #[.agg #[.int .i64 x.client, .pointer (some ⟨x.sb, 0, none⟩), .int .i64 x.id], .bool true]) W := fun W hU => run_sess_hit hU hx true
  clear h ok hp hx
  unfold callV
  go_enter Tryz.func28, Tryz.ntmps28
  go_wp2_with fail
  have U0 : Upd [] w ((w.alloc (.cells #[.int .i64 5, .string name, .int .i64 level, .int .i64 handle, .slice a n cp] 30)).alloc (.cells #[.int .i64 0, .int .i64 0, .slice none 0 0] 27)) := by (with_reducible (repeat (first | exact Upd.refl _ _ | refine Upd.alloc ?_ _ | refine Upd.drew ?_ | refine Upd.drewN ?_ _ | refine Upd.setCell ?_ (by first | (left; simp; done) | (right; simp; done) | (right; simp; omega)) _)))
  have B5 : Hid (((w.alloc (.cells #[.int .i64 5, .string name, .int .i64 level, .int .i64 handle, .slice a n cp] 30)).alloc (.cells #[.int .i64 0, .int .i64 0, .slice none 0 0] 27)).heap[w.heap.size]? = some (.cells #[.int .i64 5, .string name, .int .i64 level, .int .i64 handle, .slice a n cp] 30 (0, 0))) := heap_old (heap_new w _)
  have B6 : Hid (((w.alloc (.cells #[.int .i64 5, .string name, .int .i64 level, .int .i64 handle, .slice a n cp] 30)).alloc (.cells #[.int .i64 0, .int .i64 0, .slice none 0 0] 27)).heap[w.heap.size + 1]? = some (.cells #[.int .i64 0, .int .i64 0, .slice none 0 0] 27 (0, 0))) := heap_new' (by simp)
  generalize (w.alloc (.cells #[.int .i64 5, .string name, .int .i64 level, .int .i64 handle, .slice a n cp] 30)).alloc (.cells #[.int .i64 0, .int .i64 0, .slice none 0 0] 27) = w0 at *
  have h0 := Lib.hid (H.out.upd U0 (by simp))
  have U1 := Lib.hid U0
  have c1 := cell_of h0.out.plan
  have c5 := cell_of B5.out
  have hl0 := hl w0.drew h0.out.sess
  have hl1 := fun o => hl (w0.alloc o).drew (heap_old h0.out.sess)
  clear hl
  have c6 := cell_of B6.out
  have f6 := froz_of B6.out
  have s1 : G.b < w0.heap.size := lt_of_heap h0.out.plan
  have s2 : G.se < w0.heap.size := lt_of_heap h0.out.sess
  have s5 : w.heap.size < w0.heap.size := lt_of_heap B5.out
  have s6 : w.heap.size + 1 < w0.heap.size := lt_of_heap B6.out
  clear U0
  go_region
  all_goals
    go_wp2_with fail
    refine (ends_any G handle x st _ (h0.out.upd (S := []) (by (with_reducible (repeat (first | exact Upd.refl _ _ | refine Upd.alloc ?_ _ | refine Upd.drew ?_ | refine Upd.drewN ?_ _ | refine Upd.setCell ?_ (by first | (left; simp; done) | (right; simp; done) | (right; simp; omega)) _)))) (by simp)) OK.out HP.out HX.out hc0 hc1).mono ?_
    rintro e w2 ⟨rfl, P2, U2⟩
    have nB : w.heap.size + 1 ∉ G.blocks := fun e => by have := H.out.lt _ e; omega
    have B7 := Lib.hid (U2.blk (heap_old (o := .cells #[.int .i64 x.client, .pointer (some ⟨x.sb, 0, none⟩), .int .i64 x.id] 82 (0, 0)) B6.out) nB)
    have HP2 := Lib.hid P2
    have HU2 := Lib.hid U2
    have k6 := cell_of B7.out
    have k6f := froz_of B7.out
    clear P2 U2 c1 c5 c6 f6 hl0 hl1
    go_wp2
    have qq := cell_of (heap_setCell_at (heap_setCell_at (heap_setCell_at B7.out 0 (.int .i64 0)) 1 (.int .i64 0)) 2 (.slice none 0 0))
    simp only [List.setIfInBounds_toArray, List.set_cons_zero, List.set_cons_succ] at qq
    have U9 : Upd [w.heap.size + 1] w2 (((w2.setCell ⟨w.heap.size + 1, 0, none⟩ (.int .i64 0)).setCell ⟨w.heap.size + 1, 1, none⟩ (.int .i64 0)).setCell ⟨w.heap.size + 1, 2, none⟩ (.slice none 0 0)) := by (with_reducible (repeat (first | exact Upd.refl _ _ | refine Upd.alloc ?_ _ | refine Upd.drew ?_ | refine Upd.drewN ?_ _ | refine Upd.setCell ?_ (by first | (left; simp; done) | (right; simp; done) | (right; simp; omega)) _)))
    refine bodyPost_ret (v := ansV 0 0 (.slice none 0 0)) (by simp [results, Tryz.results28, go_sem, ansV, qq]) rfl ⟨rfl, HP2.out.upd U9 ?_, ?_⟩
    · intro k hk e
      have := H.out.lt k ((giveG_blocks G handle x).subset hk)
      simp at e
      omega
    · refine Upd.drop (S := (w.heap.size + 1) :: G.blocks) (((U1.out.mono (by simp)).trans (Upd.trans (by (with_reducible (repeat (first | exact Upd.refl _ _ | refine Upd.alloc ?_ _ | refine Upd.drew ?_ | refine Upd.drewN ?_ _ | refine Upd.setCell ?_ (by first | (left; simp; done) | (right; simp; done) | (right; simp; omega)) _)))) (HU2.out.mono (by intro k hk; simp [hk])))).trans (U9.mono (by simp))) ?_
      intro k hk
      rcases List.mem_cons.1 hk with rfl | hk
      · exact .inr (by omega)
      · exact .inl hk
end Go.Proofs.YtmcnjikafppccaaGreat
