/- plan.Do, each kind of call by what it hands on; a session that is not there. -/
import Derived.Test.YtmcnjikafppccaaGreatPlanOpen
namespace Go.Proofs.YtmcnjikafppccaaGreat
open Go.RowKit

def IsAns (v : Value) : Prop := ∃ e n a l c, v = ansV e n (.slice a l c)

theorem run_sess {w : World} {se : Nat} {l : List (Int × SessG × Nat)} {c3 : Nat} (h : w.heap[se]? = some (sessO l c3)) {k : Int} (hn : getI k l = none) (b : Bool) :
    (Instr.lookup 52 (.map (some se)) (.int .i64 k) b).run Tryz.prog w = .ok (if b then .tuple #[.agg #[.int .i64 0, .pointer none, .int .i64 0], .bool false] else .agg #[.int .i64 0, .pointer none, .int .i64 0]) w := by
  have e : getI k (l.map sessEnt) = (getI k l).map (fun y => (sessV y.1, y.2)) := getI_map (fun y : SessG × Nat => (sessV y.1, y.2)) k l
  rw [hn] at e
  exact run_lookup_miss Tryz.underlying52 Tryz.underlying3 h e (zero_sess w) b

set_option maxRecDepth 100000 in
theorem session_none (G : PlanG) (c kind : Int) (name : ByteArray) (level handle : Int) (dv : Value) (w : World) (h : IsPlan w G) (hd : ∃ a n c, dv = .slice a n c) (hn : getI handle G.sess = none) :
    Calls Tryz.prog 28 #[.pointer (some ⟨G.b, 0, none⟩), .int .i64 c, callV kind name level handle dv] w fun e w' => e = .returned (ansV 7 0 (.slice none 0 0)) ∧ Upd [] w w' := by
  obtain ⟨a, n, cp, rfl⟩ := hd
  have H := Lib.hid h
  have hl : ∀ W : World, W.heap[G.se]? = some (sessO G.sess G.c3) → (Instr.lookup 52 (.map (some G.se)) (.int .i64 handle) true).run Tryz.prog W = .ok (.tuple #[.agg #[.int .i64 0, .pointer none, .int .i64 0], .bool false]) W := fun W hU => run_sess hU hn true
  clear h hn
  unfold callV
  go_enter Tryz.func28, Tryz.ntmps28
  go_wp2_with fail
  have U0 : Upd [] w ((w.alloc (.cells #[.int .i64 kind, .string name, .int .i64 level, .int .i64 handle, .slice a n cp] 30)).alloc (.cells #[.int .i64 0, .int .i64 0, .slice none 0 0] 27)) := by (with_reducible (repeat (first | exact Upd.refl _ _ | refine Upd.alloc ?_ _ | refine Upd.drew ?_ | refine Upd.drewN ?_ _ | refine Upd.setCell ?_ (by first | (left; simp; done) | (right; simp; done) | (right; simp; omega)) _)))
  have B5 : Hid (((w.alloc (.cells #[.int .i64 kind, .string name, .int .i64 level, .int .i64 handle, .slice a n cp] 30)).alloc (.cells #[.int .i64 0, .int .i64 0, .slice none 0 0] 27)).heap[w.heap.size]? = some (.cells #[.int .i64 kind, .string name, .int .i64 level, .int .i64 handle, .slice a n cp] 30 (0, 0))) := heap_old (heap_new w _)
  have B6 : Hid (((w.alloc (.cells #[.int .i64 kind, .string name, .int .i64 level, .int .i64 handle, .slice a n cp] 30)).alloc (.cells #[.int .i64 0, .int .i64 0, .slice none 0 0] 27)).heap[w.heap.size + 1]? = some (.cells #[.int .i64 0, .int .i64 0, .slice none 0 0] 27 (0, 0))) := heap_new' (by simp)
  generalize (w.alloc (.cells #[.int .i64 kind, .string name, .int .i64 level, .int .i64 handle, .slice a n cp] 30)).alloc (.cells #[.int .i64 0, .int .i64 0, .slice none 0 0] 27) = w0 at *
  have h0 := Lib.hid (H.out.upd U0 (by simp))
  have U1 := Lib.hid U0
  have c1 := cell_of h0.out.plan
  have c5 := cell_of B5.out
  have hl0 := hl w0.drew h0.out.sess
  have hl1 := fun o => hl (w0.alloc o).drew (heap_old h0.out.sess)
  clear hl
  have c6 := cell_of B6.out
  have f6 := froz_of B6.out
  have s1 : G.b < w0.heap.size := lt_of_heap h0.out.plan
  have s2 : G.se < w0.heap.size := lt_of_heap h0.out.sess
  have s5 : w.heap.size < w0.heap.size := lt_of_heap B5.out
  have s6 : w.heap.size + 1 < w0.heap.size := lt_of_heap B6.out
  clear U0
  go_region
  all_goals go_wp2
  have qq := fun o1 => cell_of (heap_old (o := o1) (heap_setCell_at (heap_setCell_at (heap_setCell_at B6.out 0 (.int .i64 7)) 1 (.int .i64 0)) 2 (.slice none 0 0)))
  simp only [List.setIfInBounds_toArray, List.set_cons_zero, List.set_cons_succ] at qq
  exact bodyPost_ret (v := ansV 7 0 (.slice none 0 0)) (by simp [results, Tryz.results28, go_sem, ansV, qq]) rfl ⟨rfl, Upd.drop (S := [w.heap.size + 1]) (Upd.trans (U1.out.mono (by simp)) (by (with_reducible (repeat (first | exact Upd.refl _ _ | refine Upd.alloc ?_ _ | refine Upd.drew ?_ | refine Upd.drewN ?_ _ | refine Upd.setCell ?_ (by first | (left; simp; done) | (right; simp; done) | (right; simp; omega)) _))))) (by simp)⟩

set_option maxRecDepth 100000 in
/-- A call of kind 1, handed on: what Do makes of it. -/
theorem do_open {R : World → Value → World → Prop} (b : Nat) (c : Int) (name : ByteArray) (level handle : Int) (dv : Value) (w : World) (hd : ∃ a n c, dv = .slice a n c) (hc0 : 0 ≤ c) (hc1 : c < 4)
    (hcall : ∀ w1, Upd [] w w1 → Calls Tryz.prog 27 #[.pointer (some ⟨b, 0, none⟩), .int .i64 c, callV 1 name level handle dv] w1 fun e w2 => ∃ v S, e = .returned v ∧ IsAns v ∧ Upd S w1 w2 ∧ (∀ k ∈ S, k < w.heap.size) ∧ R w1 v w2) :
    Calls Tryz.prog 11 #[.pointer (some ⟨b, 0, none⟩), .int .i64 c, callV 1 name level handle dv] w fun e w3 => ∃ v w1 w2 k, e = .returned v ∧ R w1 v w2 ∧ Upd [] w w1 ∧ Upd [k] w2 w3 ∧ w.heap.size ≤ k ∧ k < w1.heap.size := by
  obtain ⟨a, n, cp, rfl⟩ := hd
  have HC := Lib.hid hcall
  clear hcall
  unfold callV
  go_enter Tryz.func11, Tryz.ntmps11
  go_wp2_with fail
  refine (HC.out _ (by (with_reducible (repeat (first | exact Upd.refl _ _ | refine Upd.alloc ?_ _ | refine Upd.drew ?_ | refine Upd.drewN ?_ _ | refine Upd.setCell ?_ (by first | (left; simp; done) | (right; simp; done) | (right; simp; omega)) _))))).mono ?_
  rintro e w2 ⟨v, S, rfl, ⟨e1, n1, a1, l1, c1, rfl⟩, hU, hS, hR⟩
  have HR := Lib.hid hR
  have B6 := Lib.hid (hU.blk (heap_new' (n := w.heap.size + 1) (by simp)) (fun hm => by have := hS _ hm; omega))
  have c6 := cell_of B6.out
  have f6 := froz_of B6.out
  clear hR hU hS
  unfold ansV
  go_wp2
  have qq := cell_of (heap_setCell_at (heap_setCell_at (heap_setCell_at B6.out 0 (.int .i64 e1)) 1 (.int .i64 n1)) 2 (.slice a1 l1 c1))
  simp only [List.setIfInBounds_toArray, List.set_cons_zero, List.set_cons_succ] at qq
  exact bodyPost_ret (v := ansV e1 n1 (.slice a1 l1 c1)) (by simp [results, Tryz.results11, go_sem, ansV, qq]) rfl ⟨_, _, _, w.heap.size + 1, rfl, HR.out, by (with_reducible (repeat (first | exact Upd.refl _ _ | refine Upd.alloc ?_ _ | refine Upd.drew ?_ | refine Upd.drewN ?_ _ | refine Upd.setCell ?_ (by first | (left; simp; done) | (right; simp; done) | (right; simp; omega)) _))), by (with_reducible (repeat (first | exact Upd.refl _ _ | refine Upd.alloc ?_ _ | refine Upd.drew ?_ | refine Upd.drewN ?_ _ | refine Upd.setCell ?_ (by first | (left; simp; done) | (right; simp; done) | (right; simp; omega)) _))), by omega, by simp⟩

set_option maxRecDepth 100000 in
/-- A call on a session, handed on: what Do makes of it. -/
theorem do_session {R : World → Value → World → Prop} (b : Nat) (c kind : Int) (hk : kind = 2 ∨ kind = 3 ∨ kind = 4 ∨ kind = 5) (name : ByteArray) (level handle : Int) (dv : Value) (w : World) (hd : ∃ a n c, dv = .slice a n c) (hc0 : 0 ≤ c) (hc1 : c < 4)
    (hcall : ∀ w1, Upd [] w w1 → Calls Tryz.prog 28 #[.pointer (some ⟨b, 0, none⟩), .int .i64 c, callV kind name level handle dv] w1 fun e w2 => ∃ v S, e = .returned v ∧ IsAns v ∧ Upd S w1 w2 ∧ (∀ k ∈ S, k < w.heap.size) ∧ R w1 v w2) :
    Calls Tryz.prog 11 #[.pointer (some ⟨b, 0, none⟩), .int .i64 c, callV kind name level handle dv] w fun e w3 => ∃ v w1 w2 k, e = .returned v ∧ R w1 v w2 ∧ Upd [] w w1 ∧ Upd [k] w2 w3 ∧ w.heap.size ≤ k ∧ k < w1.heap.size := by
  obtain ⟨a, n, cp, rfl⟩ := hd
  have HC := Lib.hid hcall
  clear hcall
  unfold callV
  obtain rfl | rfl | rfl | rfl := hk
  all_goals
    go_enter Tryz.func11, Tryz.ntmps11
    go_wp2_with fail
    refine (HC.out _ (by (with_reducible (repeat (first | exact Upd.refl _ _ | refine Upd.alloc ?_ _ | refine Upd.drew ?_ | refine Upd.drewN ?_ _ | refine Upd.setCell ?_ (by first | (left; simp; done) | (right; simp; done) | (right; simp; omega)) _))))).mono ?_
    rintro e w2 ⟨v, S, rfl, ⟨e1, n1, a1, l1, c1, rfl⟩, hU, hS, hR⟩
    have HR := Lib.hid hR
    have B6 := Lib.hid (hU.blk (heap_new' (n := w.heap.size + 1) (by simp)) (fun hm => by have := hS _ hm; omega))
    have c6 := cell_of B6.out
    have f6 := froz_of B6.out
    clear hR hU hS
    unfold ansV
    go_wp2
    have qq := cell_of (heap_setCell_at (heap_setCell_at (heap_setCell_at B6.out 0 (.int .i64 e1)) 1 (.int .i64 n1)) 2 (.slice a1 l1 c1))
    simp only [List.setIfInBounds_toArray, List.set_cons_zero, List.set_cons_succ] at qq
    exact bodyPost_ret (v := ansV e1 n1 (.slice a1 l1 c1)) (by simp [results, Tryz.results11, go_sem, ansV, qq]) rfl ⟨_, _, _, w.heap.size + 1, rfl, HR.out, by (with_reducible (repeat (first | exact Upd.refl _ _ | refine Upd.alloc ?_ _ | refine Upd.drew ?_ | refine Upd.drewN ?_ _ | refine Upd.setCell ?_ (by first | (left; simp; done) | (right; simp; done) | (right; simp; omega)) _))), by (with_reducible (repeat (first | exact Upd.refl _ _ | refine Upd.alloc ?_ _ | refine Upd.drew ?_ | refine Upd.drewN ?_ _ | refine Upd.setCell ?_ (by first | (left; simp; done) | (right; simp; done) | (right; simp; omega)) _))), by omega, by simp⟩

set_option maxRecDepth 100000 in
/-- A call of kind 6, handed on: what Do makes of it. -/
theorem do_load {R : World → Value → World → Prop} (b : Nat) (c : Int) (name : ByteArray) (level handle : Int) (dv : Value) (w : World) (hd : ∃ a n c, dv = .slice a n c) (hc0 : 0 ≤ c) (hc1 : c < 4)
    (hcall : ∀ w1, Upd [] w w1 → Calls Tryz.prog 29 #[.pointer (some ⟨b, 0, none⟩), .int .i64 c, callV 6 name level handle dv] w1 fun e w2 => ∃ v S, e = .returned v ∧ IsAns v ∧ Upd S w1 w2 ∧ (∀ k ∈ S, k < w.heap.size) ∧ R w1 v w2) :
    Calls Tryz.prog 11 #[.pointer (some ⟨b, 0, none⟩), .int .i64 c, callV 6 name level handle dv] w fun e w3 => ∃ v w1 w2 k, e = .returned v ∧ R w1 v w2 ∧ Upd [] w w1 ∧ Upd [k] w2 w3 ∧ w.heap.size ≤ k ∧ k < w1.heap.size := by
  obtain ⟨a, n, cp, rfl⟩ := hd
  have HC := Lib.hid hcall
  clear hcall
  unfold callV
  go_enter Tryz.func11, Tryz.ntmps11
  go_wp2_with fail
  refine (HC.out _ (by (with_reducible (repeat (first | exact Upd.refl _ _ | refine Upd.alloc ?_ _ | refine Upd.drew ?_ | refine Upd.drewN ?_ _ | refine Upd.setCell ?_ (by first | (left; simp; done) | (right; simp; done) | (right; simp; omega)) _))))).mono ?_
  rintro e w2 ⟨v, S, rfl, ⟨e1, n1, a1, l1, c1, rfl⟩, hU, hS, hR⟩
  have HR := Lib.hid hR
  have B6 := Lib.hid (hU.blk (heap_new' (n := w.heap.size + 1) (by simp)) (fun hm => by have := hS _ hm; omega))
  have c6 := cell_of B6.out
  have f6 := froz_of B6.out
  clear hR hU hS
  unfold ansV
  go_wp2
  have qq := cell_of (heap_setCell_at (heap_setCell_at (heap_setCell_at B6.out 0 (.int .i64 e1)) 1 (.int .i64 n1)) 2 (.slice a1 l1 c1))
  simp only [List.setIfInBounds_toArray, List.set_cons_zero, List.set_cons_succ] at qq
  exact bodyPost_ret (v := ansV e1 n1 (.slice a1 l1 c1)) (by simp [results, Tryz.results11, go_sem, ansV, qq]) rfl ⟨_, _, _, w.heap.size + 1, rfl, HR.out, by (with_reducible (repeat (first | exact Upd.refl _ _ | refine Upd.alloc ?_ _ | refine Upd.drew ?_ | refine Upd.drewN ?_ _ | refine Upd.setCell ?_ (by first | (left; simp; done) | (right; simp; done) | (right; simp; omega)) _))), by (with_reducible (repeat (first | exact Upd.refl _ _ | refine Upd.alloc ?_ _ | refine Upd.drew ?_ | refine Upd.drewN ?_ _ | refine Upd.setCell ?_ (by first | (left; simp; done) | (right; simp; done) | (right; simp; omega)) _))), by omega, by simp⟩

set_option maxRecDepth 100000 in
/-- A call of kind 7, handed on: what Do makes of it. -/
theorem do_retire {R : World → Value → World → Prop} (b : Nat) (c : Int) (name : ByteArray) (level handle : Int) (dv : Value) (w : World) (hd : ∃ a n c, dv = .slice a n c) (hc0 : 0 ≤ c) (hc1 : c < 4)
    (hcall : ∀ w1, Upd [] w w1 → Calls Tryz.prog 30 #[.pointer (some ⟨b, 0, none⟩), callV 7 name level handle dv] w1 fun e w2 => ∃ v S, e = .returned v ∧ IsAns v ∧ Upd S w1 w2 ∧ (∀ k ∈ S, k < w.heap.size) ∧ R w1 v w2) :
    Calls Tryz.prog 11 #[.pointer (some ⟨b, 0, none⟩), .int .i64 c, callV 7 name level handle dv] w fun e w3 => ∃ v w1 w2 k, e = .returned v ∧ R w1 v w2 ∧ Upd [] w w1 ∧ Upd [k] w2 w3 ∧ w.heap.size ≤ k ∧ k < w1.heap.size := by
  obtain ⟨a, n, cp, rfl⟩ := hd
  have HC := Lib.hid hcall
  clear hcall
  unfold callV
  go_enter Tryz.func11, Tryz.ntmps11
  go_wp2_with fail
  refine (HC.out _ (by (with_reducible (repeat (first | exact Upd.refl _ _ | refine Upd.alloc ?_ _ | refine Upd.drew ?_ | refine Upd.drewN ?_ _ | refine Upd.setCell ?_ (by first | (left; simp; done) | (right; simp; done) | (right; simp; omega)) _))))).mono ?_
  rintro e w2 ⟨v, S, rfl, ⟨e1, n1, a1, l1, c1, rfl⟩, hU, hS, hR⟩
  have HR := Lib.hid hR
  have B6 := Lib.hid (hU.blk (heap_new' (n := w.heap.size + 1) (by simp)) (fun hm => by have := hS _ hm; omega))
  have c6 := cell_of B6.out
  have f6 := froz_of B6.out
  clear hR hU hS
  unfold ansV
  go_wp2
  have qq := cell_of (heap_setCell_at (heap_setCell_at (heap_setCell_at B6.out 0 (.int .i64 e1)) 1 (.int .i64 n1)) 2 (.slice a1 l1 c1))
  simp only [List.setIfInBounds_toArray, List.set_cons_zero, List.set_cons_succ] at qq
  exact bodyPost_ret (v := ansV e1 n1 (.slice a1 l1 c1)) (by simp [results, Tryz.results11, go_sem, ansV, qq]) rfl ⟨_, _, _, w.heap.size + 1, rfl, HR.out, by (with_reducible (repeat (first | exact Upd.refl _ _ | refine Upd.alloc ?_ _ | refine Upd.drew ?_ | refine Upd.drewN ?_ _ | refine Upd.setCell ?_ (by first | (left; simp; done) | (right; simp; done) | (right; simp; omega)) _))), by (with_reducible (repeat (first | exact Upd.refl _ _ | refine Upd.alloc ?_ _ | refine Upd.drew ?_ | refine Upd.drewN ?_ _ | refine Upd.setCell ?_ (by first | (left; simp; done) | (right; simp; done) | (right; simp; omega)) _))), by omega, by simp⟩

set_option maxRecDepth 100000 in
/-- A call of no kind, or of no client. -/
theorem do_wrong (b : Nat) (c kind : Int) (name : ByteArray) (level handle : Int) (dv : Value) (w : World) (hd : ∃ a n c, dv = .slice a n c) (h : c < 0 ∨ 4 ≤ c ∨ kind < 1 ∨ 7 < kind) :
    Calls Tryz.prog 11 #[.pointer (some ⟨b, 0, none⟩), .int .i64 c, callV kind name level handle dv] w fun e w' => e = .returned (ansV 1 0 (.slice none 0 0)) ∧ Upd [] w w' := by
  obtain ⟨a, n, cp, rfl⟩ := hd
  unfold callV
  by_cases hc : c < 0 ∨ 4 ≤ c
  · go_enter Tryz.func11, Tryz.ntmps11
    go_wp2
    all_goals exact bodyPost_ret (v := ansV 1 0 (.slice none 0 0)) (by simp [results, Tryz.results11, go_sem, ansV]) rfl ⟨rfl, by (with_reducible (repeat (first | exact Upd.refl _ _ | refine Upd.alloc ?_ _ | refine Upd.drew ?_ | refine Upd.drewN ?_ _ | refine Upd.setCell ?_ (by first | (left; simp; done) | (right; simp; done) | (right; simp; omega)) _)))⟩
  · have k1 : (kind == 1) = false := by simp; omega
    have k2 : (kind == 2) = false := by simp; omega
    have k3 : (kind == 3) = false := by simp; omega
    have k4 : (kind == 4) = false := by simp; omega
    have k5 : (kind == 5) = false := by simp; omega
    have k6 : (kind == 6) = false := by simp; omega
    have k7 : (kind == 7) = false := by simp; omega
    have c0 : 0 ≤ c := by omega
    have c1 : c < 4 := by omega
    clear h hc
    go_enter Tryz.func11, Tryz.ntmps11
    go_wp2
    all_goals exact bodyPost_ret (v := ansV 1 0 (.slice none 0 0)) (by simp [results, Tryz.results11, go_sem, ansV]) rfl ⟨rfl, by (with_reducible (repeat (first | exact Upd.refl _ _ | refine Upd.alloc ?_ _ | refine Upd.drew ?_ | refine Upd.drewN ?_ _ | refine Upd.setCell ?_ (by first | (left; simp; done) | (right; simp; done) | (right; simp; omega)) _)))⟩
end Go.Proofs.YtmcnjikafppccaaGreat
