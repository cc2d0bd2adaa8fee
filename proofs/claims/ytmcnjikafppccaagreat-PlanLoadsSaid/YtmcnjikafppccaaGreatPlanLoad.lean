/- plan.load. -/
import Derived.Test.YtmcnjikafppccaaGreatShelfLoad
namespace Go.Proofs.YtmcnjikafppccaaGreat
open Go.RowKit

set_option maxRecDepth 100000 in
theorem load_quota (G : PlanG) (c kind : Int) (name : ByteArray) (level handle : Int) (dv : Value) (l : List UInt8) (w : World) (h : IsPlan w G) (hr : Rd w dv (l.map B)) (hd : ∃ a c, dv = .slice a l.length c) (hl : l.length ≤ 3200) (hn : name.size ≤ 1000000) (hi : isD name l = 0) (h5 : 5 ≤ l.length)
    (hc0 : 0 ≤ c) (hc1 : c < 4) (hq : ¬ ((l.length : Int) - 4 ≤ G.each - G.u c ∧ (l.length : Int) - 4 ≤ G.all - sumU G.u)) :
    Calls Tryz.prog 29 #[.pointer (some ⟨G.b, 0, none⟩), .int .i64 c, callV kind name level handle dv] w fun e w' => e = .returned (ansV 6 0 (.slice none 0 0)) ∧ Upd [] w w' := by
  obtain ⟨a, cp, rfl⟩ := hd
  have HR := Lib.hid hr
  have HD : Hid (∃ a' c', Value.slice a l.length cp = .slice a' l.length c') := ⟨_, _, rfl⟩
  have HI := Lib.hid hi
  have HQ := Lib.hid hq
  have H := Lib.hid h
  have hc := cell_of h.plan
  have hs := lt_of_heap h.plan
  clear hr hi hq h
  unfold callV
  go_enter Tryz.func29, Tryz.ntmps29
  go_wp2_with fail
  have hR1 : Rd ((w.alloc (.cells #[.int .i64 kind, .string name, .int .i64 level, .int .i64 handle, .slice a l.length cp] 30)).alloc (.cells #[.int .i64 0, .int .i64 0, .slice none 0 0] 27)) (.slice a l.length cp) (l.map B) := HR.out.upd (S := []) (by (with_reducible (repeat (first | exact Upd.refl _ _ | refine Upd.alloc ?_ _ | refine Upd.drew ?_ | refine Upd.drewN ?_ _ | refine Upd.setCell ?_ (by first | (left; simp; done) | (right; simp; done) | (right; simp; omega)) _)))) (fun _ _ => by simp)
  refine (is_any name _ l _ hR1 HD.out (by omega) hn).mono ?_
  rintro e w' ⟨he, hw⟩
  have hw := hw.symm
  subst hw
  rw [HI.out] at he
  subst he
  clear hR1
  go_wp2_with fail
  refine (take_no _ _ _ _ c ((l.length : Int) - 4) _ (H.out.upd (S := []) (by (with_reducible (repeat (first | exact Upd.refl _ _ | refine Upd.alloc ?_ _ | refine Upd.drew ?_ | refine Upd.drewN ?_ _ | refine Upd.setCell ?_ (by first | (left; simp; done) | (right; simp; done) | (right; simp; omega)) _)))) (by simp)).purse H.out.ok hc0 hc1 (by omega) (by omega) HQ.out).mono ?_
  rintro e w' ⟨rfl, m, rfl⟩
  go_wp2
  exact bodyPost_ret (v := ansV 6 0 (.slice none 0 0)) (by simp [results, Tryz.results29, go_sem, ansV]) rfl ⟨rfl, by (with_reducible (repeat (first | exact Upd.refl _ _ | refine Upd.alloc ?_ _ | refine Upd.drew ?_ | refine Upd.drewN ?_ _ | refine Upd.setCell ?_ (by first | (left; simp; done) | (right; simp; done) | (right; simp; omega)) _)))⟩

theorem put_load (c n : Int) {w : World} {lo : Nat} {l : List (Int × (Int × Int) × Nat)} {c4 : Nat} {k : Int} (h : w.heap[lo]? = some (loadO l c4)) (hn : getI k l = none) :
    (Instr.mapUpdate 53 (.map (some lo)) (.int .i64 k) (.agg #[.int .i64 c, .int .i64 n])).run Tryz.prog w = .ok () (putB w lo (loadO (l ++ [(k, (c, n), c4)]) (c4 + 1))) := by
  have e : getI k (l.map loadEnt) = (getI k l).map (fun y => (loadV y.1, y.2)) := getI_map (fun y : (Int × Int) × Nat => (loadV y.1, y.2)) k l
  rw [hn] at e
  have := run_update_new (P := Tryz.prog) (loadV (c, n)) Tryz.underlying53 Tryz.underlying3 h e
  simpa [loadO, List.map_append, loadEnt, loadV] using this

/-- The Plan with a dictionary more. -/
def PlanG.loadedG (G : PlanG) (c : Int) (k : ByteArray) (d : List UInt8) (bb db cap : Nat) : PlanG :=
  ({ G with u := addU G.u c d.length, sh := G.sh.loadG k d bb db cap, loads := G.loads ++ [(G.sh.last + 1, (c, (d.length : Int)), G.c4)], c4 := G.c4 + 1 } : PlanG).goneG (retR G.sh k)

theorem loadG_blocks (G : ShelfG) (k : ByteArray) (d : List UInt8) (bb db cap : Nat) : (G.loadG k d bb db cap).blocks = (G.retG k).blocks ++ [bb, db] := by
  simp [ShelfG.loadG, ShelfG.name, ShelfG.addB, ShelfG.blocks, List.flatMap_append]
theorem loadG_nd {G : ShelfG} (h : G.blocks.Nodup) (k : ByteArray) (d : List UInt8) (bb db cap s : Nat) (hs : ∀ x ∈ G.blocks, x < s) (h1 : s ≤ bb) (h2 : s ≤ db) (hne : bb ≠ db) : (G.loadG k d bb db cap).blocks.Nodup := by
  rw [loadG_blocks, List.nodup_append]
  refine ⟨h.sublist (retG_sub G k), by simp [hne], fun a ha b hb e => ?_⟩
  have := hs a ((retG_sub G k).subset ha)
  simp at hb
  omega

set_option maxRecDepth 100000 in
set_option maxHeartbeats 2000000 in
theorem load_plan (G : PlanG) (c kind : Int) (name : ByteArray) (level handle : Int) (g o cp : Nat) (l : List UInt8) (w : World) (h : IsPlan w G) (ok : PlOk G) (hr : Rd w (.slice (some ⟨g, o, none⟩) l.length cp) (l.map B)) (hg : g ∉ G.blocks) (hcp : l.length ≤ cp) (hl : l.length ≤ 3200) (hn : name.size ≤ 1000000) (hi : isD name l = 0) (h5 : 5 ≤ l.length) (hl4 : l.length ≤ 2004)
    (hlast : 0 ≤ G.sh.last ∧ G.sh.last ≤ 1000000) (hkeys : ∀ x ∈ G.loads, x.1 ≤ G.sh.last) (hc0 : 0 ≤ c) (hc1 : c < 4) (hq1 : (l.length : Int) - 4 ≤ G.each - G.u c) (hq2 : (l.length : Int) - 4 ≤ G.all - sumU G.u) :
    Calls Tryz.prog 29 #[.pointer (some ⟨G.b, 0, none⟩), .int .i64 c, callV kind name level handle (.slice (some ⟨g, o, none⟩) l.length cp)] w fun e w' => e = .returned (ansV 0 (G.sh.last + 1) (.slice none 0 0)) ∧
      ∃ bb db cap, IsPlan w' (G.loadedG c name (l.drop 4) bb db cap) ∧ Upd G.blocks w w' ∧ w.heap.size ≤ bb ∧ w.heap.size ≤ db ∧ bb ≠ db := by
  have HR := Lib.hid hr
  have HD : Hid (∃ a' c', Value.slice (some ⟨g, o, none⟩) l.length cp = .slice a' l.length c') := ⟨_, _, rfl⟩
  have HI := Lib.hid hi
  have H := Lib.hid h
  have OK := Lib.hid ok
  have HK := Lib.hid hkeys
  have hc := cell_of h.plan
  have hs := lt_of_heap h.plan
  obtain ⟨⟨a1, a2, a3, a4⟩, ⟨b1, b2, b3⟩, ⟨c1, c2⟩, d1, e1⟩ := PlanG.nd_parts h.nd
  clear hr hi h ok hkeys
  unfold callV
  go_enter Tryz.func29, Tryz.ntmps29
  go_wp2_with fail
  have U0 : Upd [] w ((w.alloc (.cells #[.int .i64 kind, .string name, .int .i64 level, .int .i64 handle, .slice (some ⟨g, o, none⟩) l.length cp] 30)).alloc (.cells #[.int .i64 0, .int .i64 0, .slice none 0 0] 27)) := by (with_reducible (repeat (first | exact Upd.refl _ _ | refine Upd.alloc ?_ _ | refine Upd.drew ?_ | refine Upd.drewN ?_ _ | refine Upd.setCell ?_ (by first | (left; simp; done) | (right; simp; done) | (right; simp; omega)) _)))
  have B5 : Hid (((w.alloc (.cells #[.int .i64 kind, .string name, .int .i64 level, .int .i64 handle, .slice (some ⟨g, o, none⟩) l.length cp] 30)).alloc (.cells #[.int .i64 0, .int .i64 0, .slice none 0 0] 27)).heap[w.heap.size]? = some (.cells #[.int .i64 kind, .string name, .int .i64 level, .int .i64 handle, .slice (some ⟨g, o, none⟩) l.length cp] 30 (0, 0))) := heap_old (heap_new w _)
  have B6 : Hid (((w.alloc (.cells #[.int .i64 kind, .string name, .int .i64 level, .int .i64 handle, .slice (some ⟨g, o, none⟩) l.length cp] 30)).alloc (.cells #[.int .i64 0, .int .i64 0, .slice none 0 0] 27)).heap[w.heap.size + 1]? = some (.cells #[.int .i64 0, .int .i64 0, .slice none 0 0] 27 (0, 0))) := heap_new' (by simp)
  generalize (w.alloc (.cells #[.int .i64 kind, .string name, .int .i64 level, .int .i64 handle, .slice (some ⟨g, o, none⟩) l.length cp] 30)).alloc (.cells #[.int .i64 0, .int .i64 0, .slice none 0 0] 27) = w0 at *
  have P0 := Lib.hid (H.out.upd U0 (by simp))
  have HU0 := Lib.hid U0
  have c0 := cell_of P0.out.plan
  have c5 := cell_of B5.out
  have hR1 := HR.out.upd U0 (fun _ _ => by simp)
  clear hc U0
  refine (is_any name _ l _ hR1 HD.out (by omega) hn).mono ?_
  rintro e w' ⟨he, hw⟩
  have hw := hw.symm
  subst hw
  rw [HI.out] at he
  subst he
  clear hR1
  go_wp2_with fail
  refine (take_yes _ _ _ _ c ((l.length : Int) - 4) _ P0.out.purse P0.out.ok hc0 hc1 (by omega) (by omega) hq1 hq2).mono ?_
  rintro e w1 ⟨rfl, U1, hp1⟩
  have P1 := Lib.hid (P0.out.setU U1 hp1 (P0.out.ok.add (by omega) hq1))
  have lpb := H.out.lt G.pb (by simp [PlanG.blocks])
  have B51 := Lib.hid (U1.blk B5.out (by rw [List.mem_singleton]; omega))
  have B61 := Lib.hid (U1.blk B6.out (by rw [List.mem_singleton]; omega))
  have HU1 := Lib.hid U1
  clear c0 c5 U1 hp1
  have c0 : ∀ o, w1.cell? ⟨G.b, o, none⟩ = #[.pointer (some ⟨G.pb, 0, none⟩), .pointer (some ⟨G.sh.b, 0, none⟩), .map (some G.se), .map (some G.lo), .int .i64 G.last][o]? := cell_of P1.out.plan
  have c5 := cell_of B51.out
  have s0 : G.b < w1.heap.size := lt_of_heap P1.out.plan
  have s5 := lt_of_heap B51.out
  have n5 : w.heap.size ∉ G.sh.blocks := fun e => by have := H.out.lt _ (show w.heap.size ∈ G.blocks by simp [PlanG.blocks, e]); omega
  have n6 : w.heap.size + 1 ∉ G.sh.blocks := fun e => by have := H.out.lt _ (show w.heap.size + 1 ∈ G.blocks by simp [PlanG.blocks, e]); omega
  have P2 := Lib.hid (P1.out.upd (S := []) (w' := w1.drew) (by (with_reducible (repeat (first | exact Upd.refl _ _ | refine Upd.alloc ?_ _ | refine Upd.drew ?_ | refine Upd.drewN ?_ _ | refine Upd.setCell ?_ (by first | (left; simp; done) | (right; simp; done) | (right; simp; omega)) _)))) (by simp))
  have hgs : g ∉ G.sh.blocks := fun e => hg (by simp [PlanG.blocks, e])
  have R2 := Lib.hid ((HR.out.upd (HU0.out.mono (S' := [G.pb]) (by simp)) (fun x hx e => by simp [Value.ownBlock] at hx; simp at e; exact hg (by rw [hx, e]; simp [PlanG.blocks]))).upd (HU1.out.drew) (fun x hx e => by simp [Value.ownBlock] at hx; simp at e; exact hg (by rw [hx, e]; simp [PlanG.blocks])))
  go_wp2_with fail
  go_region_held3 (fun w' => w'.cell? ⟨G.b, 1, none⟩ = some (.pointer (some ⟨G.sh.b, 0, none⟩)) ∧ w'.cell? ⟨w.heap.size, 1, none⟩ = some (.string name) ∧ w'.cell? ⟨w.heap.size, 4, none⟩ = some (.slice (some ⟨g, o, none⟩) l.length cp)) (first | (refine ⟨(U3.cell (by first | exact s0 | (simp; omega)) a4).trans ?_, (U3.cell (by first | exact s5 | (simp; omega)) n5).trans ?_, (U3.cell (by first | exact s5 | (simp; omega)) n5).trans ?_⟩ <;> (simp [*]; done)) | go_keep) (first | (go_at_call 49; refine (load_ok G.sh name g o cp l _ P2.out.shelf OK.out.sh e1 R2.out hgs HI.out hn h5 hl hcp hlast.2 hlast.1).mono ?_; rintro e w3 ⟨rfl, bb, db, cap, S3, U3, q1, q2, q3⟩))
  have P3 := Lib.hid (P2.out.setShelf U3 S3 (show (G.sh.retG name).b = G.sh.b from retG_b _ _) (by
    intro k hk
    rw [loadG_blocks] at hk
    rcases List.mem_append.1 hk with hk | hk
    · exact .inl ((retG_sub G.sh name).subset hk)
    · right; simp at hk; rcases hk with rfl | rfl <;> assumption) (loadG_nd e1 name (l.drop 4) bb db cap _ (fun x hx => P2.out.lt x (by simp only [PlanG.blocks, List.mem_cons]; exact .inr (.inr (.inr (.inr hx))))) q1 q2 q3))
  have z1 := HU1.out.size
  have z0 := HU0.out.size
  have q1' : w1.heap.size ≤ bb := q1
  have q2' : w1.heap.size ≤ db := q2
  have B62 := Lib.hid (U3.blk (show w1.drew.heap[w.heap.size + 1]? = _ from B61.out) n6)
  have UT := Lib.hid ((HU0.out.mono (S' := G.blocks) (by simp)).trans ((HU1.out.mono (S' := G.blocks) (by intro x hx; simp at hx; simp [PlanG.blocks, hx])).trans (Upd.trans (by (with_reducible (repeat (first | exact Upd.refl _ _ | refine Upd.alloc ?_ _ | refine Upd.drew ?_ | refine Upd.drewN ?_ _ | refine Upd.setCell ?_ (by first | (left; simp; done) | (right; simp; done) | (right; simp; omega)) _)))) (U3.mono (S' := G.blocks) (by intro x hx; simp [PlanG.blocks, hx])))))
  have hnl : getI (G.sh.last + 1) G.loads = none := by
    unfold getI
    rw [Option.map_eq_none_iff, List.find?_eq_none]
    intro x hx
    have := HK.out x hx
    simp
    omega
  clear U3 S3 c0 c5
  have c3 : ∀ o, w3.cell? ⟨G.b, o, none⟩ = #[.pointer (some ⟨G.pb, 0, none⟩), .pointer (some ⟨G.sh.b, 0, none⟩), .map (some G.se), .map (some G.lo), .int .i64 G.last][o]? := by
    have := cell_of P3.out.plan
    simp only [ShelfG.loadG, ShelfG.name, ShelfG.addB, retG_b] at this
    exact this
  have hup := put_load c ((l.length : Int) - 4) P3.out.loads hnl
  go_wp2_with fail
  have hdl : ((l.drop 4).length : Int) = (l.length : Int) - 4 := by simp; omega
  have U4 : Upd [G.lo] w3 (putB w3 G.lo (loadO (G.loads ++ [(G.sh.last + 1, (c, (l.length : Int) - 4), G.c4)]) (G.c4 + 1))) := (Upd.refl _ _).putB (Or.inl (by simp)) _
  have P4 := P3.out.setLoads (s := G.loads ++ [(G.sh.last + 1, (c, (l.length : Int) - 4), G.c4)]) (c := G.c4 + 1) U4 (heap_putB P3.out.loads)
  have hpl : ∀ x ∈ G.loads ++ [(G.sh.last + 1, (c, (l.length : Int) - 4), G.c4)], 0 ≤ x.2.1.1 ∧ x.2.1.1 < 4 ∧ 0 ≤ x.2.1.2 ∧ x.2.1.2 ≤ 2000 := by
    intro x hx
    rcases List.mem_append.1 hx with hx | hx
    · exact OK.out.loads x hx
    · simp only [List.mem_singleton] at hx
      subst hx
      simp only
      omega
  have hlo : ∀ (G' : PlanG) (id : Int), (∀ x ∈ G'.loads, 0 ≤ x.2.1.1 ∧ x.2.1.1 < 4 ∧ 0 ≤ x.2.1.2 ∧ x.2.1.2 ≤ 2000) → 0 ≤ (loadOf G' id).1 ∧ (loadOf G' id).1 < 4 ∧ 0 ≤ (loadOf G' id).2 ∧ (loadOf G' id).2 ≤ 1099511627776 := by
    intro G' id hG
    unfold loadOf
    cases hg : getI id G'.loads with
    | none => simp
    | some y =>
      have := hG _ (getI_mem hg)
      simp only [Option.map_some, Option.getD_some] at this ⊢
      omega
  refine (gone_any _ (retR G.sh name) _ P4 (hlo _ _ hpl)).mono ?_
  rintro e w4 ⟨rfl, P5, U5⟩
  have nl : w.heap.size + 1 ∉ [G.lo, G.pb] := fun e => by
    have h1 := H.out.lt G.lo (by simp [PlanG.blocks])
    simp at e
    omega
  have B63 := Lib.hid (U5.blk (U4.blk B62.out (fun e => nl (by simp at e; simp [e]))) nl)
  have HU4 := Lib.hid U4
  have HU5 := Lib.hid U5
  have HP5 := Lib.hid P5
  have c6 := cell_of B63.out
  have f6 := froz_of B63.out
  have HDL := Lib.hid hdl
  clear U4 P4 P5 U5 c3 hup hpl hlo hdl
  go_wp2
  have qq := cell_of (heap_setCell_at (heap_setCell_at (heap_setCell_at B63.out 0 (.int .i64 0)) 1 (.int .i64 (G.sh.last + 1))) 2 (.slice none 0 0))
  simp only [List.setIfInBounds_toArray, List.set_cons_zero, List.set_cons_succ] at qq
  have U9 : Upd [w.heap.size + 1] w4 (((w4.setCell ⟨w.heap.size + 1, 0, none⟩ (.int .i64 0)).setCell ⟨w.heap.size + 1, 1, none⟩ (.int .i64 (G.sh.last + 1))).setCell ⟨w.heap.size + 1, 2, none⟩ (.slice none 0 0)) := by (with_reducible (repeat (first | exact Upd.refl _ _ | refine Upd.alloc ?_ _ | refine Upd.drew ?_ | refine Upd.drewN ?_ _ | refine Upd.setCell ?_ (by first | (left; simp; done) | (right; simp; done) | (right; simp; omega)) _)))
  have hsz : w.heap.size + 1 < w1.heap.size := lt_of_heap B61.out
  refine bodyPost_ret (v := ansV 0 (G.sh.last + 1) (.slice none 0 0)) (by simp [results, Tryz.results29, go_sem, ansV, qq]) rfl ⟨rfl, bb, db, cap, ?_, ?_, by omega, by omega, q3⟩
  · have e2 : G.loadedG c name (l.drop 4) bb db cap = ({ G with u := addU G.u c ((l.length : Int) - 4), sh := G.sh.loadG name (l.drop 4) bb db cap, loads := G.loads ++ [(G.sh.last + 1, (c, (l.length : Int) - 4), G.c4)], c4 := G.c4 + 1 } : PlanG).goneG (retR G.sh name) := by
      unfold PlanG.loadedG
      rw [HDL.out]
    rw [e2]
    refine HP5.out.upd U9 ?_
    intro k hk e
    have hk2 : k ∈ G.blocks ∨ w1.heap.size ≤ k := by
      simp only [PlanG.blocks, PlanG.goneG, List.mem_cons, loadG_blocks, List.mem_append] at hk ⊢
      rcases hk with h | h | h | h | h | h
      · exact .inl (.inl h)
      · exact .inl (.inr (.inl h))
      · exact .inl (.inr (.inr (.inl h)))
      · exact .inl (.inr (.inr (.inr (.inl h))))
      · exact .inl (.inr (.inr (.inr (.inr ((retG_sub G.sh name).subset h)))))
      · right; simp at h; rcases h with rfl | rfl <;> assumption
    simp at e
    rcases hk2 with hk2 | hk2
    · have := H.out.lt k hk2
      omega
    · omega
  · refine Upd.drop (S := (w.heap.size + 1) :: G.blocks) ((((UT.out.mono ?_).trans (HU4.out.mono ?_)).trans (HU5.out.mono ?_)).trans (U9.mono (by simp))) ?_
    · intro k hk; simp [hk]
    · intro k hk; simp at hk; subst hk; simp [PlanG.blocks]
    · intro k hk; simp at hk; rcases hk with rfl | rfl <;> simp [PlanG.blocks]
    · intro k hk
      rcases List.mem_cons.1 hk with rfl | hk
      · exact .inr (by omega)
      · exact .inl hk
end Go.Proofs.YtmcnjikafppccaaGreat
