/- plan.retire; plan.load where the name is none. -/
import Derived.Test.YtmcnjikafppccaaGreatShelfRet
import Derived.Deep.RegionHeld3
namespace Go.Proofs.YtmcnjikafppccaaGreat
open Go.RowKit

/-- Which loads there may be. -/
structure PlOk (G : PlanG) : Prop where
  sh : ShOk G.sh
  loads : ∀ x ∈ G.loads, 0 ≤ x.2.1.1 ∧ x.2.1.1 < 4 ∧ 0 ≤ x.2.1.2 ∧ x.2.1.2 ≤ 2000
theorem PlOk.loadOf {G : PlanG} (h : PlOk G) (id : Int) : 0 ≤ (loadOf G id).1 ∧ (loadOf G id).1 < 4 ∧ 0 ≤ (loadOf G id).2 ∧ (loadOf G id).2 ≤ 1099511627776 := by
  unfold Go.Proofs.YtmcnjikafppccaaGreat.loadOf
  cases hg : getI id G.loads with
  | none => simp
  | some y =>
    have := h.loads _ (getI_mem hg)
    simp only [Option.map_some, Option.getD_some] at this ⊢
    omega
theorem retG_sub (G : ShelfG) (k : ByteArray) : (G.retG k).blocks.Sublist G.blocks := by
  unfold ShelfG.retG
  split
  · exact List.Sublist.refl _
  · unfold ShelfG.letsG
    split
    · refine (del_sub _ _).trans ?_
      rw [set_blocks _ _ _ soft_uncur]
      exact List.Sublist.refl _
    · rw [set_blocks _ _ _ soft_uncur]
      exact List.Sublist.refl _
theorem retG_b (G : ShelfG) (k : ByteArray) : (G.retG k).b = G.b := by
  unfold ShelfG.retG
  split
  · rfl
  · unfold ShelfG.letsG; split <;> rfl
theorem IsPlan.setShelf {w w' : World} {G : PlanG} (h : IsPlan w G) {S : ShelfG} (hU : Upd G.sh.blocks w w') (hs : IsShelf w' S) (hb : S.b = G.sh.b) (hsub : ∀ k ∈ S.blocks, k ∈ G.sh.blocks ∨ w.heap.size ≤ k) (hnd : S.blocks.Nodup) : IsPlan w' { G with sh := S } := by
  obtain ⟨⟨a1, a2, a3, a4⟩, ⟨b1, b2, b3⟩, ⟨c1, c2⟩, d1, e1⟩ := PlanG.nd_parts h.nd
  have l1 := lt_of_heap h.plan
  have l2 := lt_of_heap h.purse
  have l3 := lt_of_heap h.sess
  have l4 := lt_of_heap h.loads
  have hn : ∀ j, j < w.heap.size → j ∉ G.sh.blocks → j ∉ S.blocks := fun j hj hn hm => by
    rcases hsub j hm with h1 | h1
    · exact hn h1
    · omega
  refine ⟨?_, hU.blk h.purse b3, hU.blk h.sess c2, hU.blk h.loads d1, hs, h.ok, ?_⟩
  · have := hU.blk h.plan a4
    rw [this]
    simp [planO, hb]
  · simp only [PlanG.blocks, List.nodup_cons, List.mem_cons, not_or]
    exact ⟨⟨a1, a2, a3, hn _ l1 a4⟩, ⟨b1, b2, hn _ l2 b3⟩, ⟨c1, hn _ l3 c2⟩, hn _ l4 d1, hnd⟩
theorem bookAt_unname (G : ShelfG) (k : ByteArray) (id : Int) : bookAt (G.unname k) id = bookAt G id := rfl
theorem getI_set {l : List (Int × Book × Nat)} {id : Int} {f : Book → Book} (j : Int) : getI j (l.map fun x => if x.1 = id then (x.1, f x.2.1, x.2.2) else x) = (getI j l).map fun y => if j = id then (f y.1, y.2) else y := by
  induction l with
  | nil => rfl
  | cons x l ih =>
    simp only [getI, List.map_cons, List.find?_cons] at ih ⊢
    by_cases hx : x.1 = id
    · rw [if_pos hx]
      simp only
      cases hj : (x.1 == j) with
      | true =>
        have : x.1 = j := by simpa using hj
        subst this
        simp [hx]
      | false => exact ih
    · rw [if_neg hx]
      cases hj : (x.1 == j) with
      | true =>
        have : x.1 = j := by simpa using hj
        subst this
        simp [hx]
      | false => exact ih
theorem bookAt_set (G : ShelfG) (id : Int) (f : Book → Book) (j : Int) : bookAt (G.set id f) j = (bookAt G j).map fun b => if j = id then f b else b := by
  unfold bookAt ShelfG.set
  rw [getI_set]
  cases getI j G.books with
  | none => rfl
  | some y => simp only [Option.map_some]; split <;> rfl
theorem getI_del {α : Type} {l : List (Int × α)} {id j : Int} (h : j ≠ id) : getI j (l.eraseP fun x => x.1 == id) = getI j l := by
  induction l with
  | nil => rfl
  | cons x l ih =>
    rw [List.eraseP_cons]
    cases hx : (x.1 == id) with
    | true =>
      have hx' : x.1 = id := by simpa using hx
      have : (x.1 == j) = false := by rw [hx']; simpa using fun e => h e.symm
      simp only [cond_true]
      simp [getI, this]
    | false =>
      simp only [cond_false]
      simp only [getI, List.find?_cons] at ih ⊢
      cases hj : (x.1 == j) with
      | true => rfl
      | false => exact ih
theorem ba_iff (a b : ByteArray) : (a == b) = true ↔ a = b := by
  show (a.data == b.data) = true ↔ _
  rw [ByteArray.ext_iff]
  simp
theorem getS_erase_ne {α : Type} {k : ByteArray} : ∀ {l : List (ByteArray × α)}, (l.Pairwise fun a b => (a.1 == b.1) = false) → ∀ x ∈ l.eraseP (fun x => k == x.1), (k == x.1) = false := by
  intro l hl x hx
  induction l with
  | nil => simp at hx
  | cons a l ih =>
    rw [List.pairwise_cons] at hl
    rw [List.eraseP_cons] at hx
    cases ha : (k == a.1) with
    | true =>
      rw [ha] at hx
      simp only [cond_true] at hx
      have h1 := hl.1 x hx
      have e : k = a.1 := (ba_iff _ _).1 ha
      rw [e]; exact h1
    | false =>
      rw [ha] at hx
      simp only [cond_false] at hx
      rcases List.mem_cons.1 hx with rfl | hx
      · exact ha
      · exact ih hl.2 hx
/-- Names refer to numbers of their own. -/
theorem ShOk.setB {G : ShelfG} (ok : ShOk G) (id : Int) (f : Book → Book) (hf : Soft f) (hp : ∀ b, bookAt G id = some b → 0 ≤ (f b).pins) (hc : ∀ y ∈ G.names, y.2.1 = id → ∀ b, bookAt G id = some b → (f b).cur = true) : ShOk (G.set id f) := by
  have hm : ∀ x ∈ (G.set id f).books, ∃ y ∈ G.books, x.1 = y.1 ∧ x.2.1.dict = y.2.1.dict ∧ (x.2.1.pins = y.2.1.pins ∨ (y.1 = id ∧ x.2.1 = f y.2.1)) := by
    intro x hx
    obtain ⟨y, hy, rfl⟩ := List.mem_map.1 hx
    refine ⟨y, hy, ?_⟩
    by_cases e : y.1 = id
    · rw [if_pos e]; exact ⟨rfl, (hf _).2.2.1, .inr ⟨e, rfl⟩⟩
    · rw [if_neg e]; exact ⟨rfl, rfl, .inl rfl⟩
  have hat : ∀ y ∈ G.books, y.1 = id → bookAt G id = some y.2.1 := by
    intro y hy e
    cases hb : bookAt G id with
    | none =>
      exfalso
      unfold bookAt getI at hb
      simp only [Option.map_eq_none_iff, List.find?_eq_none] at hb
      exact hb y hy (by simpa using e)
    | some b =>
      obtain ⟨s, hs⟩ := bookAt_mem hb
      rw [uniq_id ok.ids hy hs e]
  refine ⟨?_, ?_, ?_, ok.keys, ok.nids, ?_, ?_⟩
  · have : (G.set id f).books.map (·.1) = G.books.map (·.1) := by
      unfold ShelfG.set
      rw [List.map_map]
      apply List.map_congr_left
      intro x _
      simp only [Function.comp]
      split <;> rfl
    rw [this]; exact ok.ids
  · intro x hx
    obtain ⟨y, hy, e1, -, -⟩ := hm x hx
    rw [e1]; exact ok.pos y hy
  · intro y hy
    obtain ⟨b, hb, hcur⟩ := ok.named y hy
    rw [bookAt_set, hb]
    by_cases e : y.2.1 = id
    · refine ⟨f b, by simp [e], hc y hy e b (e ▸ hb)⟩
    · exact ⟨b, by simp [e], hcur⟩
  · intro x hx
    obtain ⟨y, hy, -, -, h | ⟨h1, h2⟩⟩ := hm x hx
    · rw [h]; exact ok.pins y hy
    · rw [h2]; exact hp _ (hat y hy h1)
  · intro x hx
    obtain ⟨y, hy, -, e, -⟩ := hm x hx
    rw [e]; exact ok.bytes y hy
theorem ShOk.delB {G : ShelfG} (ok : ShOk G) (id : Int) (hn : ∀ y ∈ G.names, y.2.1 ≠ id) : ShOk (G.del id) := by
  refine ⟨ok.ids.sublist (List.eraseP_sublist.map _), fun x hx => ok.pos x (List.mem_of_mem_eraseP hx), fun y hy => ?_, ok.keys, ok.nids, fun x hx => ok.pins x (List.mem_of_mem_eraseP hx), fun x hx => ok.bytes x (List.mem_of_mem_eraseP hx)⟩
  obtain ⟨b, hb, hc⟩ := ok.named y hy
  refine ⟨b, ?_, hc⟩
  unfold bookAt ShelfG.del
  rw [getI_del (hn y hy)]
  exact hb
theorem ShOk.lets {G : ShelfG} (ok : ShOk G) (id : Int) : ShOk (G.letsG id) := by
  unfold ShelfG.letsG
  cases hf : free G id with
  | false => exact ok
  | true =>
    refine ok.delB id (fun y hy e => ?_)
    obtain ⟨b, hb, hc⟩ := ok.named y hy
    unfold free at hf
    rw [← e, hb] at hf
    simp [hc] at hf
theorem ShOk.ret {G : ShelfG} (ok : ShOk G) (k : ByteArray) : ShOk (G.retG k) := by
  unfold ShelfG.retG
  cases hg : getS k G.names with
  | none => exact ok
  | some y =>
    refine ShOk.lets (ShOk.setB (unname_ok ok k) y.1 uncur soft_uncur ?_ ?_) y.1
    · intro b hb
      obtain ⟨s, hm⟩ := bookAt_mem hb
      exact ok.pins _ hm
    · intro z hz e
      exfalso
      have hne := getS_erase_ne ok.keys z hz
      have hz' : z ∈ G.names := List.mem_of_mem_eraseP hz
      obtain ⟨k', hk', hkk⟩ := getS_mem hg
      have huniq : ∀ {l : List (ByteArray × Int × Nat)}, (l.map (·.2.1)).Nodup → ∀ {a b}, a ∈ l → b ∈ l → a.2.1 = b.2.1 → a = b := by
        intro l
        induction l with
        | nil => intro _ a b ha; simp at ha
        | cons c l ih =>
          intro h a b ha hb e
          rw [List.map_cons, List.nodup_cons] at h
          rcases List.mem_cons.1 ha with h1 | h1 <;> rcases List.mem_cons.1 hb with h2 | h2
          · rw [h1, h2]
          · exact absurd (List.mem_map.2 ⟨b, h2, by rw [← e, h1]⟩) h.1
          · exact absurd (List.mem_map.2 ⟨a, h1, by rw [e, h2]⟩) h.1
          · exact ih h.2 h1 h2 e
      have := huniq ok.nids hz' hk' e
      rw [this] at hne
      rw [hne] at hkk
      cases hkk
def PlanG.retireG (G : PlanG) (k : ByteArray) : PlanG := ({ G with sh := G.sh.retG k } : PlanG).goneG (retR G.sh k)

set_option maxRecDepth 100000 in
theorem retire_plan (G : PlanG) (kind : Int) (name : ByteArray) (level handle : Int) (dv : Value) (w : World) (h : IsPlan w G) (ok : PlOk G) (hd : ∃ a n c, dv = .slice a n c) :
    Calls Tryz.prog 30 #[.pointer (some ⟨G.b, 0, none⟩), callV kind name level handle dv] w fun e w' => e = .returned (ansV (retE G.sh name) 0 (.slice none 0 0)) ∧ IsPlan w' (G.retireG name) ∧ Upd G.blocks w w' := by
  obtain ⟨a, n, cp, rfl⟩ := hd
  have hc := cell_of h.plan
  have hs := lt_of_heap h.plan
  have H := Lib.hid h
  have OK := Lib.hid ok
  obtain ⟨⟨a1, a2, a3, a4⟩, ⟨b1, b2, b3⟩, ⟨c1, c2⟩, d1, e1⟩ := PlanG.nd_parts h.nd
  clear h ok
  unfold callV
  go_enter Tryz.func30, Tryz.ntmps30
  go_wp2_with fail
  have U0 : Upd [] w ((w.alloc (.cells #[.int .i64 kind, .string name, .int .i64 level, .int .i64 handle, .slice a n cp] 30)).alloc (.cells #[.int .i64 0, .int .i64 0, .slice none 0 0] 27)) := by (with_reducible (repeat (first | exact Upd.refl _ _ | refine Upd.alloc ?_ _ | refine Upd.drew ?_ | refine Upd.drewN ?_ _ | refine Upd.setCell ?_ (by first | (left; simp; done) | (right; simp; done) | (right; simp; omega)) _)))
  have B5 : Hid (((w.alloc (.cells #[.int .i64 kind, .string name, .int .i64 level, .int .i64 handle, .slice a n cp] 30)).alloc (.cells #[.int .i64 0, .int .i64 0, .slice none 0 0] 27)).heap[w.heap.size]? = some (.cells #[.int .i64 kind, .string name, .int .i64 level, .int .i64 handle, .slice a n cp] 30 (0, 0))) := heap_old (heap_new w _)
  have B6 : Hid (((w.alloc (.cells #[.int .i64 kind, .string name, .int .i64 level, .int .i64 handle, .slice a n cp] 30)).alloc (.cells #[.int .i64 0, .int .i64 0, .slice none 0 0] 27)).heap[w.heap.size + 1]? = some (.cells #[.int .i64 0, .int .i64 0, .slice none 0 0] 27 (0, 0))) := heap_new' (by simp)
  generalize (w.alloc (.cells #[.int .i64 kind, .string name, .int .i64 level, .int .i64 handle, .slice a n cp] 30)).alloc (.cells #[.int .i64 0, .int .i64 0, .slice none 0 0] 27) = w0 at *
  have P0 := Lib.hid (H.out.upd U0 (by simp))
  have HU0 := Lib.hid U0
  have c0 := cell_of P0.out.plan
  have c5 := cell_of B5.out
  clear hc U0
  have s0 := lt_of_heap P0.out.plan
  have s5 := lt_of_heap B5.out
  have n5 : w.heap.size ∉ G.sh.blocks := fun e => by have := H.out.lt _ (show w.heap.size ∈ G.blocks by simp [PlanG.blocks, e]); omega
  have P1 := Lib.hid (P0.out.upd (S := []) (w' := w0.drew) (by (with_reducible (repeat (first | exact Upd.refl _ _ | refine Upd.alloc ?_ _ | refine Upd.drew ?_ | refine Upd.drewN ?_ _ | refine Upd.setCell ?_ (by first | (left; simp; done) | (right; simp; done) | (right; simp; omega)) _)))) (by simp))
  go_region_held3 (fun w' => w'.cell? ⟨G.b, 1, none⟩ = some (.pointer (some ⟨G.sh.b, 0, none⟩)) ∧ w'.cell? ⟨w.heap.size, 1, none⟩ = some (.string name)) (first | (refine ⟨(U1.cell (by first | exact s0 | (simp; omega)) a4).trans ?_, (U1.cell (by first | exact s5 | (simp; omega)) n5).trans ?_⟩ <;> (simp [*]; done)) | go_keep) (first | (go_at_call 51; refine (retire_any G.sh name _ P1.out.shelf OK.out.sh e1).mono ?_; rintro e w1 ⟨rfl, S1, U1⟩))
  have P2 := Lib.hid (P1.out.setShelf U1 S1 (retG_b _ _) (fun k hk => .inl ((retG_sub G.sh name).subset hk)) (e1.sublist (retG_sub G.sh name)))
  have UT : Upd G.sh.blocks w w1 := (HU0.out.mono (by simp)).trans (Upd.trans (by (with_reducible (repeat (first | exact Upd.refl _ _ | refine Upd.alloc ?_ _ | refine Upd.drew ?_ | refine Upd.drewN ?_ _ | refine Upd.setCell ?_ (by first | (left; simp; done) | (right; simp; done) | (right; simp; omega)) _)))) U1)
  have n6 : w.heap.size + 1 ∉ G.sh.blocks := fun e => by have := H.out.lt _ (show w.heap.size + 1 ∈ G.blocks by simp [PlanG.blocks, e]); omega
  have B7 := Lib.hid (U1.blk (show w0.drew.heap[w.heap.size + 1]? = _ from B6.out) n6)
  have HUT := Lib.hid UT
  clear U1 S1 UT c0 c5
  go_wp2_with fail
  refine (gone_any _ (retR G.sh name) _ P2.out (PlOk.loadOf (G := { G with sh := G.sh.retG name }) ⟨ShOk.ret OK.out.sh name, OK.out.loads⟩ _)).mono ?_
  rintro e w2 ⟨rfl, P3, U3⟩
  have nl : w.heap.size + 1 ∉ [G.lo, G.pb] := fun e => by
    have h1 := H.out.lt G.lo (by simp [PlanG.blocks])
    have h2 := H.out.lt G.pb (by simp [PlanG.blocks])
    simp at e
    omega
  have B8 := Lib.hid (U3.blk B7.out nl)
  have HP3 := Lib.hid P3
  have HU3 := Lib.hid U3
  have c6 := cell_of B8.out
  have f6 := froz_of B8.out
  clear P3 U3
  go_wp2
  have qq := cell_of (heap_setCell_at (heap_setCell_at (heap_setCell_at B8.out 0 (.int .i64 (retE G.sh name))) 1 (.int .i64 0)) 2 (.slice none 0 0))
  simp only [List.setIfInBounds_toArray, List.set_cons_zero, List.set_cons_succ] at qq
  have U9 : Upd [w.heap.size + 1] w2 (((w2.setCell ⟨w.heap.size + 1, 0, none⟩ (.int .i64 (retE G.sh name))).setCell ⟨w.heap.size + 1, 1, none⟩ (.int .i64 0)).setCell ⟨w.heap.size + 1, 2, none⟩ (.slice none 0 0)) := by (with_reducible (repeat (first | exact Upd.refl _ _ | refine Upd.alloc ?_ _ | refine Upd.drew ?_ | refine Upd.drewN ?_ _ | refine Upd.setCell ?_ (by first | (left; simp; done) | (right; simp; done) | (right; simp; omega)) _)))
  refine bodyPost_ret (v := ansV (retE G.sh name) 0 (.slice none 0 0)) (by simp [results, Tryz.results30, go_sem, ansV, qq]) rfl ⟨rfl, HP3.out.upd U9 ?_, ?_⟩
  · intro k hk e
    have hk2 : k ∈ G.blocks := by
      simp only [PlanG.blocks, PlanG.goneG, List.mem_cons] at hk ⊢
      rcases hk with h | h | h | h | h
      · exact .inl h
      · exact .inr (.inl h)
      · exact .inr (.inr (.inl h))
      · exact .inr (.inr (.inr (.inl h)))
      · exact .inr (.inr (.inr (.inr ((retG_sub G.sh name).subset h))))
    have := H.out.lt k hk2
    simp at e
    omega
  · refine Upd.drop (S := (w.heap.size + 1) :: G.blocks) (((HUT.out.mono ?_).trans (HU3.out.mono ?_)).trans (U9.mono (by simp))) ?_
    · intro k hk; simp [PlanG.blocks, hk]
    · intro k hk; simp at hk; rcases hk with rfl | rfl <;> simp [PlanG.blocks]
    · intro k hk
      rcases List.mem_cons.1 hk with rfl | hk
      · exact .inr (by omega)
      · exact .inl hk
end Go.Proofs.YtmcnjikafppccaaGreat
