/- shelf.Pin of a dictionary that is there; plan.unpins. -/
import Derived.Test.YtmcnjikafppccaaGreatPlanLoad
namespace Go.Proofs.YtmcnjikafppccaaGreat
open Go.RowKit

theorem Rd.of_row {w : World} {db cap : Nat} {l : List UInt8} (h : RowOf w db l cap) : Rd w (.slice (some ⟨db, 0, none⟩) l.length cap) (l.map B) := by
  obtain ⟨cs, h1, h2, h3, h4⟩ := h
  refine .inr ⟨⟨db, 0, none⟩, cap, by simp, by simpa using h2, fun j u hu => ?_⟩
  rw [add_none, cell_of h1]
  rw [List.getElem?_map] at hu
  cases hj : l[j]? with
  | none => rw [hj] at hu; cases hu
  | some x =>
    obtain ⟨hl, rfl⟩ := List.getElem?_eq_some_iff.1 hj
    rw [hj] at hu
    simp only [Nat.zero_add]
    rw [h4 j hl]
    simpa [B] using hu

set_option maxRecDepth 100000 in
theorem pin_ok (G : ShelfG) (k : ByteArray) (id : Int) (b : Book) (w : World) (h : IsShelf w G) (ok : ShOk G) (hnd : G.blocks.Nodup) (hid : idAt G k = id) (h0 : id ≠ 0) (hb : bookAt G id = some b) (hp : b.pins ≤ 1000000) :
    Calls Tryz.prog 40 #[.pointer (some ⟨G.b, 0, none⟩), .string k] w fun e w' => ∃ v', e = .returned (.tuple #[.int .i64 id, v', .int .i64 0]) ∧ w'.ownsRow w.heap.size 5 1 v' b.dict.length (b.dict.map B) ∧ IsShelf w' (G.set id incr) ∧ Upd [b.b] w w' := by
  obtain ⟨s, hm⟩ := bookAt_mem hb
  obtain ⟨hb1, hrow⟩ := h.book _ hm
  have hk := cell_of hb1
  have hf := froz_of hb1
  have hc := cell_of h.shelf
  have p0 := ok.pins _ hm
  have hdl := ok.bytes _ hm
  simp only at p0 hdl hk hf hb1 hrow
  have hl : (Instr.lookup 72 (.map (some G.bm)) (.int .i64 id) false).run Tryz.prog w = .ok (.pointer (some ⟨b.b, 0, none⟩)) w := by
    have := run_books h.books id false
    rw [hb] at this
    exact this
  have hne : (id == 0) = false := by simpa using h0
  have HB1 := Lib.hid hb1
  have HM := Lib.hid hm
  have HROW := Lib.hid hrow
  have HID := Lib.hid hid
  have H := Lib.hid h
  have OK := Lib.hid ok
  have HN := Lib.hid hnd
  have hdb := book_self hnd hm
  simp only at hdb
  have HDL := Lib.hid hdl
  clear h ok hnd hid hb hb1 hrow hm h0 hdl
  go_enter Tryz.func40, Tryz.ntmps40
  go_wp2_with (go_at_call 54; refine (at_any _ _ _ H.out).mono ?_; rintro e w' ⟨he, hw⟩; have hw := hw.symm; subst hw; rw [HID.out] at he; subst he)
  have U2 : Upd [b.b] w (w.setCell ⟨b.b, 2, none⟩ (.int .i64 (b.pins + 1))) := by (with_reducible (repeat (first | exact Upd.refl _ _ | refine Upd.alloc ?_ _ | refine Upd.drew ?_ | refine Upd.drewN ?_ _ | refine Upd.setCell ?_ (by first | (left; simp; done) | (right; simp; done) | (right; simp; omega)) _)))
  have S2 := H.out.setBook OK.out HN.out HM.out soft_incr U2 ((heap_setCell_at HB1.out 2 _).trans (by simp [bookO, incr, Book.dv]))
  refine (clone_any _ b.dict _ (Rd.of_row (HROW.out.upd U2 (by rw [List.mem_singleton]; exact hdb))) (by have := HDL.out; omega)).mono ?_
  rintro e w3 ⟨v3, rfl, U3, o3, -⟩
  have S3 := Lib.hid (S2.upd U3 (by simp))
  have HU3 := Lib.hid (U2.trans (U3.mono (S' := [b.b]) (by simp)))
  have HO3 := Lib.hid o3
  clear U2 S2 U3 o3 hk hf hc hl
  go_wp2
  go_ret3
  exact ⟨_, rfl, by simpa using HO3.out, S3.out, HU3.out⟩

def PlanG.unpinsG (G : PlanG) (id : Int) : PlanG := if unpinR G.sh id then ({ G with sh := G.sh.unpinG id } : PlanG).goneG id else { G with sh := G.sh.unpinG id }
theorem unpinG_sub (G : ShelfG) (id : Int) : (G.unpinG id).blocks.Sublist G.blocks := by
  unfold ShelfG.unpinG
  split
  · exact List.Sublist.refl _
  · split
    · exact List.Sublist.refl _
    · unfold ShelfG.letsG
      split
      · refine (del_sub _ _).trans ?_
        rw [set_blocks _ _ _ soft_dec]
        exact List.Sublist.refl _
      · rw [set_blocks _ _ _ soft_dec]
        exact List.Sublist.refl _
theorem unpinG_b (G : ShelfG) (id : Int) : (G.unpinG id).b = G.b := by
  unfold ShelfG.unpinG
  split
  · rfl
  · split
    · rfl
    · unfold ShelfG.letsG; split <;> rfl
theorem unpins_sub (G : PlanG) (id : Int) : (G.unpinsG id).blocks.Sublist G.blocks := by
  unfold PlanG.unpinsG
  split
  · exact List.Sublist.cons_cons _ (List.Sublist.cons_cons _ (List.Sublist.cons_cons _ (List.Sublist.cons_cons _ (unpinG_sub _ _))))
  · exact List.Sublist.cons_cons _ (List.Sublist.cons_cons _ (List.Sublist.cons_cons _ (List.Sublist.cons_cons _ (unpinG_sub _ _))))

set_option maxRecDepth 100000 in
theorem unpins_any (G : PlanG) (id : Int) (w : World) (h : IsPlan w G) (ok : PlOk G) (hp : ∀ x ∈ G.sh.books, x.2.1.pins ≤ 1000000) :
    Calls Tryz.prog 42 #[.pointer (some ⟨G.b, 0, none⟩), .int .i64 id] w fun e w' => e = .returned (.tuple #[]) ∧ IsPlan w' (G.unpinsG id) ∧ Upd G.blocks w w' := by
  have hc := cell_of h.plan
  have H := Lib.hid h
  have OK := Lib.hid ok
  have HP := Lib.hid hp
  obtain ⟨⟨a1, a2, a3, a4⟩, ⟨b1, b2, b3⟩, ⟨c1, c2⟩, d1, e1⟩ := PlanG.nd_parts h.nd
  clear h ok hp
  have hU1 := unpin_any G.sh id w H.out.shelf OK.out.sh e1 HP.out
  unfold PlanG.unpinsG
  cases hr : unpinR G.sh id with
  | false =>
    rw [hr] at hU1
    have HU1 := Lib.hid hU1
    clear hU1 hr
    simp only [Bool.false_eq_true, if_false]
    go_enter Tryz.func42, Tryz.ntmps42
    go_wp2_with (go_at_call 56; refine HU1.out.mono ?_; rintro e w1 ⟨rfl, S1, U1⟩)
    have P1 := H.out.setShelf U1 S1 (unpinG_b _ _) (fun k hk => .inl ((unpinG_sub G.sh id).subset hk)) (e1.sublist (unpinG_sub G.sh id))
    go_end0
    exact ⟨rfl, P1, U1.mono (by intro x hx; simp [PlanG.blocks, hx])⟩
  | true =>
    rw [hr] at hU1
    have HU1 := Lib.hid hU1
    clear hU1 hr
    simp only [if_true]
    go_enter Tryz.func42, Tryz.ntmps42
    go_wp2_with (go_at_call 56; refine HU1.out.mono ?_; rintro e w1 ⟨rfl, S1, U1⟩)
    have P1 := H.out.setShelf U1 S1 (unpinG_b _ _) (fun k hk => .inl ((unpinG_sub G.sh id).subset hk)) (e1.sublist (unpinG_sub G.sh id))
    have HUa := Lib.hid U1
    clear S1 U1
    refine (gone_any _ id _ P1 ?_).mono ?_
    · unfold loadOf
      cases hg : getI id G.loads with
      | none => simp
      | some y =>
        have := OK.out.loads _ (getI_mem hg)
        simp only [Option.map_some, Option.getD_some] at this ⊢
        omega
    · rintro e w2 ⟨rfl, P2, U2⟩
      have HP2 := Lib.hid P2
      have HU2 := Lib.hid U2
      clear P2 U2 P1 hc
      go_wp2
      go_end0
      exact ⟨rfl, HP2.out, (HUa.out.mono (by intro x hx; simp [PlanG.blocks, hx])).trans (HU2.out.mono (by intro x hx; simp at hx; rcases hx with rfl | rfl <;> simp [PlanG.blocks]))⟩
end Go.Proofs.YtmcnjikafppccaaGreat
