/- shelf: retires, Retire, Unpin, Pin, in memory. -/
import Derived.Test.YtmcnjikafppccaaGreatShelfOps
namespace Go.Proofs.YtmcnjikafppccaaGreat
open Go.RowKit

theorem run_names2 {w : World} {G : ShelfG} (h : w.heap[G.nm]? = some (mapS (G.names.map nameEnt) G.c2)) (k : ByteArray) :
    (Instr.lookup 73 (.map (some G.nm)) (.string k) true).run Tryz.prog w = .ok (.tuple #[.int .i64 (idAt G k), .bool (getS k G.names).isSome]) w := by
  have e : getS k (G.names.map nameEnt) = (getS k G.names).map (fun y => (Value.int .i64 y.1, y.2)) := getS_map (fun y : Int × Nat => (Value.int .i64 y.1, y.2)) k G.names
  cases hg : getS k G.names with
  | none =>
    rw [hg] at e
    rw [run_lookupS_miss Tryz.underlying73 Tryz.underlying9 h e (zero_int w)]
    simp [idAt, hg]
  | some y =>
    rw [hg] at e
    rw [run_lookupS_hit Tryz.underlying73 Tryz.underlying9 h e]
    simp [idAt, hg]
theorem getS_mem {α : Type} {k : ByteArray} {l : List (ByteArray × α)} {v : α} (h : getS k l = some v) : ∃ k', (k', v) ∈ l ∧ (k == k') = true := by
  unfold getS at h
  cases hf : l.find? (fun x => k == x.1) with
  | none => rw [hf] at h; simp at h
  | some x =>
    rw [hf] at h
    have h1 := List.find?_some hf
    have h2 := List.mem_of_find?_eq_some hf
    have : x.2 = v := by simpa using h
    exact ⟨x.1, by rw [← this]; exact h2, h1⟩
def uncur (x : Book) : Book := { x with cur := false }
theorem soft_uncur : Soft uncur := fun _ => ⟨rfl, rfl, rfl, rfl⟩
def ShelfG.retG (G : ShelfG) (k : ByteArray) : ShelfG := match getS k G.names with
  | none => G
  | some y => ((G.unname k).set y.1 uncur).letsG y.1
def retR (G : ShelfG) (k : ByteArray) : Int := match getS k G.names with
  | none => 0
  | some y => letsR ((G.unname k).set y.1 uncur) y.1
theorem unname_ok {G : ShelfG} (ok : ShOk G) (k : ByteArray) : ShOk (G.unname k) :=
  ⟨ok.ids, ok.pos, fun y hy => ok.named y (List.mem_of_mem_eraseP hy), ok.keys.sublist List.eraseP_sublist, ok.nids.sublist (List.eraseP_sublist.map _), ok.pins, ok.bytes⟩

set_option maxRecDepth 100000 in
theorem retires_any (G : ShelfG) (k : ByteArray) (w : World) (h : IsShelf w G) (ok : ShOk G) (hnd : G.blocks.Nodup) :
    Calls Tryz.prog 64 #[.pointer (some ⟨G.b, 0, none⟩), .string k] w fun e w' => e = .returned (.int .i64 (retR G k)) ∧ IsShelf w' (G.retG k) ∧ Upd G.blocks w w' := by
  have hc := cell_of h.shelf
  have hl := run_names2 h.names k
  have H := Lib.hid h
  have HN := Lib.hid hnd
  have OK := Lib.hid ok
  unfold retR ShelfG.retG
  cases hg : getS k G.names with
  | none =>
    simp only [hg, Option.isSome_none] at hl
    clear h hnd ok hg
    go_enter Tryz.func64, Tryz.ntmps64
    go_wp2
    go_ret
    exact ⟨rfl, H.out, Upd.refl _ _⟩
  | some y =>
    obtain ⟨k', hk', -⟩ := getS_mem hg
    obtain ⟨b, hb, hcur⟩ := ok.named _ hk'
    obtain ⟨s, hm⟩ := bookAt_mem hb
    have hid : idAt G k = y.1 := by unfold idAt; rw [hg]; rfl
    simp only [hg, Option.isSome_some, hid] at hl
    have hd := del_names (G := G) h.names k 0
    have U1 : Upd [G.nm] w (putB w G.nm (mapS ((G.unname k).names.map nameEnt) G.c2)) := (Upd.refl _ _).putB (.inl (by simp)) _
    have S1 := Lib.hid (h.delName hnd k U1 (heap_putB h.names))
    have HU1 := Lib.hid U1
    have HB := Lib.hid hb
    have HM := Lib.hid hm
    have hl2 : (Instr.lookup 72 (.map (some G.bm)) (.int .i64 y.1) false).run Tryz.prog (putB w G.nm (mapS ((G.unname k).names.map nameEnt) G.c2)) = .ok (.pointer (some ⟨b.b, 0, none⟩)) (putB w G.nm (mapS ((G.unname k).names.map nameEnt) G.c2)) := by
      have := run_books S1.out.books y.1 false
      rw [show bookAt (G.unname k) y.1 = some b from HB.out] at this
      exact this
    have hb1 := (S1.out.book _ HM.out).1
    have hk := cell_of hb1
    have hf := froz_of hb1
    have hc1 : ∀ o, (putB w G.nm (mapS ((G.unname k).names.map nameEnt) G.c2)).cell? ⟨G.b, o, none⟩ = #[.map (some G.bm), .map (some G.nm), .int .i64 G.last][o]? := cell_of S1.out.shelf
    have HB1 := Lib.hid hb1
    clear h hnd ok hg hk' hb hcur hm hid U1 hb1
    go_enter Tryz.func64, Tryz.ntmps64
    go_wp2_with fail
    generalize putB w G.nm (mapS ((G.unname k).names.map nameEnt) G.c2) = w1 at *
    have U2 : Upd [b.b] w1 (w1.setCell ⟨b.b, 1, none⟩ (.bool false)) := by (with_reducible (repeat (first | exact Upd.refl _ _ | refine Upd.alloc ?_ _ | refine Upd.drew ?_ | refine Upd.drewN ?_ _ | refine Upd.setCell ?_ (by first | (left; simp; done) | (right; simp; done) | (right; simp; omega)) _)))
    have S2 := S1.out.setBook (unname_ok OK.out k) HN.out HM.out soft_uncur U2 ((heap_setCell_at HB1.out 1 _).trans (by simp [bookO, uncur, Book.dv]))
    have hn2 : ((G.unname k).set y.1 uncur).blocks.Nodup := by rw [set_blocks _ _ _ soft_uncur]; exact HN.out
    refine (lets_any _ y.1 _ S2 hn2).mono ?_
    rintro e w2 ⟨rfl, S3, U3⟩
    have HS3 := Lib.hid S3
    have HU3 := Lib.hid U3
    have HU2 := Lib.hid U2
    clear S3 U3 U2 S2 hn2 hk hf hc1 hl2 hd hl hc
    go_wp2
    go_ret
    refine ⟨rfl, HS3.out, ((HU1.out.mono ?_).trans (HU2.out.mono ?_)).trans (HU3.out.mono ?_)⟩
    · intro x hx; simp at hx; subst hx; simp [ShelfG.blocks]
    · intro x hx; simp at hx; subst hx; exact (book_in (G := G) HM.out).1
    · intro x hx; simp at hx; subst hx; simp [ShelfG.blocks, ShelfG.set, ShelfG.unname]

theorem idAt_none {G : ShelfG} {k : ByteArray} (h : getS k G.names = none) : idAt G k = 0 := by unfold idAt; rw [h]; rfl
theorem idAt_pos {G : ShelfG} (ok : ShOk G) {k : ByteArray} {y : Int × Nat} (h : getS k G.names = some y) : idAt G k = y.1 ∧ 1 ≤ y.1 := by
  obtain ⟨k', hk', -⟩ := getS_mem h
  obtain ⟨b, hb, -⟩ := ok.named _ hk'
  obtain ⟨s, hm⟩ := bookAt_mem hb
  exact ⟨by unfold idAt; rw [h]; rfl, (ok.pos _ hm).1⟩
def retE (G : ShelfG) (k : ByteArray) : Int := if idAt G k = 0 then 5 else 0

theorem retire_any (G : ShelfG) (k : ByteArray) (w : World) (h : IsShelf w G) (ok : ShOk G) (hnd : G.blocks.Nodup) :
    Calls Tryz.prog 51 #[.pointer (some ⟨G.b, 0, none⟩), .string k] w fun e w' => e = .returned (.tuple #[.int .i64 (retR G k), .int .i64 (retE G k)]) ∧ IsShelf w' (G.retG k) ∧ Upd G.blocks w w' := by
  have H := Lib.hid h
  have HN := Lib.hid hnd
  have OK := Lib.hid ok
  cases hg : getS k G.names with
  | none =>
    have hid := idAt_none hg
    have e1 : retR G k = 0 := by unfold retR; rw [hg]
    have e2 : G.retG k = G := by unfold ShelfG.retG; rw [hg]
    have e3 : retE G k = 5 := by unfold retE; rw [if_pos hid]
    rw [e1, e2, e3]
    have HID := Lib.hid hid
    clear h ok hnd hg hid e1 e2 e3
    go_enter Tryz.func51, Tryz.ntmps51
    go_wp2_with (go_at_call 54; refine (at_any _ _ _ H.out).mono ?_; rintro e w' ⟨he, rfl⟩; rw [HID.out] at he; subst he)
    go_ret2
    exact ⟨rfl, H.out, Upd.refl _ _⟩
  | some y =>
    obtain ⟨hid, hpos⟩ := idAt_pos ok hg
    have e3 : retE G k = 0 := by unfold retE; rw [if_neg (by omega)]
    rw [e3]
    have hne : (y.1 == 0) = false := by simp; omega
    have HID := Lib.hid hid
    clear h ok hnd hg hid e3
    go_enter Tryz.func51, Tryz.ntmps51
    go_wp2_with (first | (go_at_call 54; refine (at_any _ _ _ H.out).mono ?_; rintro e w' ⟨he, rfl⟩; rw [HID.out] at he; subst he) | (go_at_call 64; refine (retires_any G k _ H.out OK.out HN.out).mono ?_; rintro e w' ⟨rfl, hS, hU⟩))
    go_ret2
    exact ⟨rfl, hS, hU⟩

def dec (x : Book) : Book := { x with pins := x.pins - 1 }
def incr (x : Book) : Book := { x with pins := x.pins + 1 }
theorem soft_dec : Soft dec := fun _ => ⟨rfl, rfl, rfl, rfl⟩
theorem soft_incr : Soft incr := fun _ => ⟨rfl, rfl, rfl, rfl⟩
def ShelfG.unpinG (G : ShelfG) (id : Int) : ShelfG := match bookAt G id with
  | none => G
  | some b => if b.pins = 0 then G else (G.set id dec).letsG id
def unpinR (G : ShelfG) (id : Int) : Bool := match bookAt G id with
  | none => false
  | some b => if b.pins = 0 then false else free (G.set id dec) id

set_option maxRecDepth 100000 in
theorem unpin_any (G : ShelfG) (id : Int) (w : World) (h : IsShelf w G) (ok : ShOk G) (hnd : G.blocks.Nodup) (hp : ∀ x ∈ G.books, x.2.1.pins ≤ 1000000) :
    Calls Tryz.prog 56 #[.pointer (some ⟨G.b, 0, none⟩), .int .i64 id] w fun e w' => e = .returned (.bool (unpinR G id)) ∧ IsShelf w' (G.unpinG id) ∧ Upd G.blocks w w' := by
  have H := Lib.hid h
  have HN := Lib.hid hnd
  have OK := Lib.hid ok
  unfold unpinR ShelfG.unpinG
  cases hb : bookAt G id with
  | none =>
    have HB : Hid (bookPtr (bookAt G id) = .pointer none) := by unfold Hid; rw [hb]; rfl
    clear h ok hnd hb hp
    go_enter Tryz.func56, Tryz.ntmps56
    go_wp2_with (go_at_call 65; refine (book_any _ _ _ H.out).mono ?_; rintro e w' ⟨he, rfl⟩; rw [HB.out] at he; subst he)
    go_ret
    exact ⟨rfl, H.out, Upd.refl _ _⟩
  | some b =>
    have HB : Hid (bookPtr (bookAt G id) = .pointer (some ⟨b.b, 0, none⟩)) := by unfold Hid; rw [hb]; rfl
    obtain ⟨s, hm⟩ := bookAt_mem hb
    have hb1 := (h.book _ hm).1
    have hk := cell_of hb1
    have hf := froz_of hb1
    have HB1 := Lib.hid hb1
    have HM := Lib.hid hm
    have p0 := ok.pins _ hm
    have p1 := hp _ hm
    have i0 := (ok.pos _ hm).1
    simp only at p0 p1 i0 hk
    by_cases h0 : b.pins = 0
    · simp only [if_pos h0]
      rw [h0] at hk
      clear h ok hnd hb hm hb1 p0 p1 hp h0
      go_enter Tryz.func56, Tryz.ntmps56
      go_wp2_with (go_at_call 65; refine (book_any _ _ _ H.out).mono ?_; rintro e w' ⟨he, rfl⟩; rw [HB.out] at he; subst he)
      go_ret
      exact ⟨rfl, H.out, Upd.refl _ _⟩
    · simp only [if_neg h0]
      have hne : (b.pins == 0) = false := by simpa using h0
      clear h ok hnd hb hm hb1 hp h0
      go_enter Tryz.func56, Tryz.ntmps56
      go_wp2_with (go_at_call 65; refine (book_any _ _ _ H.out).mono ?_; rintro e w' ⟨he, hw⟩; have hw := hw.symm; subst hw; rw [HB.out] at he; subst he)
      have U2 : Upd [b.b] w (w.setCell ⟨b.b, 2, none⟩ (.int .i64 (b.pins - 1))) := by (with_reducible (repeat (first | exact Upd.refl _ _ | refine Upd.alloc ?_ _ | refine Upd.drew ?_ | refine Upd.drewN ?_ _ | refine Upd.setCell ?_ (by first | (left; simp; done) | (right; simp; done) | (right; simp; omega)) _)))
      have S2 := H.out.setBook OK.out HN.out HM.out soft_dec U2 ((heap_setCell_at HB1.out 2 _).trans (by simp [bookO, dec, Book.dv]))
      have hn2 : (G.set id dec).blocks.Nodup := by rw [set_blocks _ _ _ soft_dec]; exact HN.out
      refine (lets_any _ id _ S2 hn2).mono ?_
      rintro e w2 ⟨rfl, S3, U3⟩
      have HS3 := Lib.hid S3
      have HU3 := Lib.hid U3
      have HU2 := Lib.hid U2
      have hfr : decide (0 < letsR (G.set id dec) id) = free (G.set id dec) id := by
        unfold letsR
        cases free (G.set id dec) id
        · rfl
        · simp; omega
      have HFR := Lib.hid hfr
      clear S3 U3 U2 S2 hn2 hk hf hfr
      go_wp2
      go_ret
      refine ⟨?_, HS3.out, (HU2.out.mono ?_).trans (HU3.out.mono ?_)⟩
      · rw [HFR.out]; rfl
      · intro x hx; simp at hx; subst hx; exact (book_in (G := G) HM.out).1
      · intro x hx; simp at hx; subst hx; simp [ShelfG.blocks, ShelfG.set]
end Go.Proofs.YtmcnjikafppccaaGreat
