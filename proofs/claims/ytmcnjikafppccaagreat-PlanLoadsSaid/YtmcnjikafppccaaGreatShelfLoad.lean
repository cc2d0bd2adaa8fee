/- shelf.Load. -/
import Derived.Test.YtmcnjikafppccaaGreatPlanLoadNo
import Derived.Test.YtmcnjikafppccaaGreatBitOps
import Derived.Deep.DeepCutAuto
namespace Go.Proofs.YtmcnjikafppccaaGreat
open Go.RowKit

def ShelfG.addB (G : ShelfG) (d : List UInt8) (bb db cap : Nat) : ShelfG := { G with last := G.last + 1, books := G.books ++ [(G.last + 1, ⟨bb, db, d, cap, true, 0⟩, G.c1)], c1 := G.c1 + 1 }
def ShelfG.name (G : ShelfG) (k : ByteArray) : ShelfG := { G with names := G.names ++ [(k, G.last, G.c2)], c2 := G.c2 + 1 }
def ShelfG.loadG (G : ShelfG) (k : ByteArray) (d : List UInt8) (bb db cap : Nat) : ShelfG := ((G.retG k).addB d bb db cap).name k

theorem add_book {w : World} {bm : Nat} {G : ShelfG} (h : w.heap[bm]? = some (mapI (G.books.map bookEnt) G.c1)) (id : Int) (b : Book) (hn : getI id G.books = none) :
    (Instr.mapUpdate 72 (.map (some bm)) (.int .i64 id) (.pointer (some ⟨b.b, 0, none⟩))).run Tryz.prog w = .ok () (putB w bm (mapI ((G.books ++ [(id, b, G.c1)]).map bookEnt) (G.c1 + 1))) := by
  have e : getI id (G.books.map bookEnt) = (getI id G.books).map (fun y => (Value.pointer (some ⟨y.1.b, 0, none⟩), y.2)) := getI_map (fun y : Book × Nat => (Value.pointer (some ⟨y.1.b, 0, none⟩), y.2)) id G.books
  rw [hn] at e
  have := run_update_new (P := Tryz.prog) (.pointer (some ⟨b.b, 0, none⟩)) Tryz.underlying72 Tryz.underlying3 h e
  simpa [List.map_append, bookEnt] using this
theorem add_name {w : World} {nm : Nat} {G : ShelfG} (h : w.heap[nm]? = some (mapS (G.names.map nameEnt) G.c2)) (k : ByteArray) (id : Int) (hn : getS k G.names = none) :
    (Instr.mapUpdate 73 (.map (some nm)) (.string k) (.int .i64 id)).run Tryz.prog w = .ok () (putB w nm (mapS ((G.names ++ [(k, id, G.c2)]).map nameEnt) (G.c2 + 1))) := by
  have e : getS k (G.names.map nameEnt) = (getS k G.names).map (fun y => (Value.int .i64 y.1, y.2)) := getS_map (fun y : Int × Nat => (Value.int .i64 y.1, y.2)) k G.names
  rw [hn] at e
  have := run_updateS_new (P := Tryz.prog) (.int .i64 id) Tryz.underlying73 Tryz.underlying9 h e
  simpa [List.map_append, nameEnt] using this
theorem ret_noname {G : ShelfG} (ok : ShOk G) (k : ByteArray) : getS k (G.retG k).names = none := by
  unfold ShelfG.retG
  cases hg : getS k G.names with
  | none => exact hg
  | some y =>
    have e : ∀ (S : ShelfG) (id : Int), (S.letsG id).names = S.names := fun S id => by unfold ShelfG.letsG; split <;> rfl
    rw [e]
    show getS k (G.names.eraseP fun x => k == x.1) = none
    unfold getS
    rw [Option.map_eq_none_iff, List.find?_eq_none]
    intro x hx
    rw [getS_erase_ne ok.keys x hx]
    simp
theorem ret_last (G : ShelfG) (k : ByteArray) : (G.retG k).last = G.last := by
  unfold ShelfG.retG
  split
  · rfl
  · unfold ShelfG.letsG; split <;> rfl
theorem new_id {G : ShelfG} (ok : ShOk G) : getI (G.last + 1) G.books = none := by
  unfold getI
  rw [Option.map_eq_none_iff, List.find?_eq_none]
  intro x hx
  have := ok.pos x hx
  simp
  omega

theorem ShelfG.nd_parts {G : ShelfG} (h : G.blocks.Nodup) : G.b ≠ G.bm ∧ G.b ≠ G.nm ∧ G.bm ≠ G.nm ∧ ∀ x ∈ G.books, ∀ k, k = x.2.1.b ∨ k = x.2.1.db → k ≠ G.b ∧ k ≠ G.bm ∧ k ≠ G.nm := by
  unfold ShelfG.blocks at h
  simp only [List.nodup_cons, List.mem_cons, not_or] at h
  refine ⟨h.1.1, h.1.2.1, h.2.1.1, fun x hx k hk => ?_⟩
  have hm : k ∈ G.books.flatMap (fun x => [x.2.1.b, x.2.1.db]) := List.mem_flatMap.2 ⟨x, hx, by simpa using hk⟩
  exact ⟨fun e => h.1.2.2 (e ▸ hm), fun e => h.2.1.2 (e ▸ hm), fun e => h.2.2.1 (e ▸ hm)⟩
theorem RowOf.of_own {w : World} {base db n c : Nat} {l : List UInt8} (h : w.ownsRow base 5 1 (.slice (some ⟨db, 0, none⟩) n c) n (l.map B)) : RowOf w db l c := by
  have hl : n = l.length := by have := h.1; simp at this; omega
  rcases h.2 with ⟨h1, -⟩ | ⟨g, cap, cur, hv, -, hg, hn, -, hs, ht⟩
  · cases h1
  · simp only [Value.slice.injEq, Option.some.injEq, Addr.mk.injEq] at hv
    obtain ⟨⟨rfl, -⟩, -, rfl⟩ := hv
    refine ⟨cur, hg, by omega, by omega, fun i hi => ?_⟩
    have := congrArg (fun x => x[i]?) ht
    simp only [List.getElem?_take] at this
    rw [if_pos (by omega)] at this
    rw [← Array.getElem?_toList, this]
    simp [hi, B]

set_option maxRecDepth 100000 in
set_option maxHeartbeats 2000000 in
theorem load_ok (G : ShelfG) (k : ByteArray) (g o cp : Nat) (l : List UInt8) (w : World) (h : IsShelf w G) (ok : ShOk G) (hnd : G.blocks.Nodup) (hr : Rd w (.slice (some ⟨g, o, none⟩) l.length cp) (l.map B)) (hg : g ∉ G.blocks) (hi : isD k l = 0) (hk : k.size ≤ 1000000) (h5 : 5 ≤ l.length) (h6 : l.length ≤ 3200) (hcp : l.length ≤ cp) (hlast : G.last ≤ 1000000) (h0 : 0 ≤ G.last) :
    Calls Tryz.prog 49 #[.pointer (some ⟨G.b, 0, none⟩), .string k, .slice (some ⟨g, o, none⟩) l.length cp] w fun e w' => e = .returned (.tuple #[.int .i64 (G.last + 1), .int .i64 (retR G k), .int .i64 0]) ∧
      ∃ bb db cap, IsShelf w' (G.loadG k (l.drop 4) bb db cap) ∧ Upd G.blocks w w' ∧ w.heap.size ≤ bb ∧ w.heap.size ≤ db ∧ bb ≠ db := by
  have H := Lib.hid h
  have HN := Lib.hid hnd
  have OK := Lib.hid ok
  have HR := Lib.hid hr
  have HI := Lib.hid hi
  have HD : Hid (∃ a' c', Value.slice (some ⟨g, o, none⟩) l.length cp = .slice a' l.length c') := ⟨_, _, rfl⟩
  have i1 : (4 : Int) ≤ (l.length : Int) := by omega
  have i2 : (l.length : Int) ≤ (cp : Int) := by omega
  have i3 : ¬ cp = 4 := by omega
  clear h hnd ok hr hi
  go_enter Tryz.func49, Tryz.ntmps49
  go_wp2_with fail
  refine (is_any k _ l w HR.out HD.out (by omega) hk).mono ?_
  rintro e w' ⟨he, rfl⟩
  rw [HI.out] at he
  subst he
  go_wp2_with fail
  refine (retires_any G k w H.out OK.out HN.out).mono ?_
  rintro e w1 ⟨rfl, S1, U1⟩
  have hlast1 : (G.retG k).last = G.last := ret_last G k
  have hb1 : (G.retG k).b = G.b := retG_b G k
  have hsh := S1.shelf
  rw [hb1] at hsh
  have kc : ∀ o, w1.cell? ⟨G.b, o, none⟩ = #[.map (some (G.retG k).bm), .map (some (G.retG k).nm), .int .i64 G.last][o]? := by
    have := cell_of hsh
    rw [hlast1] at this
    exact this
  have kf := froz_of hsh
  have HSH := Lib.hid hsh
  have HS1 := Lib.hid S1
  have HU1 := Lib.hid U1
  have HL := Lib.hid hlast1
  have HB := Lib.hid hb1
  clear S1 U1 hsh hlast1 hb1
  go_wp2_with fail
  have U2 : Upd [G.b] w1 (w1.setCell ⟨G.b, 2, none⟩ (.int .i64 (G.last + 1))) := by (with_reducible (repeat (first | exact Upd.refl _ _ | refine Upd.alloc ?_ _ | refine Upd.drew ?_ | refine Upd.drewN ?_ _ | refine Upd.setCell ?_ (by first | (left; simp; done) | (right; simp; done) | (right; simp; omega)) _)))
  have SH2 := Lib.hid ((heap_setCell_at HSH.out 2 (.int .i64 (G.last + 1))).trans (show _ = some (.cells #[.map (some (G.retG k).bm), .map (some (G.retG k).nm), .int .i64 (G.last + 1)] 75 (0, 0)) from rfl))
  have HU2 := Lib.hid U2
  clear kc kf U2
  generalize w1.setCell ⟨G.b, 2, none⟩ (.int .i64 (G.last + 1)) = w2 at *
  have k2 := cell_of SH2.out
  have s2 := lt_of_heap SH2.out
  have hsl : Hid (Rd w2 (.slice (some ⟨g, o + 4, none⟩) (l.drop 4).length (cp - 4)) ((l.drop 4).map B)) := by
    have h1 := ((HR.out.upd HU1.out (fun x hx => by simp [Value.ownBlock] at hx; rw [← hx]; exact hg)).upd HU2.out (fun x hx e => by simp [Value.ownBlock] at hx; simp at e; exact hg (by rw [hx, e]; simp [ShelfG.blocks]))).sub 4 l.length (cp - 4) (by omega) (Nat.le_refl _) (by omega)
    have e1 : (l.drop 4).length = l.length - 4 := by simp
    rw [e1]
    have e2 : ((l.map B).take l.length).drop 4 = (l.drop 4).map B := by rw [List.take_of_length_le (by simp), List.map_drop]
    rw [e2] at h1
    exact h1
  have hlen : (l.drop 4).length = l.length - 4 := by simp
  have hcl : ∀ wx, Upd [] w2 wx → Calls Tryz.prog 55 #[.slice (some ⟨g, o + 4, none⟩) (l.length - 4) (cp - 4)] wx fun e w' => ∃ v', e = .returned v' ∧ Upd [] wx w' ∧ w'.ownsRow wx.heap.size 5 1 v' (l.length - 4) ((l.drop 4).map B) := by
    intro wx hx
    have := clone_any _ (l.drop 4) wx (hsl.out.upd (S := []) hx (fun _ _ => by simp)) (by rw [hlen]; omega)
    rw [hlen] at this
    exact this.mono fun e w' ⟨v', a, b, c, _⟩ => ⟨v', a, b, c⟩
  have HCL := Lib.hid hcl
  clear hlen hcl
  have hbk : getI (G.last + 1) (G.retG k).books = none := by have := new_id (OK.out.ret k); rw [HL.out] at this; exact this
  have nb : G.b ≠ (G.retG k).bm := by
    have := (List.nodup_cons.1 (HN.out.sublist (retG_sub G k))).1
    rw [HB.out] at this
    simp only [List.mem_cons, not_or] at this
    exact this.1
  have bk2 := Lib.hid (HU2.out.blk HS1.out.books (by
    have := (List.nodup_cons.1 (HN.out.sublist (retG_sub G k))).1
    rw [HB.out] at this
    simp only [List.mem_cons, not_or] at this
    exact ne1 (fun e => this.1 e.symm)))
  go_region_held3 (fun w' => w'.cell? ⟨G.b, 0, none⟩ = some (.map (some (G.retG k).bm)) ∧ w'.cell? ⟨G.b, 2, none⟩ = some (.int .i64 (G.last + 1))) (first | (refine ⟨(hU3.cell (by first | exact s2 | (simp; omega)) (by simp)).trans ?_, (hU3.cell (by first | exact s2 | (simp; omega)) (by simp)).trans ?_⟩ <;> (simp [*]; done)) | (refine ⟨(cell_putB nb).trans ?_, (cell_putB nb).trans ?_⟩ <;> (simp [*]; done)) | go_keep) (first | (go_at_call 55; refine (HCL.out _ (by (with_reducible (repeat (first | exact Upd.refl _ _ | refine Upd.alloc ?_ _ | refine Upd.drew ?_ | refine Upd.drewN ?_ _ | refine Upd.setCell ?_ (by first | (left; simp; done) | (right; simp; done) | (right; simp; omega)) _))))).mono ?_; rintro e w3 ⟨v3, rfl, hU3, ho3⟩; obtain ⟨db, c3, rfl, hdb, hdb2, -⟩ := own_cells ho3 (by omega); have hup := add_book (w := w3.alloc (.cells #[.slice (some ⟨db, 0, none⟩) (l.length - 4) c3, .bool true, .int .i64 0] 97)) (G := G.retG k) (heap_old (hU3.blk bk2.out (by simp))) (G.last + 1) ⟨w3.heap.size, db, l.drop 4, c3, true, 0⟩ hbk))
  have HU3 := Lib.hid hU3
  have HO3 := Lib.hid ho3
  obtain ⟨m1, m2, m3, m4⟩ := ShelfG.nd_parts (HN.out.sublist (retG_sub G k))
  rw [HB.out] at m1 m2
  have z2 := HU2.out.size
  have z3 : w2.heap.size ≤ w3.heap.size := hU3.size
  have l0 : w1.heap.size ≤ w3.heap.size := by omega
  have hlt1 := HS1.out.lt
  have U4 : Upd [G.b, (G.retG k).bm] w1 (putB (w3.alloc (.cells #[.slice (some ⟨db, 0, none⟩) (l.length - 4) c3, .bool true, .int .i64 0] 97)) (G.retG k).bm (mapI (((G.retG k).books ++ [(G.last + 1, (⟨w3.heap.size, db, l.drop 4, c3, true, 0⟩ : Book), (G.retG k).c1)]).map bookEnt) ((G.retG k).c1 + 1))) :=
    ((((HU2.out.mono (by simp)).trans (Upd.trans (by (with_reducible (repeat (first | exact Upd.refl _ _ | refine Upd.alloc ?_ _ | refine Upd.drew ?_ | refine Upd.drewN ?_ _ | refine Upd.setCell ?_ (by first | (left; simp; done) | (right; simp; done) | (right; simp; omega)) _)))) (hU3.mono (by simp)))).alloc _).putB (Or.inl (by simp)) _)
  have hm : (((G.retG k).books ++ [(G.last + 1, (⟨w3.heap.size, db, l.drop 4, c3, true, 0⟩ : Book), (G.retG k).c1)]).map bookEnt) = (G.retG k).books.map bookEnt ++ [bookEnt (G.last + 1, (⟨w3.heap.size, db, l.drop 4, c3, true, 0⟩ : Book), (G.retG k).c1)] := by simp
  rw [hm] at U4
  have hlb : (G.retG k).bm < w3.heap.size := Nat.lt_of_lt_of_le (lt_of_heap HS1.out.books) l0
  have hlb2 : G.b < w3.heap.size := by have := lt_of_heap HSH.out; omega
  have S4 : IsShelf (putB (w3.alloc (.cells #[.slice (some ⟨db, 0, none⟩) (l.length - 4) c3, .bool true, .int .i64 0] 97)) (G.retG k).bm (mapI ((G.retG k).books.map bookEnt ++ [bookEnt (G.last + 1, (⟨w3.heap.size, db, l.drop 4, c3, true, 0⟩ : Book), (G.retG k).c1)]) ((G.retG k).c1 + 1))) ((G.retG k).addB (l.drop 4) w3.heap.size db c3) := by
    refine ⟨?_, ?_, U4.blk HS1.out.names (by simp only [List.mem_cons, List.not_mem_nil, or_false, not_or]; exact ⟨fun e => m2 e.symm, fun e => m3 e.symm⟩), ?_⟩
    · rw [show ((G.retG k).addB (l.drop 4) w3.heap.size db c3).b = G.b from HB.out]
      refine (heap_putB_ne nb).trans (heap_old ((hU3.blk (show w2.drew.heap[G.b]? = _ from SH2.out) (by simp)).trans ?_))
      simp [shelfO, ShelfG.addB, HL.out]
    · refine (heap_putB (heap_old (hU3.blk (show w2.drew.heap[(G.retG k).bm]? = _ from bk2.out) (by simp)))).trans ?_
      simp only [ShelfG.addB, HL.out, hm]
    · intro x hx
      have hx' : x ∈ (G.retG k).books ∨ x = (G.last + 1, (⟨w3.heap.size, db, l.drop 4, c3, true, 0⟩ : Book), (G.retG k).c1) := by simpa [ShelfG.addB, HL.out] using hx
      rcases hx' with hx' | rfl
      · obtain ⟨h1, h2⟩ := HS1.out.book x hx'
        have q1 := m4 x hx' _ (.inl rfl)
        have q2 := m4 x hx' _ (.inr rfl)
        rw [HB.out] at q1 q2
        exact ⟨U4.blk h1 (by simp only [List.mem_cons, List.not_mem_nil, or_false, not_or]; exact ⟨q1.1, q1.2.1⟩), h2.upd U4 (by simp only [List.mem_cons, List.not_mem_nil, or_false, not_or]; exact ⟨q2.1, q2.2.1⟩)⟩
      · refine ⟨(heap_putB_ne (by show w3.heap.size ≠ _; omega)).trans ((heap_new _ _).trans ?_), ?_⟩
        · simp [bookO, Book.dv]
        · have r := RowOf.of_own ho3
          refine RowOf.upd (S := [(G.retG k).bm]) r (((Upd.refl _ _).alloc _).putB (.inl (by simp)) _) (by have h9 : w2.heap.size ≤ db := hdb; have h8 := lt_of_heap HS1.out.books; show db ∉ [(G.retG k).bm]; rw [List.mem_singleton]; omega)
  have hdb' : w2.heap.size ≤ db := hdb
  have HS4 := Lib.hid S4
  have HU4 := Lib.hid U4
  clear S4 U4 hU3 ho3 hm hup
  generalize putB (w3.alloc (.cells #[.slice (some ⟨db, 0, none⟩) (l.length - 4) c3, .bool true, .int .i64 0] 97)) (G.retG k).bm (mapI ((G.retG k).books.map bookEnt ++ [bookEnt (G.last + 1, (⟨w3.heap.size, db, l.drop 4, c3, true, 0⟩ : Book), (G.retG k).c1)]) ((G.retG k).c1 + 1)) = w4 at *
  have hsh4 := HS4.out.shelf
  rw [show ((G.retG k).addB (l.drop 4) w3.heap.size db c3).b = G.b from HB.out] at hsh4
  have k4 : ∀ o, w4.cell? ⟨G.b, o, none⟩ = #[.map (some (G.retG k).bm), .map (some (G.retG k).nm), .int .i64 (G.last + 1)][o]? := by
    have := cell_of hsh4
    simp only [ShelfG.addB, HL.out] at this
    exact this
  have s4 := lt_of_heap hsh4
  have hnn : getS k ((G.retG k).addB (l.drop 4) w3.heap.size db c3).names = none := ret_noname OK.out k
  have hup4 := add_name (w := w4.drew) (G := (G.retG k).addB (l.drop 4) w3.heap.size db c3) (nm := (G.retG k).nm) HS4.out.names k (G.last + 1) hnn
  clear k2
  go_wp2_with fail
  go_region
  generalize hO : mapS (((G.retG k).addB (l.drop 4) w3.heap.size db c3).names.map nameEnt ++ [nameEnt (k, G.last + 1, ((G.retG k).addB (l.drop 4) w3.heap.size db c3).c2)]) (((G.retG k).addB (l.drop 4) w3.heap.size db c3).c2 + 1) = O at *
  have U5 : Upd [(G.retG k).nm] w4 (putB w4.drew (G.retG k).nm O) := (Upd.drew (Upd.refl _ _)).putB (Or.inl (by simp)) _
  have S5 : IsShelf (putB w4.drew (G.retG k).nm O) (G.loadG k (l.drop 4) w3.heap.size db c3) := by
    refine ⟨U5.blk HS4.out.shelf (by rw [List.mem_singleton]; show (G.retG k).b ≠ _; rw [HB.out]; exact m2), U5.blk HS4.out.books (by rw [List.mem_singleton]; exact m3), ?_, ?_⟩
    · refine (heap_putB (show w4.drew.heap[(G.retG k).nm]? = _ from HS4.out.names)).trans ?_
      rw [← hO]
      simp [ShelfG.loadG, ShelfG.name, ShelfG.addB, HL.out]
    · intro x hx
      have hx' : x ∈ (G.retG k).books ∨ x = (G.last + 1, (⟨w3.heap.size, db, l.drop 4, c3, true, 0⟩ : Book), (G.retG k).c1) := by simpa [ShelfG.loadG, ShelfG.name, ShelfG.addB, HL.out] using hx
      have hx4 : x ∈ ((G.retG k).addB (l.drop 4) w3.heap.size db c3).books := by simpa [ShelfG.addB, HL.out] using hx'
      obtain ⟨h1, h2⟩ := HS4.out.book x hx4
      have hnm := lt_of_heap HS1.out.names
      rcases hx' with hx' | rfl
      · have q1 := m4 x hx' _ (.inl rfl)
        have q2 := m4 x hx' _ (.inr rfl)
        exact ⟨U5.blk h1 (by rw [List.mem_singleton]; exact q1.2.2), h2.upd U5 (by rw [List.mem_singleton]; exact q2.2.2)⟩
      · exact ⟨U5.blk h1 (by rw [List.mem_singleton]; show w3.heap.size ≠ _; omega), h2.upd U5 (by rw [List.mem_singleton]; show db ≠ _; omega)⟩
  have HS5 := Lib.hid S5
  have HU5 := Lib.hid U5
  have k5 : ∀ o, (putB w4.drew (G.retG k).nm O).cell? ⟨G.b, o, none⟩ = #[.map (some (G.retG k).bm), .map (some (G.retG k).nm), .int .i64 (G.last + 1)][o]? := fun o => (cell_putB m2).trans (k4 o)
  clear S5 U5 hO hup4 k4
  generalize putB w4.drew (G.retG k).nm O = w5 at *
  go_wp2
  go_ret3
  refine ⟨rfl, w3.heap.size, db, c3, HS5.out, ?_, ?_, ?_, ?_⟩
  · have hsub := (retG_sub G k).subset
    have q0 : ∀ x, x = G.b ∨ x = (G.retG k).bm ∨ x = (G.retG k).nm → x ∈ G.blocks := by
      intro x hx
      refine hsub ?_
      simp only [ShelfG.blocks, List.mem_cons, HB.out]
      rcases hx with h | h | h
      · exact .inl h
      · exact .inr (.inl h)
      · exact .inr (.inr (.inl h))
    refine (HU1.out.trans (HU4.out.mono ?_)).trans (HU5.out.mono ?_)
    · intro x hx; simp only [List.mem_cons, List.not_mem_nil, or_false] at hx; exact q0 x (by rcases hx with h | h; exact .inl h; exact .inr (.inl h))
    · intro x hx; rw [List.mem_singleton] at hx; exact q0 x (.inr (.inr hx))
  · have := HU1.out.size; omega
  · have := HU1.out.size; omega
  · omega
end Go.Proofs.YtmcnjikafppccaaGreat
