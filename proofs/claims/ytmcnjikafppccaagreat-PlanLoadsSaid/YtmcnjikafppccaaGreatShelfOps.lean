/- shelf: lets, retires, Retire, Unpin, Pin, in memory. -/
import Derived.Test.YtmcnjikafppccaaGreatPlanGone
namespace Go.Proofs.YtmcnjikafppccaaGreat
open Go.RowKit

/-- A book is set. -/
def ShelfG.set (G : ShelfG) (id : Int) (f : Book → Book) : ShelfG := { G with books := G.books.map fun x => if x.1 = id then (x.1, f x.2.1, x.2.2) else x }
/-- A book is gone. -/
def ShelfG.del (G : ShelfG) (id : Int) : ShelfG := { G with books := G.books.eraseP (fun x => x.1 == id) }
def ShelfG.unname (G : ShelfG) (k : ByteArray) : ShelfG := { G with names := G.names.eraseP (fun x => k == x.1) }
/-- f changes what may change alone. -/
def Soft (f : Book → Book) : Prop := ∀ x, (f x).b = x.b ∧ (f x).db = x.db ∧ (f x).dict = x.dict ∧ (f x).cap = x.cap
/-- Which numbers there may be. -/
structure ShOk (G : ShelfG) : Prop where
  ids : (G.books.map (·.1)).Nodup
  pos : ∀ x ∈ G.books, 1 ≤ x.1 ∧ x.1 ≤ G.last
  named : ∀ y ∈ G.names, ∃ b, bookAt G y.2.1 = some b ∧ b.cur = true
  keys : G.names.Pairwise fun a b => (a.1 == b.1) = false
  nids : (G.names.map (·.2.1)).Nodup
  pins : ∀ x ∈ G.books, 0 ≤ x.2.1.pins
  bytes : ∀ x ∈ G.books, x.2.1.dict.length ≤ 2000

theorem getI_mem {α : Type} {k : Int} {l : List (Int × α)} {v : α} (h : getI k l = some v) : (k, v) ∈ l := by
  unfold getI at h
  cases hf : l.find? (fun x => x.1 == k) with
  | none => rw [hf] at h; simp at h
  | some x =>
    rw [hf] at h
    have h1 := List.find?_some hf
    have h2 := List.mem_of_find?_eq_some hf
    simp at h h1
    rw [← h, ← h1]
    exact h2
theorem bookAt_mem {G : ShelfG} {id : Int} {b : Book} (h : bookAt G id = some b) : ∃ s, (id, b, s) ∈ G.books := by
  unfold bookAt at h
  cases hg : getI id G.books with
  | none => rw [hg] at h; simp at h
  | some y =>
    rw [hg] at h
    have : y.1 = b := by simpa using h
    exact ⟨y.2, by have := getI_mem hg; rw [← ‹y.1 = b›]; exact this⟩
theorem uniq_id {l : List (Int × Book × Nat)} (h : (l.map (·.1)).Nodup) : ∀ {x y}, x ∈ l → y ∈ l → x.1 = y.1 → x = y := by
  induction l with
  | nil => intro x y hx; simp at hx
  | cons a l ih =>
    rw [List.map_cons, List.nodup_cons] at h
    intro x y hx hy e
    rcases List.mem_cons.1 hx with h1 | h1 <;> rcases List.mem_cons.1 hy with h2 | h2
    · rw [h1, h2]
    · exact absurd (List.mem_map.2 ⟨y, h2, by rw [← e, h1]⟩) h.1
    · exact absurd (List.mem_map.2 ⟨x, h1, by rw [e, h2]⟩) h.1
    · exact ih h.2 h1 h2 e
theorem sub_flat {α β : Type} (f : α → List β) {l l' : List α} (h : l.Sublist l') : (l.flatMap f).Sublist (l'.flatMap f) := by
  induction h with
  | slnil => exact List.Sublist.refl _
  | cons a _ ih => rw [List.flatMap_cons]; exact ih.trans (List.sublist_append_right _ _)
  | cons_cons a _ ih => rw [List.flatMap_cons, List.flatMap_cons]; exact (List.Sublist.refl _).append ih
theorem set_blocks (G : ShelfG) (id : Int) (f : Book → Book) (hf : Soft f) : (G.set id f).blocks = G.blocks := by
  unfold ShelfG.blocks ShelfG.set
  simp only
  congr 3
  rw [List.flatMap_map]
  congr 1
  funext x
  split
  · rw [(hf x.2.1).1, (hf x.2.1).2.1]
  · rfl
theorem del_sub (G : ShelfG) (id : Int) : (G.del id).blocks.Sublist G.blocks := by
  unfold ShelfG.blocks ShelfG.del
  refine List.Sublist.cons_cons _ (List.Sublist.cons_cons _ (List.Sublist.cons_cons _ ?_))
  exact sub_flat _ List.eraseP_sublist
theorem set_map (G : ShelfG) (id : Int) (f : Book → Book) (hf : Soft f) : (G.set id f).books.map bookEnt = G.books.map bookEnt := by
  unfold ShelfG.set
  rw [List.map_map]
  apply List.map_congr_left
  intro x _
  simp only [Function.comp]
  split
  · simp [bookEnt, (hf x.2.1).1]
  · rfl
theorem books_apart {l : List (Int × Book × Nat)} (h : (l.flatMap fun x => [x.2.1.b, x.2.1.db]).Nodup) {x y : Int × Book × Nat} (hx : x ∈ l) (hy : y ∈ l) (hne : x ≠ y) : x.2.1.b ≠ y.2.1.b ∧ x.2.1.db ≠ y.2.1.b := by
  induction l with
  | nil => simp at hx
  | cons a l ih =>
    rw [List.flatMap_cons, List.nodup_append] at h
    have hin : ∀ z ∈ l, ∀ k, k = z.2.1.b ∨ k = z.2.1.db → k ∈ l.flatMap (fun x => [x.2.1.b, x.2.1.db]) := fun z hz k hk => List.mem_flatMap.2 ⟨z, hz, by simpa using hk⟩
    rcases List.mem_cons.1 hx with e1 | hx1 <;> rcases List.mem_cons.1 hy with e2 | hy1
    · exact absurd (e1.trans e2.symm) hne
    · rw [e1]
      exact ⟨h.2.2 _ (by simp) _ (hin y hy1 _ (.inl rfl)), h.2.2 _ (by simp) _ (hin y hy1 _ (.inl rfl))⟩
    · rw [e2]
      exact ⟨(h.2.2 _ (by simp) _ (hin x hx1 _ (.inl rfl))).symm, (h.2.2 _ (by simp) _ (hin x hx1 _ (.inr rfl))).symm⟩
    · exact ih h.2.1 hx1 hy1
theorem book_blocks {G : ShelfG} (hnd : G.blocks.Nodup) {x y : Int × Book × Nat} (hx : x ∈ G.books) (hy : y ∈ G.books) (hne : x ≠ y) : x.2.1.b ≠ y.2.1.b ∧ x.2.1.db ≠ y.2.1.b :=
  books_apart (List.nodup_cons.1 (List.nodup_cons.1 (List.nodup_cons.1 hnd).2).2).2 hx hy hne
theorem books_self {l : List (Int × Book × Nat)} (h : (l.flatMap fun x => [x.2.1.b, x.2.1.db]).Nodup) {x : Int × Book × Nat} (hx : x ∈ l) : x.2.1.db ≠ x.2.1.b := by
  induction l with
  | nil => simp at hx
  | cons a l ih =>
    rw [List.flatMap_cons, List.nodup_append] at h
    rcases List.mem_cons.1 hx with e1 | hx
    · subst e1
      have := h.1
      simp at this
      exact fun e => this e.symm
    · exact ih h.2.1 hx
theorem book_self {G : ShelfG} (hnd : G.blocks.Nodup) {x : Int × Book × Nat} (hx : x ∈ G.books) : x.2.1.db ≠ x.2.1.b :=
  books_self (List.nodup_cons.1 (List.nodup_cons.1 (List.nodup_cons.1 hnd).2).2).2 hx
theorem book_in {G : ShelfG} {x : Int × Book × Nat} (hx : x ∈ G.books) : x.2.1.b ∈ G.blocks ∧ x.2.1.db ∈ G.blocks := by
  constructor <;> (simp only [ShelfG.blocks, List.mem_cons, List.mem_flatMap]; exact .inr (.inr (.inr ⟨x, hx, by simp⟩)))
theorem base_ne {G : ShelfG} (hnd : G.blocks.Nodup) {x : Int × Book × Nat} (hx : x ∈ G.books) : G.b ≠ x.2.1.b ∧ G.bm ≠ x.2.1.b ∧ G.nm ≠ x.2.1.b ∧ G.b ≠ G.bm ∧ G.b ≠ G.nm ∧ G.bm ≠ G.nm ∧ G.b ≠ x.2.1.db ∧ G.bm ≠ x.2.1.db ∧ G.nm ≠ x.2.1.db := by
  unfold ShelfG.blocks at hnd
  simp only [List.nodup_cons, List.mem_cons, not_or] at hnd
  have hm : ∀ k, k = x.2.1.b ∨ k = x.2.1.db → k ∈ G.books.flatMap (fun x => [x.2.1.b, x.2.1.db]) := fun k hk => List.mem_flatMap.2 ⟨x, hx, by simpa using hk⟩
  refine ⟨fun e => hnd.1.2.2 (hm _ (.inl e)), fun e => hnd.2.1.2 (hm _ (.inl e)), fun e => hnd.2.2.1 (hm _ (.inl e)), hnd.1.1, hnd.1.2.1, hnd.2.1.1, fun e => hnd.1.2.2 (hm _ (.inr e)), fun e => hnd.2.1.2 (hm _ (.inr e)), fun e => hnd.2.2.1 (hm _ (.inr e))⟩
/-- One book's block is written. -/
theorem IsShelf.setBook {w w' : World} {G : ShelfG} (h : IsShelf w G) (ok : ShOk G) (hnd : G.blocks.Nodup) {id : Int} {b : Book} {s : Nat} (hm : (id, b, s) ∈ G.books) {f : Book → Book} (hf : Soft f) (hU : Upd [b.b] w w') (hb : w'.heap[b.b]? = some (bookO (f b))) : IsShelf w' (G.set id f) := by
  obtain ⟨n1, n2, n3, -⟩ := base_ne hnd hm
  refine ⟨hU.blk h.shelf (ne1 n1), ?_, hU.blk h.names (ne1 n3), fun x hx => ?_⟩
  · rw [set_map G id f hf]
    exact hU.blk h.books (ne1 n2)
  · obtain ⟨y, hy, rfl⟩ := List.mem_map.1 hx
    obtain ⟨h1, h2⟩ := h.book y hy
    by_cases e : y.1 = id
    · have e2 : y = (id, b, s) := uniq_id ok.ids hy hm e
      subst e2
      have hs := hf b
      simp only [if_true]
      rw [hs.1, hs.2.1, hs.2.2.1, hs.2.2.2]
      exact ⟨hb, h2.upd hU (by simpa using book_self hnd hm)⟩
    · rw [if_neg e]
      have hne : y ≠ (id, b, s) := fun e2 => e (by rw [e2])
      have := book_blocks hnd hy hm hne
      exact ⟨hU.blk h1 (by simpa using this.1), h2.upd hU (by simpa using this.2)⟩

theorem del_books {w : World} {bm : Nat} {G : ShelfG} (h : w.heap[bm]? = some (mapI (G.books.map bookEnt) G.c1)) (k : Int) (x : TypeId) (ts : Array TypeId) (hts : ts[0]? = some 72) :
    (Builtin.delete_ ts x #[.map (some bm), .int .i64 k]).run Tryz.prog w = .ok (.tuple #[]) (putB w bm (mapI ((G.del k).books.map bookEnt) G.c1)) := by
  rw [run_delete Tryz.underlying72 Tryz.underlying3 h hts, List.eraseP_map]
  rfl
theorem del_names {w : World} {nm : Nat} {G : ShelfG} (h : w.heap[nm]? = some (mapS (G.names.map nameEnt) G.c2)) (k : ByteArray) (x : TypeId) (ts : Array TypeId) (hts : ts[0]? = some 73) :
    (Builtin.delete_ ts x #[.map (some nm), .string k]).run Tryz.prog w = .ok (.tuple #[]) (putB w nm (mapS ((G.unname k).names.map nameEnt) G.c2)) := by
  rw [run_deleteS Tryz.underlying73 Tryz.underlying9 h hts, List.eraseP_map]
  rfl
theorem IsShelf.delBook {w w' : World} {G : ShelfG} (h : IsShelf w G) (hnd : G.blocks.Nodup) (id : Int) (hU : Upd [G.bm] w w') (hb : w'.heap[G.bm]? = some (mapI ((G.del id).books.map bookEnt) G.c1)) : IsShelf w' (G.del id) := by
  have hn : ∀ k ∈ G.blocks, k ≠ G.bm → k ∉ [G.bm] := fun k _ hk => ne1 hk
  unfold ShelfG.blocks at hnd
  simp only [List.nodup_cons, List.mem_cons, not_or] at hnd
  have hm : ∀ x ∈ G.books, x.2.1.b ≠ G.bm ∧ x.2.1.db ≠ G.bm := fun x hx => by
    constructor <;> (intro e; exact hnd.2.1.2 (List.mem_flatMap.2 ⟨x, hx, by simp [← e]⟩))
  refine ⟨hU.blk h.shelf (ne1 hnd.1.1), hb, hU.blk h.names (ne1 (fun e => hnd.2.1.1 e.symm)), fun x hx => ?_⟩
  have hx' : x ∈ G.books := List.mem_of_mem_eraseP hx
  obtain ⟨h1, h2⟩ := h.book x hx'
  exact ⟨hU.blk h1 (ne1 (hm x hx').1), h2.upd hU (ne1 (hm x hx').2)⟩
theorem IsShelf.delName {w w' : World} {G : ShelfG} (h : IsShelf w G) (hnd : G.blocks.Nodup) (k : ByteArray) (hU : Upd [G.nm] w w') (hb : w'.heap[G.nm]? = some (mapS ((G.unname k).names.map nameEnt) G.c2)) : IsShelf w' (G.unname k) := by
  unfold ShelfG.blocks at hnd
  simp only [List.nodup_cons, List.mem_cons, not_or] at hnd
  have hm : ∀ x ∈ G.books, x.2.1.b ≠ G.nm ∧ x.2.1.db ≠ G.nm := fun x hx => by
    constructor <;> (intro e; exact hnd.2.2.1 (List.mem_flatMap.2 ⟨x, hx, by simp [← e]⟩))
  refine ⟨hU.blk h.shelf (ne1 hnd.1.2.1), hU.blk h.books (ne1 hnd.2.1.1), hb, fun x hx => ?_⟩
  obtain ⟨h1, h2⟩ := h.book x hx
  exact ⟨hU.blk h1 (ne1 (hm x hx).1), h2.upd hU (ne1 (hm x hx).2)⟩

/-- Is a book let go? -/
def free (G : ShelfG) (id : Int) : Bool := match bookAt G id with
  | some b => !b.cur && decide (b.pins ≤ 0)
  | none => false
def ShelfG.letsG (G : ShelfG) (id : Int) : ShelfG := if free G id then G.del id else G
def letsR (G : ShelfG) (id : Int) : Int := if free G id then id else 0

set_option maxRecDepth 100000 in
theorem lets_any (G : ShelfG) (id : Int) (w : World) (h : IsShelf w G) (hnd : G.blocks.Nodup) :
    Calls Tryz.prog 66 #[.pointer (some ⟨G.b, 0, none⟩), .int .i64 id] w fun e w' => e = .returned (.int .i64 (letsR G id)) ∧ IsShelf w' (G.letsG id) ∧ Upd [G.bm] w w' := by
  have hc := cell_of h.shelf
  have hl := run_books h.books id true
  have hd := del_books (G := G) h.books id 0
  have H := Lib.hid h
  have HN := Lib.hid hnd
  unfold letsR ShelfG.letsG
  cases hb : bookAt G id with
  | none =>
    have hf : free G id = false := by unfold free; rw [hb]
    rw [hf]
    simp only [hb, bookPtr, Option.isSome_none, if_true] at hl
    clear h hnd hd hb hf
    go_enter Tryz.func66, Tryz.ntmps66
    go_wp2
    go_ret
    exact ⟨rfl, H.out, Upd.refl _ _⟩
  | some b =>
    obtain ⟨s, hm⟩ := bookAt_mem hb
    have hk := cell_of (h.book _ hm).1
    simp only [hb, bookPtr, Option.isSome_some, if_true] at hl
    cases hcur : b.cur with
    | true =>
      have hf : free G id = false := by unfold free; rw [hb]; simp [hcur]
      rw [hf]
      simp only [hcur] at hk
      clear h hnd hd hb hf hcur
      go_enter Tryz.func66, Tryz.ntmps66
      go_wp2
      go_ret
      exact ⟨rfl, H.out, Upd.refl _ _⟩
    | false =>
      simp only [hcur] at hk
      by_cases hp : b.pins ≤ 0
      · have hf : free G id = true := by unfold free; rw [hb]; simp [hcur, hp]
        rw [hf]
        simp only [if_true]
        clear h hnd hb hf hcur
        go_enter Tryz.func66, Tryz.ntmps66
        go_wp2
        go_ret
        have hU : Upd [G.bm] w (putB w G.bm (mapI ((G.del id).books.map bookEnt) G.c1)) := (Upd.refl _ _).putB (.inl (by simp)) _
        exact ⟨rfl, H.out.delBook HN.out id hU (heap_putB H.out.books), hU⟩
      · have hf : free G id = false := by unfold free; rw [hb]; simp [hp]
        rw [hf]
        have hp' : 0 < b.pins := by omega
        clear h hnd hd hb hf hcur hp
        go_enter Tryz.func66, Tryz.ntmps66
        go_wp2
        go_ret
        exact ⟨rfl, H.out, Upd.refl _ _⟩
end Go.Proofs.YtmcnjikafppccaaGreat
