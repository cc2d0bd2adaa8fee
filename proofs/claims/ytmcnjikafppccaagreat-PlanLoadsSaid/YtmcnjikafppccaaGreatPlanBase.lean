/- A Plan in memory; plan.New, Used, Of, Sessions. -/
import Derived.Test.YtmcnjikafppccaaGreatStreamMk
namespace Go.Proofs.YtmcnjikafppccaaGreat
open Go.RowKit

structure SessG where
  client : Int
  sb : Nat
  id : Int
structure PlanG where
  b : Nat
  pb : Nat
  se : Nat
  lo : Nat
  all : Int
  each : Int
  u : Int → Int
  sh : ShelfG
  sess : List (Int × SessG × Nat)
  loads : List (Int × (Int × Int) × Nat)
  last : Int
  c3 : Nat
  c4 : Nat
def sessV (x : SessG) : Value := .agg #[.int .i64 x.client, .pointer (some ⟨x.sb, 0, none⟩), .int .i64 x.id]
def loadV (x : Int × Int) : Value := .agg #[.int .i64 x.1, .int .i64 x.2]
def sessEnt (x : Int × SessG × Nat) : Int × Value × Nat := (x.1, sessV x.2.1, x.2.2)
def loadEnt (x : Int × (Int × Int) × Nat) : Int × Value × Nat := (x.1, loadV x.2.1, x.2.2)
/-- The two maps. -/
def sessO (l : List (Int × SessG × Nat)) (c : Nat) : Obj := mapI (l.map sessEnt) c
def loadO (l : List (Int × (Int × Int) × Nat)) (c : Nat) : Obj := mapI (l.map loadEnt) c
def planO (G : PlanG) : Obj := .cells #[.pointer (some ⟨G.pb, 0, none⟩), .pointer (some ⟨G.sh.b, 0, none⟩), .map (some G.se), .map (some G.lo), .int .i64 G.last] 55 (0, 0)
/-- The blocks of a Shelf, of a Plan. -/
def ShelfG.blocks (G : ShelfG) : List Nat := G.b :: G.bm :: G.nm :: G.books.flatMap fun x => [x.2.1.b, x.2.1.db]
def PlanG.blocks (G : PlanG) : List Nat := G.b :: G.pb :: G.se :: G.lo :: G.sh.blocks
structure IsPlan (w : World) (G : PlanG) : Prop where
  plan : w.heap[G.b]? = some (planO G)
  purse : w.heap[G.pb]? = some (purseO G.all G.each G.u)
  sess : w.heap[G.se]? = some (sessO G.sess G.c3)
  loads : w.heap[G.lo]? = some (loadO G.loads G.c4)
  shelf : IsShelf w G.sh
  ok : PurseOk G.all G.each G.u
  nd : G.blocks.Nodup

theorem zero_sess (w : World) : (zeroValue 82).run Tryz.prog w = .ok (.agg #[.int .i64 0, .pointer none, .int .i64 0]) w := by kernel_rfl
theorem zero_load (w : World) : (zeroValue 90).run Tryz.prog w = .ok (.agg #[.int .i64 0, .int .i64 0]) w := by kernel_rfl

theorem RowOf.upd {w w' : World} {b cap : Nat} {l : List UInt8} {S : List Nat} (h : RowOf w b l cap) (hU : Upd S w w') (hn : b ∉ S) : RowOf w' b l cap := by
  obtain ⟨cs, h1, h2⟩ := h
  exact ⟨cs, hU.blk h1 hn, h2⟩
theorem IsShelf.upd {w w' : World} {G : ShelfG} {S : List Nat} (h : IsShelf w G) (hU : Upd S w w') (hn : ∀ k ∈ G.blocks, k ∉ S) : IsShelf w' G := by
  refine ⟨hU.blk h.shelf (hn _ (by simp [ShelfG.blocks])), hU.blk h.books (hn _ (by simp [ShelfG.blocks])), hU.blk h.names (hn _ (by simp [ShelfG.blocks])), fun x hx => ?_⟩
  obtain ⟨h1, h2⟩ := h.book x hx
  have m : ∀ k, k = x.2.1.b ∨ k = x.2.1.db → k ∈ G.blocks := fun k hk => by
    simp only [ShelfG.blocks, List.mem_cons, List.mem_flatMap]
    exact .inr (.inr (.inr ⟨x, hx, by simpa using hk⟩))
  exact ⟨hU.blk h1 (hn _ (m _ (.inl rfl))), h2.upd hU (hn _ (m _ (.inr rfl)))⟩
theorem IsPlan.upd {w w' : World} {G : PlanG} {S : List Nat} (h : IsPlan w G) (hU : Upd S w w') (hn : ∀ k ∈ G.blocks, k ∉ S) : IsPlan w' G :=
  ⟨hU.blk h.plan (hn _ (by simp [PlanG.blocks])), hU.blk h.purse (hn _ (by simp [PlanG.blocks])), hU.blk h.sess (hn _ (by simp [PlanG.blocks])), hU.blk h.loads (hn _ (by simp [PlanG.blocks])),
   h.shelf.upd hU (fun k hk => hn k (by simp [PlanG.blocks, hk])), h.ok, h.nd⟩

theorem IsShelf.lt {w : World} {G : ShelfG} (h : IsShelf w G) : ∀ k ∈ G.blocks, k < w.heap.size := by
  intro k hk
  simp only [ShelfG.blocks, List.mem_cons, List.mem_flatMap] at hk
  rcases hk with rfl | rfl | rfl | ⟨x, hx, hk⟩
  · exact lt_of_heap h.shelf
  · exact lt_of_heap h.books
  · exact lt_of_heap h.names
  · obtain ⟨h1, cs, h2, -⟩ := h.book x hx
    simp at hk
    rcases hk with rfl | rfl
    · exact lt_of_heap h1
    · exact lt_of_heap h2
theorem IsPlan.lt {w : World} {G : PlanG} (h : IsPlan w G) : ∀ k ∈ G.blocks, k < w.heap.size := by
  intro k hk
  simp only [PlanG.blocks, List.mem_cons] at hk
  rcases hk with rfl | rfl | rfl | rfl | hk
  · exact lt_of_heap h.plan
  · exact lt_of_heap h.purse
  · exact lt_of_heap h.sess
  · exact lt_of_heap h.loads
  · exact h.shelf.lt k hk
theorem shnew_any (w : World) :
    Calls Tryz.prog 26 #[] w fun e w' => ∃ b bm nm, e = .returned (.pointer (some ⟨b, 0, none⟩)) ∧ Upd [] w w' ∧ IsShelf w' ⟨b, bm, nm, [], [], 0, 0, 0⟩ ∧ w.heap.size ≤ b ∧ w.heap.size ≤ bm ∧ w.heap.size ≤ nm ∧ bm ≠ nm ∧ b ≠ bm ∧ b ≠ nm := by
  have hmm := @run_makeMap Tryz.prog
  go_enter Tryz.func26, Tryz.ntmps26
  go_wp2
  go_ret
  refine ⟨w.heap.size + 1 + 1, w.heap.size, w.heap.size + 1, rfl, ?_, ⟨heap_new' (by simp), heap_old (heap_old (heap_new' rfl)), heap_old (heap_new' (by simp)), by simp⟩, by omega, by omega, by omega, by omega, by omega, by omega⟩
  with_reducible exact (((Upd.refl _ _).alloc _).alloc _).alloc _

theorem pnew_any (all each : Int) (w : World) :
    Calls Tryz.prog 10 #[.int .i64 all, .int .i64 each] w fun e w' => ∃ G, e = .returned (.pointer (some ⟨G.b, 0, none⟩)) ∧ Upd [] w w' ∧ IsPlan w' G ∧ (∀ k ∈ G.blocks, w.heap.size ≤ k) ∧
      G.all = min (max all 0) 1099511627776 ∧ G.each = min (max each 0) 1099511627776 ∧ G.u = (fun _ => 0) ∧ G.sess = [] ∧ G.loads = [] ∧ G.last = 0 ∧ G.sh.books = [] ∧ G.sh.names = [] ∧ G.sh.last = 0 := by
  have hmm := @run_makeMap Tryz.prog
  go_enter Tryz.func10, Tryz.ntmps10
  go_wp2_with (first | (go_at_call 25; refine (new_any _ _ _).mono ?_; rintro e w1 ⟨rfl, hU1, hp1, hs1⟩) | (go_at_call 26; refine (shnew_any _).mono ?_; rintro e w2 ⟨b, bm, nm, rfl, hU2, hs2, g1, g2, g3, n1, n2, n3⟩))
  go_ret
  have l1 := lt_of_heap hs2.shelf
  have l2 := lt_of_heap hs2.books
  have l3 := lt_of_heap hs2.names
  have lp := lt_of_heap hp1
  have hz := hU2.size
  simp only at l1 l2 l3
  have hp2 := hU2.blk hp1 (by simp)
  refine ⟨⟨w2.heap.size + 1 + 1, w.heap.size, w2.heap.size, w2.heap.size + 1, min (max all 0) 1099511627776, min (max each 0) 1099511627776, fun _ => 0, ⟨b, bm, nm, [], [], 0, 0, 0⟩, [], [], 0, 0, 0⟩, rfl, ?_, ⟨heap_new' (by simp), ?_, ?_, ?_, ?_, ⟨fun _ => Int.le_refl _, fun _ => by simp only; omega, by simp only; omega, by simp only; omega, by simp only; omega, by simp only; omega⟩, ?_⟩, ?_, rfl, rfl, rfl, rfl, rfl, rfl, rfl, rfl, rfl⟩
  · with_reducible exact (((hU1.trans hU2).alloc _).alloc _).alloc _
  · exact heap_old (heap_old (heap_old hp2))
  · exact heap_old (heap_old (heap_new' rfl))
  · exact heap_old (heap_new' (by simp))
  · exact hs2.upd ((((Upd.refl [] _).alloc _).alloc _).alloc _) (by simp)
  · simp [PlanG.blocks, ShelfG.blocks]
    omega
  · simp [PlanG.blocks, ShelfG.blocks]
    omega

theorem purse_used (G : PlanG) (w : World) (h : IsPlan w G) : Calls Tryz.prog 12 #[.pointer (some ⟨G.b, 0, none⟩)] w fun e w' => e = .returned (.int .i64 (sumU G.u)) ∧ w' = w := by
  have hc := cell_of h.plan
  have H := Lib.hid h
  clear h
  go_enter Tryz.func12, Tryz.ntmps12
  go_wp2_with (go_at_call 31; refine (used_any _ _ _ _ _ H.out.purse H.out.ok).mono ?_; rintro e w' ⟨rfl, rfl⟩)
  go_ret
  exact ⟨rfl, rfl⟩
theorem plan_of (G : PlanG) (c : Int) (w : World) (h : IsPlan w G) (h0 : 0 ≤ c) (h1 : c < 4) : Calls Tryz.prog 15 #[.pointer (some ⟨G.b, 0, none⟩), .int .i64 c] w fun e w' => e = .returned (.int .i64 (G.u c)) ∧ w' = w := by
  have hc := cell_of h.plan
  have H := Lib.hid h
  clear h
  go_enter Tryz.func15, Tryz.ntmps15
  go_wp2_with (go_at_call 32; refine (of_any _ _ _ _ _ _ (by omega) (by omega) H.out.purse).mono ?_; rintro e w' ⟨rfl, rfl⟩)
  go_ret
  exact ⟨rfl, rfl⟩
theorem run_len_map {P : Program} {w : World} {T kt et r : Nat} {l : List (Int × Value × Nat)} {c : Nat} (ty : TypeId) (hT : P.underlying T = some (.map kt et)) (h : w.heap[r]? = some (mapI l c)) :
    (Builtin.len_ #[T] ty #[.map (some r)]).run P w = .ok (goInt l.length) w := by
  simp [Builtin.len_, run_getI h, run_underlying hT]
theorem plan_sessions (G : PlanG) (w : World) (h : IsPlan w G) : Calls Tryz.prog 14 #[.pointer (some ⟨G.b, 0, none⟩)] w fun e w' => e = .returned (.int .i64 G.sess.length) ∧ w' = w := by
  have hc := cell_of h.plan
  have hl := fun ty => run_len_map (P := Tryz.prog) ty Tryz.underlying52 (l := G.sess.map sessEnt) (c := G.c3) h.sess
  clear h
  go_enter Tryz.func14, Tryz.ntmps14
  go_wp2
  go_ret
  exact ⟨by simp, rfl⟩
end Go.Proofs.YtmcnjikafppccaaGreat
