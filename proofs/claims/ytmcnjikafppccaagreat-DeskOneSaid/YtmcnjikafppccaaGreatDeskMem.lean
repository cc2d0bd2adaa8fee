/- A Desk in memory: what it is, what keeps it. -/
import Derived.Test.YtmcnjikafppccaaGreatDeskBase
namespace Go.Proofs.YtmcnjikafppccaaGreat
open Go.RowKit

structure CallG where
  kind : Int
  name : ByteArray
  level : Int
  handle : Int
  data : List UInt8
  dv : Value
structure GoingG where
  b : Nat
  c : CallG
  at_ : Int
  left : List UInt8
  lv : Value
structure EffG where
  client : Int
  c : CallG
  err : Int
  n : Int
  out : List UInt8
  ov : Value
structure DeskG where
  b : Nat
  pb : Nat
  calls : Int → Option GoingG
  effs : List EffG
  ev : Value
def CallG.v (c : CallG) : Value := callV c.kind c.name c.level c.handle c.dv
def EffG.cells (e : EffG) : List Value := [.int .i64 e.client, .int .i64 e.c.kind, .string e.c.name, .int .i64 e.c.level, .int .i64 e.c.handle, e.c.dv, .int .i64 e.err, .int .i64 e.n, e.ov]
def goingO (g : GoingG) : Obj := .cells #[.int .i64 g.c.kind, .string g.c.name, .int .i64 g.c.level, .int .i64 g.c.handle, g.c.dv, .int .i64 g.at_, g.lv] 63 (0, 0)
def goP : Option GoingG → Value
  | some g => .pointer (some ⟨g.b, 0, none⟩)
  | none => .pointer none
def deskO (D : DeskG) : Obj := .cells #[.pointer (some ⟨D.pb, 0, none⟩), goP (D.calls 0), goP (D.calls 1), goP (D.calls 2), goP (D.calls 3), D.ev] 60 (0, 0)
def DeskG.goings (D : DeskG) : List GoingG := [D.calls 0, D.calls 1, D.calls 2, D.calls 3].filterMap id
/-- Blocks that are written, blocks that are only read. -/
def DeskG.mut (D : DeskG) : List Nat := D.b :: (D.ev.ownBlock.toList ++ D.goings.map (·.b))
def DeskG.imm (D : DeskG) : List Nat := D.goings.flatMap (fun g => g.c.dv.ownBlock.toList ++ g.lv.ownBlock.toList) ++ D.effs.flatMap (fun e => e.c.dv.ownBlock.toList ++ e.ov.ownBlock.toList)
def Bytes (w : World) (v : Value) (l : List UInt8) : Prop := w.ownsRow 0 5 1 v l.length (l.map B)
structure GoingOk (w : World) (g : GoingG) : Prop where
  blk : w.heap[g.b]? = some (goingO g)
  data : Bytes w g.c.dv g.c.data
  left : Rd w g.lv (g.left.map B)
  lb : ∀ k, g.lv.ownBlock = some k → k < w.heap.size
  size : g.c.data.length ≤ 3200
  shape : ∃ a c, g.lv = .slice a g.left.length c
structure EffOk (w : World) (e : EffG) : Prop where
  data : Bytes w e.c.dv e.c.data
  out : Bytes w e.ov e.out
  size : e.c.data.length ≤ 3200
structure IsDesk (w : World) (D : DeskG) : Prop where
  desk : w.heap[D.b]? = some (deskO D)
  going : ∀ g ∈ D.goings, GoingOk w g
  effs : w.ownsRow 0 66 9 D.ev D.effs.length (D.effs.flatMap EffG.cells)
  eff : ∀ e ∈ D.effs, EffOk w e
  nd : D.mut.Nodup
  apart : ∀ k ∈ D.imm, k ∉ D.mut

theorem Bytes.upd {w w' : World} {v : Value} {l : List UInt8} {S : List Nat} (h : Bytes w v l) (hU : Upd S w w') (hn : ∀ k ∈ v.ownBlock.toList, k ∉ S) : Bytes w' v l :=
  own_upd h hU (fun k hk => hn k (by simp [hk])) (Nat.le_refl _)
theorem Bytes.lt {w : World} {v : Value} {l : List UInt8} (h : Bytes w v l) : ∀ k ∈ v.ownBlock.toList, k < w.heap.size := fun k hk => (World.ownsRow.lt h k (by simpa using hk)).2
theorem GoingOk.upd {w w' : World} {g : GoingG} {S : List Nat} (h : GoingOk w g) (hU : Upd S w w') (h1 : g.b ∉ S) (h2 : ∀ k ∈ g.c.dv.ownBlock.toList ++ g.lv.ownBlock.toList, k ∉ S) : GoingOk w' g :=
  ⟨hU.blk h.blk h1, h.data.upd hU (fun k hk => h2 k (by simp at hk; simp [hk])), h.left.upd hU (fun k hk => h2 k (by simp [hk])), fun k hk => Nat.lt_of_lt_of_le (h.lb k hk) hU.size, h.size, h.shape⟩
theorem EffOk.upd {w w' : World} {e : EffG} {S : List Nat} (h : EffOk w e) (hU : Upd S w w') (h2 : ∀ k ∈ e.c.dv.ownBlock.toList ++ e.ov.ownBlock.toList, k ∉ S) : EffOk w' e :=
  ⟨h.data.upd hU (fun k hk => h2 k (by simp at hk; simp [hk])), h.out.upd hU (fun k hk => h2 k (by simp at hk; simp [hk])), h.size⟩
theorem DeskG.mem_imm_going {D : DeskG} {g : GoingG} (hg : g ∈ D.goings) : ∀ k ∈ g.c.dv.ownBlock.toList ++ g.lv.ownBlock.toList, k ∈ D.imm := fun k hk => by
  simp only [DeskG.imm, List.mem_append, List.mem_flatMap]
  exact .inl ⟨g, hg, by simpa using hk⟩
theorem DeskG.mem_imm_eff {D : DeskG} {e : EffG} (he : e ∈ D.effs) : ∀ k ∈ e.c.dv.ownBlock.toList ++ e.ov.ownBlock.toList, k ∈ D.imm := fun k hk => by
  simp only [DeskG.imm, List.mem_append, List.mem_flatMap]
  exact .inr ⟨e, he, by simpa using hk⟩
theorem DeskG.mem_mut_going {D : DeskG} {g : GoingG} (hg : g ∈ D.goings) : g.b ∈ D.mut := by
  simp only [DeskG.mut, List.mem_cons, List.mem_append, List.mem_map]
  exact .inr (.inr ⟨g, hg, rfl⟩)
theorem IsDesk.upd {w w' : World} {D : DeskG} {S : List Nat} (h : IsDesk w D) (hU : Upd S w w') (h1 : ∀ k ∈ D.mut, k ∉ S) (h2 : ∀ k ∈ D.imm, k ∉ S) : IsDesk w' D :=
  ⟨hU.blk h.desk (h1 _ (by simp [DeskG.mut])), fun g hg => (h.going g hg).upd hU (h1 _ (DeskG.mem_mut_going hg)) (fun k hk => h2 k (DeskG.mem_imm_going hg k hk)),
   own_upd h.effs hU (fun k hk => h1 k (by simp [DeskG.mut, hk])) (Nat.le_refl _), fun e he => (h.eff e he).upd hU (fun k hk => h2 k (DeskG.mem_imm_eff he k hk)), h.nd, h.apart⟩
theorem IsDesk.quiet {w w' : World} {D : DeskG} (h : IsDesk w D) (hU : Upd [] w w') : IsDesk w' D := h.upd hU (fun _ _ => by simp) (fun _ _ => by simp)
theorem IsDesk.lt {w : World} {D : DeskG} (h : IsDesk w D) : (∀ k ∈ D.mut, k < w.heap.size) ∧ (∀ k ∈ D.imm, k < w.heap.size) := by
  constructor
  · intro k hk
    simp only [DeskG.mut, List.mem_cons, List.mem_append, List.mem_map] at hk
    rcases hk with rfl | hk | ⟨g, hg, rfl⟩
    · exact lt_of_heap h.desk
    · exact (h.effs.lt k (by simpa using hk)).2
    · exact lt_of_heap (h.going g hg).blk
  · intro k hk
    simp only [DeskG.imm, List.mem_append, List.mem_flatMap] at hk
    rcases hk with ⟨g, hg, hk⟩ | ⟨e, he, hk⟩
    · rcases hk with hk | hk
      · exact (h.going g hg).data.lt k hk
      · exact (h.going g hg).lb k (by simpa using hk)
    · rcases hk with hk | hk
      · exact (h.eff e he).data.lt k hk
      · exact (h.eff e he).out.lt k hk
theorem DeskG.mem_goings {D : DeskG} {c : Int} {g : GoingG} (h0 : 0 ≤ c) (h1 : c < 4) (h : D.calls c = some g) : g ∈ D.goings := by
  simp only [DeskG.goings, List.mem_filterMap, id]
  obtain rfl | rfl | rfl | rfl : c = 0 ∨ c = 1 ∨ c = 2 ∨ c = 3 := by omega
  all_goals exact ⟨_, by simp, h⟩

/-- The cell of a client's call. -/
theorem cell_calls {w : World} {D : DeskG} (h : IsDesk w D) {c : Int} (h0 : 0 ≤ c) (h1 : c < 4) : w.cell? ⟨D.b, 1 + c.toNat, none⟩ = some (goP (D.calls c)) := by
  rw [cell_of h.desk]
  obtain rfl | rfl | rfl | rfl : c = 0 ∨ c = 1 ∨ c = 2 ∨ c = 3 := by omega
  all_goals rfl

theorem waits_any (D : DeskG) (c : Int) (w : World) (h : IsDesk w D) (h0 : 0 ≤ c) (h1 : c < 4) :
    Calls Tryz.prog 20 #[.pointer (some ⟨D.b, 0, none⟩), .int .i64 c] w fun e w' => e = .returned (.bool (D.calls c).isSome) ∧ w' = w := by
  have hc := cell_calls h h0 h1
  clear h
  obtain ⟨o, ho⟩ : ∃ o, D.calls c = o := ⟨_, rfl⟩
  rw [ho] at hc ⊢
  clear ho
  cases o
  all_goals
    simp only [goP] at hc
    obtain rfl | rfl | rfl | rfl : c = 0 ∨ c = 1 ∨ c = 2 ∨ c = 3 := by omega
  all_goals
    simp at hc
    go_enter Tryz.func20, Tryz.ntmps20
    go_wp2_with (go_at_call 33; refine (isClient_yes _ _ _ (by omega) (by omega)).mono ?_; rintro e w' ⟨rfl, rfl⟩)
    go_ret
    exact ⟨rfl, rfl⟩
theorem waits_no (a : Addr) (c : Int) (w : World) (h : c < 0 ∨ 4 ≤ c) :
    Calls Tryz.prog 20 #[.pointer (some a), .int .i64 c] w fun e w' => e = .returned (.bool false) ∧ w' = w := by
  go_enter Tryz.func20, Tryz.ntmps20
  go_wp2_with (go_at_call 33; refine (isClient_no _ _ _ h).mono ?_; rintro e w' ⟨rfl, rfl⟩)
  go_ret
  exact ⟨rfl, rfl⟩

theorem invoke_no (a : Addr) (c kind : Int) (name : ByteArray) (level handle : Int) (dv : Value) (w : World) (hd : ∃ a n c, dv = .slice a n c) (h : c < 0 ∨ 4 ≤ c) :
    Calls Tryz.prog 18 #[.pointer (some a), .int .i64 c, callV kind name level handle dv] w fun e w' => e = .returned (.int .i64 1) ∧ Upd [] w w' := by
  obtain ⟨x, y, z, rfl⟩ := hd
  unfold callV
  go_enter Tryz.func18, Tryz.ntmps18
  go_wp2_with (go_at_call 33; refine (isClient_no _ _ _ h).mono ?_; rintro e w' ⟨rfl, rfl⟩)
  go_ret
  exact ⟨rfl, by (with_reducible (repeat (first | exact Upd.refl _ _ | refine Upd.alloc ?_ _ | refine Upd.drew ?_ | refine Upd.drewN ?_ _ | refine Upd.setCell ?_ (by first | (left; simp; done) | (right; simp; done) | (right; simp; omega)) _)))⟩
theorem invoke_busy (D : DeskG) (c kind : Int) (name : ByteArray) (level handle : Int) (dv : Value) (w : World) (hd : ∃ a n c, dv = .slice a n c) (h : IsDesk w D) (h0 : 0 ≤ c) (h1 : c < 4) (hb : (D.calls c).isSome) :
    Calls Tryz.prog 18 #[.pointer (some ⟨D.b, 0, none⟩), .int .i64 c, callV kind name level handle dv] w fun e w' => e = .returned (.int .i64 8) ∧ Upd [] w w' := by
  obtain ⟨x, y, z, rfl⟩ := hd
  obtain ⟨g, hg⟩ := Option.isSome_iff_exists.1 hb
  have hc := cell_calls h h0 h1
  have hs : D.b < w.heap.size := lt_of_heap h.desk
  rw [hg] at hc
  simp only [goP] at hc
  clear h hb hg
  unfold callV
  obtain rfl | rfl | rfl | rfl : c = 0 ∨ c = 1 ∨ c = 2 ∨ c = 3 := by omega
  all_goals
    simp at hc
    go_enter Tryz.func18, Tryz.ntmps18
    go_wp2_with (go_at_call 33; refine (isClient_yes _ _ _ (by omega) (by omega)).mono ?_; rintro e w' ⟨rfl, rfl⟩)
    go_ret
    exact ⟨rfl, by (with_reducible (repeat (first | exact Upd.refl _ _ | refine Upd.alloc ?_ _ | refine Upd.drew ?_ | refine Upd.drewN ?_ _ | refine Upd.setCell ?_ (by first | (left; simp; done) | (right; simp; done) | (right; simp; omega)) _)))⟩
end Go.Proofs.YtmcnjikafppccaaGreat
