/- Words that all the texts of this seat use: what a call may have changed ('Upd'), a block's cells, run equations of maps with int keys. -/
import Derived.Test.YtmcnjikafppccaaGreatProg
import Derived.WalkKit
import Derived.Deep.QuietTactic
import Derived.BigQuiet
import Derived.StillTailTactics
import Derived.WalkLawsBesides
import Derived.Lib.Hide
namespace Go.Proofs.YtmcnjikafppccaaGreat
open Go.RowKit

/-- What a call may have changed: blocks of S, and new ones. -/
structure Upd (S : List Nat) (w w' : World) : Prop where
  os : w'.os = w.os
  tape : w'.tape = w.tape
  output : w'.output = w.output
  size : w.heap.size ≤ w'.heap.size
  same : ∀ k, k < w.heap.size → k ∉ S → w'.heap[k]? = w.heap[k]?

theorem lt_of_heap {w : World} {k : Nat} {o : Obj} (h : w.heap[k]? = some o) : k < w.heap.size := by
  have := (Array.getElem?_eq_some_iff.1 h).1; exact this

namespace Upd
variable {S S' : List Nat} {a w w' : World}
theorem refl (S : List Nat) (w : World) : Upd S w w := ⟨rfl, rfl, rfl, Nat.le_refl _, fun _ _ _ => rfl⟩
theorem trans (h : Upd S a w) (k : Upd S w w') : Upd S a w' :=
  ⟨k.os.trans h.os, k.tape.trans h.tape, k.output.trans h.output, Nat.le_trans h.size k.size,
   fun i hi hs => (k.same i (Nat.lt_of_lt_of_le hi h.size) hs).trans (h.same i hi hs)⟩
theorem mono (h : Upd S a w) (hs : ∀ k, k ∈ S → k ∈ S') : Upd S' a w :=
  ⟨h.os, h.tape, h.output, h.size, fun i hi hn => h.same i hi (fun hm => hn (hs i hm))⟩
/-- What is changed beyond the old heap need not be named. -/
theorem drop (h : Upd S a w) (hs : ∀ k, k ∈ S → k ∈ S' ∨ a.heap.size ≤ k) : Upd S' a w :=
  ⟨h.os, h.tape, h.output, h.size, fun i hi hn => h.same i hi (fun hm => by
    rcases hs i hm with h1 | h1
    · exact hn h1
    · omega)⟩
theorem drewN (h : Upd S a w) (n : Nat) : Upd S a (w.drewN n) := ⟨h.os, h.tape, h.output, h.size, h.same⟩
theorem drew (h : Upd S a w) : Upd S a w.drew := ⟨h.os, h.tape, h.output, h.size, h.same⟩
theorem setCell (h : Upd S a w) {p : Addr} (hp : p.block ∈ S ∨ a.heap.size ≤ p.block) (u : Value) : Upd S a (w.setCell p u) := by
  refine ⟨h.os, h.tape, h.output, by simpa using h.size, fun k hk hn => ?_⟩
  rw [Below.heap_setCell _ _ _ _ (fun e => by
    subst e
    rcases hp with hp | hp
    · exact hn hp
    · omega)]
  exact h.same k hk hn
theorem alloc (h : Upd S a w) (o : Obj) : Upd S a (w.alloc o) := by
  refine ⟨h.os, h.tape, h.output, by have := h.size; simp; omega, fun k hk hn => ?_⟩
  rw [Below.heap_alloc _ _ _ (by have := h.size; omega)]
  exact h.same k hk hn
theorem blk (h : Upd S a w) {k : Nat} {o : Obj} (hb : a.heap[k]? = some o) (hk : k ∉ S) : w.heap[k]? = some o :=
  (h.same k (lt_of_heap hb) hk).trans hb
theorem cell (h : Upd S a w) {p : Addr} (hp : p.block < a.heap.size) (hn : p.block ∉ S) : w.cell? p = a.cell? p := World.cell?_of_block (w := a) (h.same p.block hp hn)
theorem below (h : Upd [] a w) : Below a.heap.size a w := ⟨h.os, h.tape, h.output, h.size, fun k hk => h.same k hk (by simp)⟩
theorem of_below (h : Below a.heap.size a w) : Upd S a w := ⟨h.os, h.tape, h.output, h.size, fun k hk _ => h.block k hk⟩
end Upd

/-- A block of cells, none frozen, reads so. -/
theorem cells_of {w : World} {b : Nat} {c : Array Value} {T : TypeId} (h : w.heap[b]? = some (.cells c T (0, 0))) :
    (∀ o, w.cell? ⟨b, o, none⟩ = c[o]?) ∧ (∀ o, w.frozen? ⟨b, o, none⟩ = false) := by
  constructor <;> intro o
  · simp [World.cell?, h]
  · simp [World.frozen?, h]
theorem cell_of {w : World} {b : Nat} {c : Array Value} {T : TypeId} (h : w.heap[b]? = some (.cells c T (0, 0))) : ∀ o, w.cell? ⟨b, o, none⟩ = c[o]? := (cells_of h).1
theorem froz_of {w : World} {b : Nat} {c : Array Value} {T : TypeId} (h : w.heap[b]? = some (.cells c T (0, 0))) : ∀ o, w.frozen? ⟨b, o, none⟩ = false := (cells_of h).2
theorem heap_setCell_at {w : World} {b : Nat} {c : Array Value} {T : TypeId} {f : Nat × Nat} (h : w.heap[b]? = some (.cells c T f)) (o : Nat) (u : Value) :
    (w.setCell ⟨b, o, none⟩ u).heap[b]? = some (.cells (c.setIfInBounds o u) T f) := by
  simp [World.setCell, Array.getElem?_modify, h]
theorem heap_setCell_ne {w : World} {a : Addr} {k : Nat} (h : k ≠ a.block) (u : Value) : (w.setCell a u).heap[k]? = w.heap[k]? := Below.heap_setCell _ _ _ _ h
theorem heap_new (w : World) (o : Obj) : (w.alloc o).heap[w.heap.size]? = some o := by
  show (w.heap.push o)[_]? = _
  simp
theorem heap_old {w : World} {k : Nat} {o x : Obj} (h : w.heap[k]? = some x) : (w.alloc o).heap[k]? = some x := by
  rw [Below.heap_alloc _ _ _ (lt_of_heap h)]; exact h

@[go_sem] theorem heap_alloc_lt {w : World} {o : Obj} {k : Nat} (h : k < w.heap.size) : (w.alloc o).heap[k]? = w.heap[k]? := Below.heap_alloc _ _ _ h
@[go_sem] theorem heap_setCell_not {w : World} {a : Addr} {u : Value} {k : Nat} (h : ¬ k = a.block) : (w.setCell a u).heap[k]? = w.heap[k]? := Below.heap_setCell _ _ _ _ h
@[go_sem] theorem heap_drew_rfl {w : World} : w.drew.heap = w.heap := rfl

theorem set3 {w : World} {b : Nat} {T : TypeId} {f : Nat × Nat} {x0 x1 x2 : Value} (h : w.heap[b]? = some (.cells #[x0, x1, x2] T f)) (y0 y1 y2 : Value) :
    (((w.setCell ⟨b, 0, none⟩ y0).setCell ⟨b, 1, none⟩ y1).setCell ⟨b, 2, none⟩ y2).heap[b]? = some (.cells #[y0, y1, y2] T f) :=
  (heap_setCell_at (heap_setCell_at (heap_setCell_at h 0 y0) 1 y1) 2 y2).trans (by simp)
theorem set5 {w : World} {b : Nat} {T : TypeId} {f : Nat × Nat} {x0 x1 x2 x3 x4 : Value} (h : w.heap[b]? = some (.cells #[x0, x1, x2, x3, x4] T f)) (y0 y1 y2 y3 y4 : Value) :
    (((((w.setCell ⟨b, 0, none⟩ y0).setCell ⟨b, 1, none⟩ y1).setCell ⟨b, 2, none⟩ y2).setCell ⟨b, 3, none⟩ y3).setCell ⟨b, 4, none⟩ y4).heap[b]? = some (.cells #[y0, y1, y2, y3, y4] T f) :=
  (heap_setCell_at (heap_setCell_at (heap_setCell_at (heap_setCell_at (heap_setCell_at h 0 y0) 1 y1) 2 y2) 3 y3) 4 y4).trans (by simp)

/-- The heap with another object at a block that is no row of cells. -/
def putB (w : World) (r : Nat) (o : Obj) : World := { w with heap := w.heap.setIfInBounds r o }
theorem heap_putB {w : World} {r : Nat} {o x : Obj} (h : w.heap[r]? = some x) : (putB w r o).heap[r]? = some o := by
  have := lt_of_heap h
  simp [putB, this]
theorem heap_putB_ne {w : World} {r k : Nat} {o : Obj} (h : k ≠ r) : (putB w r o).heap[k]? = w.heap[k]? := by
  simp only [putB]; rw [Array.getElem?_setIfInBounds_ne (Ne.symm h)]
@[simp, go_sem] theorem size_putB (w : World) (r : Nat) (o : Obj) : (putB w r o).heap.size = w.heap.size := by simp [putB]
theorem cell_putB {w : World} {r : Nat} {o : Obj} {a : Addr} (h : a.block ≠ r) : (putB w r o).cell? a = w.cell? a := by
  unfold World.cell?; rw [heap_putB_ne h]
theorem frozen_putB {w : World} {r : Nat} {o : Obj} {a : Addr} (h : a.block ≠ r) : (putB w r o).frozen? a = w.frozen? a := by
  unfold World.frozen?; rw [heap_putB_ne h]
theorem Upd.putB {S : List Nat} {a w : World} (h : Upd S a w) {r : Nat} (hr : r ∈ S ∨ a.heap.size ≤ r) (o : Obj) : Upd S a (putB w r o) := by
  refine ⟨h.os, h.tape, h.output, by simpa using h.size, fun k hk hn => ?_⟩
  rw [heap_putB_ne (fun e => by
    subst e
    rcases hr with hr | hr
    · exact hn hr
    · omega)]
  exact h.same k hk hn

/-- An entry of a map with int keys: key, value, stamp. -/
def mkI (x : Int × Value × Nat) : MapEntry := { key := .int .i64 x.1, val := x.2.1, born := x.2.2 }
/-- .. with string keys. -/
def mkS (x : ByteArray × Value × Nat) : MapEntry := { key := .string x.1, val := x.2.1, born := x.2.2 }
def mapI (l : List (Int × Value × Nat)) (c : Nat) : Obj := .map (l.map mkI).toArray c
def mapS (l : List (ByteArray × Value × Nat)) (c : Nat) : Obj := .map (l.map mkS).toArray c
def getI {α : Type} (k : Int) (l : List (Int × α)) : Option α := (l.find? (fun x => x.1 == k)).map (·.2)
def getS {α : Type} (k : ByteArray) (l : List (ByteArray × α)) : Option α := (l.find? (fun x => k == x.1)).map (·.2)

theorem findNow_int_miss {k : Int} : ∀ {l : List (Int × Value × Nat)} (i : Nat), getI k l = none →
    Instr.findNow (.int .i64) (.int .i64 k) (l.map mkI) i = some none
  | [], i, _ => by simp [Instr.findNow]
  | x :: l, i, h => by
    by_cases hx : x.1 = k
    · simp [getI, hx] at h
    · have hb : (x.1 == k) = false := by simpa using hx
      have hk : (k == x.1) = false := by simp; exact fun e => hx e.symm
      have h' : getI k l = none := by simpa [getI, List.find?_cons, hb] using h
      simp only [List.map_cons, Instr.findNow]
      simp only [mkI, Instr.sameNow, if_true, hk]
      exact findNow_int_miss (i + 1) h'
theorem findNow_int_hit {k : Int} {v : Value × Nat} : ∀ {l : List (Int × Value × Nat)} (i : Nat), getI k l = some v →
    ∃ j, Instr.findNow (.int .i64) (.int .i64 k) (l.map mkI) i = some (some (i + j, v.1)) ∧ j < l.length ∧ l.eraseIdx j = l.eraseP (fun x => x.1 == k)
  | [], i, h => by simp [getI] at h
  | x :: l, i, h => by
    by_cases hx : x.1 = k
    · have hk : (k == x.1) = true := by simp [hx]
      have hv : x.2 = v := by simpa [getI, List.find?_cons, hx] using h
      refine ⟨0, ?_, by simp, by simp [hx]⟩
      simp only [List.map_cons, Instr.findNow]
      simp only [mkI, Instr.sameNow, if_true, hk, hv, Nat.add_zero]
    · have hb : (x.1 == k) = false := by simpa using hx
      have hk : (k == x.1) = false := by simp; exact fun e => hx e.symm
      have h' : getI k l = some v := by simpa [getI, List.find?_cons, hb] using h
      obtain ⟨j, h1, h2, h3⟩ := findNow_int_hit (i + 1) h'
      refine ⟨j + 1, ?_, by simpa using h2, by simp [List.eraseIdx_cons_succ, h3, hb]⟩
      simp only [List.map_cons, Instr.findNow]
      simp only [mkI, Instr.sameNow, if_true, hk]
      rw [show i + (j + 1) = i + 1 + j by omega]; exact h1
theorem findNow_str_miss {k : ByteArray} : ∀ {l : List (ByteArray × Value × Nat)} (i : Nat), getS k l = none →
    Instr.findNow .string (.string k) (l.map mkS) i = some none
  | [], i, _ => by simp [Instr.findNow]
  | x :: l, i, h => by
    cases hk : (k == x.1) with
    | true => simp [getS, hk] at h
    | false =>
      have h' : getS k l = none := by simpa [getS, List.find?_cons, hk] using h
      simp only [List.map_cons, Instr.findNow]
      simp only [mkS, Instr.sameNow, hk]
      exact findNow_str_miss (i + 1) h'
theorem findNow_str_hit {k : ByteArray} {v : Value × Nat} : ∀ {l : List (ByteArray × Value × Nat)} (i : Nat), getS k l = some v →
    ∃ j, Instr.findNow .string (.string k) (l.map mkS) i = some (some (i + j, v.1)) ∧ j < l.length ∧ l.eraseIdx j = l.eraseP (fun x => k == x.1)
  | [], i, h => by simp [getS] at h
  | x :: l, i, h => by
    cases hk : (k == x.1) with
    | true =>
      have hv : x.2 = v := by simpa [getS, List.find?_cons, hk] using h
      refine ⟨0, ?_, by simp, by simp [hk]⟩
      simp only [List.map_cons, Instr.findNow]
      simp only [mkS, Instr.sameNow, hk, hv, Nat.add_zero]
    | false =>
      have h' : getS k l = some v := by simpa [getS, List.find?_cons, hk] using h
      obtain ⟨j, h1, h2, h3⟩ := findNow_str_hit (i + 1) h'
      refine ⟨j + 1, ?_, by simpa using h2, by simp [List.eraseIdx_cons_succ, h3, hk]⟩
      simp only [List.map_cons, Instr.findNow]
      simp only [mkS, Instr.sameNow, hk]
      rw [show i + (j + 1) = i + 1 + j by omega]; exact h1

section
variable {P : Program} {w : World} {T kt et : TypeId} {r : Nat}
theorem run_checkKey_int (hk : P.underlying kt = some (.int .i64)) (b : Bool) (n : Nat) (k : Int) : (Instr.checkKey b (n + 1) kt (.int .i64 k)).run P w = .ok () w := by
  simp [Instr.checkKey, run_underlying hk]
theorem run_checkKey_str (hk : P.underlying kt = some .string) (b : Bool) (n : Nat) (k : ByteArray) : (Instr.checkKey b (n + 1) kt (.string k)).run P w = .ok () w := by
  simp [Instr.checkKey, run_underlying hk]
theorem run_getObj {o : Obj} (h : w.heap[r]? = some o) (hc : ∀ c t f, o ≠ .cells c t f) : (getObj r).run P w = .ok o w := by
  cases o <;> simp_all [getObj, Sem.run]
theorem run_setObj {o x : Obj} (h : w.heap[r]? = some x) (hc : ∀ c t f, x ≠ .cells c t f) : (setObj r o).run P w = .ok () (putB w r o) := by
  cases x <;> simp_all [setObj, Sem.run, putB]
theorem run_getI {l : List (Int × Value × Nat)} {c : Nat} (h : w.heap[r]? = some (mapI l c)) : (getObj r).run P w = .ok (.map (l.map mkI).toArray c) w := run_getObj h (by simp)
theorem run_getS {l : List (ByteArray × Value × Nat)} {c : Nat} (h : w.heap[r]? = some (mapS l c)) : (getObj r).run P w = .ok (.map (l.map mkS).toArray c) w := run_getObj h (by simp)
theorem run_setI {l : List (Int × Value × Nat)} {c : Nat} {o : Obj} (h : w.heap[r]? = some (mapI l c)) : (setObj r o).run P w = .ok () (putB w r o) := run_setObj h (by simp [mapI])
theorem run_setS {l : List (ByteArray × Value × Nat)} {c : Nat} {o : Obj} (h : w.heap[r]? = some (mapS l c)) : (setObj r o).run P w = .ok () (putB w r o) := run_setObj h (by simp [mapS])
theorem run_lookup_hit {l : List (Int × Value × Nat)} {c : Nat} {k : Int} {v : Value × Nat} (hT : P.underlying T = some (.map kt et)) (hk : P.underlying kt = some (.int .i64))
    (h : w.heap[r]? = some (mapI l c)) (hl : getI k l = some v) (b : Bool) :
    (Instr.lookup T (.map (some r)) (.int .i64 k) b).run P w = .ok (if b then .tuple #[v.1, .bool true] else v.1) w := by
  obtain ⟨j, hj, -, -⟩ := findNow_int_hit 0 hl
  have hc := fun bb => run_checkKey_int (P := P) (w := w) hk bb 9999 k
  unfold Instr.lookup
  simp [run_underlying hT, run_underlying hk, run_getI h, Instr.findKey, hj, hc]
theorem run_lookup_miss {l : List (Int × Value × Nat)} {c : Nat} {k : Int} {z : Value} (hT : P.underlying T = some (.map kt et)) (hk : P.underlying kt = some (.int .i64))
    (h : w.heap[r]? = some (mapI l c)) (hl : getI k l = none) (hz : (zeroValue et).run P w = .ok z w) (b : Bool) :
    (Instr.lookup T (.map (some r)) (.int .i64 k) b).run P w = .ok (if b then .tuple #[z, .bool false] else z) w := by
  have hj := findNow_int_miss 0 hl
  have hc := fun bb => run_checkKey_int (P := P) (w := w) hk bb 9999 k
  unfold Instr.lookup
  simp [run_underlying hT, run_underlying hk, run_getI h, Instr.findKey, hj, hc, hz]
theorem run_lookupS_hit {l : List (ByteArray × Value × Nat)} {c : Nat} {k : ByteArray} {v : Value × Nat} (hT : P.underlying T = some (.map kt et)) (hk : P.underlying kt = some .string)
    (h : w.heap[r]? = some (mapS l c)) (hl : getS k l = some v) (b : Bool) :
    (Instr.lookup T (.map (some r)) (.string k) b).run P w = .ok (if b then .tuple #[v.1, .bool true] else v.1) w := by
  obtain ⟨j, hj, -, -⟩ := findNow_str_hit 0 hl
  have hc := fun bb => run_checkKey_str (P := P) (w := w) hk bb 9999 k
  unfold Instr.lookup
  simp [run_underlying hT, run_underlying hk, run_getS h, Instr.findKey, hj, hc]
theorem run_lookupS_miss {l : List (ByteArray × Value × Nat)} {c : Nat} {k : ByteArray} {z : Value} (hT : P.underlying T = some (.map kt et)) (hk : P.underlying kt = some .string)
    (h : w.heap[r]? = some (mapS l c)) (hl : getS k l = none) (hz : (zeroValue et).run P w = .ok z w) (b : Bool) :
    (Instr.lookup T (.map (some r)) (.string k) b).run P w = .ok (if b then .tuple #[z, .bool false] else z) w := by
  have hj := findNow_str_miss 0 hl
  have hc := fun bb => run_checkKey_str (P := P) (w := w) hk bb 9999 k
  unfold Instr.lookup
  simp [run_underlying hT, run_underlying hk, run_getS h, Instr.findKey, hj, hc, hz]
/-- A new key. -/
theorem run_update_new {l : List (Int × Value × Nat)} {c : Nat} {k : Int} (v : Value) (hT : P.underlying T = some (.map kt et)) (hk : P.underlying kt = some (.int .i64))
    (h : w.heap[r]? = some (mapI l c)) (hl : getI k l = none) :
    (Instr.mapUpdate T (.map (some r)) (.int .i64 k) v).run P w = .ok () (putB w r (mapI (l ++ [(k, v, c)]) (c + 1))) := by
  have hj := findNow_int_miss 0 hl
  have hc := fun bb => run_checkKey_int (P := P) (w := w) hk bb 9999 k
  unfold Instr.mapUpdate
  simp [run_underlying hT, run_underlying hk, run_getI h, run_setI h, Instr.findKey, hj, hc]
  simp [mapI, mkI]
theorem run_updateS_new {l : List (ByteArray × Value × Nat)} {c : Nat} {k : ByteArray} (v : Value) (hT : P.underlying T = some (.map kt et)) (hk : P.underlying kt = some .string)
    (h : w.heap[r]? = some (mapS l c)) (hl : getS k l = none) :
    (Instr.mapUpdate T (.map (some r)) (.string k) v).run P w = .ok () (putB w r (mapS (l ++ [(k, v, c)]) (c + 1))) := by
  have hj := findNow_str_miss 0 hl
  have hc := fun bb => run_checkKey_str (P := P) (w := w) hk bb 9999 k
  unfold Instr.mapUpdate
  simp [run_underlying hT, run_underlying hk, run_getS h, run_setS h, Instr.findKey, hj, hc]
  simp [mapS, mkS]
theorem erase_map {α β : Type} (f : α → β) : ∀ (l : List α) (j : Nat), (l.map f).eraseIdx j = (l.eraseIdx j).map f
  | [], _ => rfl
  | _ :: _, 0 => rfl
  | x :: l, j + 1 => by simp [List.eraseIdx_cons_succ, erase_map f l j]
theorem eraseP_miss {l : List (Int × Value × Nat)} {k : Int} (h : getI k l = none) : l.eraseP (fun x => x.1 == k) = l := by
  apply List.eraseP_of_forall_not
  intro a ha hb
  unfold getI at h
  simp only [Option.map_eq_none_iff, List.find?_eq_none] at h
  exact h a ha hb
theorem erasePS_miss {l : List (ByteArray × Value × Nat)} {k : ByteArray} (h : getS k l = none) : l.eraseP (fun x => k == x.1) = l := by
  apply List.eraseP_of_forall_not
  intro a ha hb
  unfold getS at h
  simp only [Option.map_eq_none_iff, List.find?_eq_none] at h
  exact h a ha hb
theorem run_delete {l : List (Int × Value × Nat)} {c : Nat} {k : Int} {x : TypeId} {ts : Array TypeId} (hT : P.underlying T = some (.map kt et)) (hk : P.underlying kt = some (.int .i64))
    (h : w.heap[r]? = some (mapI l c)) (hts : ts[0]? = some T) :
    (Builtin.delete_ ts x #[.map (some r), .int .i64 k]).run P w = .ok (.tuple #[]) (putB w r (mapI (l.eraseP (fun x => x.1 == k)) c)) := by
  have hc := fun bb => run_checkKey_int (P := P) (w := w) hk bb 9999 k
  unfold Builtin.delete_
  cases hg : getI k l with
  | none =>
    have hj := findNow_int_miss 0 hg
    rw [eraseP_miss hg]
    simp [hts, run_underlying hT, run_underlying hk, run_getI h, run_setI h, Instr.findKey, hj, hc, mapI]
  | some v =>
    obtain ⟨j, hj, -, he⟩ := findNow_int_hit 0 hg
    rw [← he]
    simp [hts, run_underlying hT, run_underlying hk, run_getI h, run_setI h, Instr.findKey, hj, hc, erase_map, mapI]
theorem run_deleteS {l : List (ByteArray × Value × Nat)} {c : Nat} {k : ByteArray} {x : TypeId} {ts : Array TypeId} (hT : P.underlying T = some (.map kt et)) (hk : P.underlying kt = some .string)
    (h : w.heap[r]? = some (mapS l c)) (hts : ts[0]? = some T) :
    (Builtin.delete_ ts x #[.map (some r), .string k]).run P w = .ok (.tuple #[]) (putB w r (mapS (l.eraseP (fun x => k == x.1)) c)) := by
  have hc := fun bb => run_checkKey_str (P := P) (w := w) hk bb 9999 k
  unfold Builtin.delete_
  cases hg : getS k l with
  | none =>
    have hj := findNow_str_miss 0 hg
    rw [erasePS_miss hg]
    simp [hts, run_underlying hT, run_underlying hk, run_getS h, run_setS h, Instr.findKey, hj, hc, mapS]
  | some v =>
    obtain ⟨j, hj, -, he⟩ := findNow_str_hit 0 hg
    rw [← he]
    simp [hts, run_underlying hT, run_underlying hk, run_getS h, run_setS h, Instr.findKey, hj, hc, erase_map, mapS]
end
end Go.Proofs.YtmcnjikafppccaaGreat
