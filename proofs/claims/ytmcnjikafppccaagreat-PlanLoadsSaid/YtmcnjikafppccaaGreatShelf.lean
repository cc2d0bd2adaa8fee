/- Contracts of package shelf. -/
import Derived.Test.YtmcnjikafppccaaGreatPurse
namespace Go.Proofs.YtmcnjikafppccaaGreat
open Go.RowKit

/-- A dictionary's book: its block, the block of its bytes. -/
structure Book where
  b : Nat
  db : Nat
  dict : List UInt8
  cap : Nat
  cur : Bool
  pins : Int
structure ShelfG where
  b : Nat
  bm : Nat
  nm : Nat
  books : List (Int × Book × Nat)
  names : List (ByteArray × Int × Nat)
  last : Int
  c1 : Nat
  c2 : Nat
def bookEnt (x : Int × Book × Nat) : Int × Value × Nat := (x.1, .pointer (some ⟨x.2.1.b, 0, none⟩), x.2.2)
def nameEnt (x : ByteArray × Int × Nat) : ByteArray × Value × Nat := (x.1, .int .i64 x.2.1, x.2.2)
def Book.dv (x : Book) : Value := .slice (some ⟨x.db, 0, none⟩) x.dict.length x.cap
def bookO (x : Book) : Obj := .cells #[x.dv, .bool x.cur, .int .i64 x.pins] 97 (0, 0)
def shelfO (G : ShelfG) : Obj := .cells #[.map (some G.bm), .map (some G.nm), .int .i64 G.last] 75 (0, 0)
/-- A block that begins with bytes. -/
def RowOf (w : World) (b : Nat) (l : List UInt8) (cap : Nat) : Prop :=
  ∃ cs : Array Value, w.heap[b]? = some (.cells cs 5 (0, 0)) ∧ l.length ≤ cap ∧ cap ≤ cs.size ∧ ∀ i (h : i < l.length), cs[i]? = some (.int .u8 (l[i].toNat : Int))
structure IsShelf (w : World) (G : ShelfG) : Prop where
  shelf : w.heap[G.b]? = some (shelfO G)
  books : w.heap[G.bm]? = some (mapI (G.books.map bookEnt) G.c1)
  names : w.heap[G.nm]? = some (mapS (G.names.map nameEnt) G.c2)
  book : ∀ x ∈ G.books, w.heap[x.2.1.b]? = some (bookO x.2.1) ∧ RowOf w x.2.1.db x.2.1.dict x.2.1.cap

theorem getI_map {α β : Type} (f : α → β) (k : Int) : ∀ l : List (Int × α), getI k (l.map fun x => (x.1, f x.2)) = (getI k l).map f
  | [] => rfl
  | x :: l => by
    have ih := getI_map f k l
    simp only [getI, List.map_cons, List.find?_cons] at ih ⊢
    cases h : x.1 == k
    · exact ih
    · rfl
theorem getS_map {α β : Type} (f : α → β) (k : ByteArray) : ∀ l : List (ByteArray × α), getS k (l.map fun x => (x.1, f x.2)) = (getS k l).map f
  | [] => rfl
  | x :: l => by
    have ih := getS_map f k l
    simp only [getS, List.map_cons, List.find?_cons] at ih ⊢
    cases h : k == x.1
    · exact ih
    · rfl
def idAt (G : ShelfG) (k : ByteArray) : Int := ((getS k G.names).map (·.1)).getD 0

theorem zero_int (w : World) : (zeroValue 3).run Tryz.prog w = .ok (.int .i64 0) w := by kernel_rfl
theorem zero_bookp (w : World) : (zeroValue 95).run Tryz.prog w = .ok (.pointer none) w := by kernel_rfl

theorem run_names {w : World} {G : ShelfG} (h : w.heap[G.nm]? = some (mapS (G.names.map nameEnt) G.c2)) (k : ByteArray) :
    (Instr.lookup 73 (.map (some G.nm)) (.string k) false).run Tryz.prog w = .ok (.int .i64 (idAt G k)) w := by
  have e : getS k (G.names.map nameEnt) = (getS k G.names).map (fun y => (Value.int .i64 y.1, y.2)) := getS_map (fun y : Int × Nat => (Value.int .i64 y.1, y.2)) k G.names
  cases hg : getS k G.names with
  | none =>
    rw [hg] at e
    rw [run_lookupS_miss Tryz.underlying73 Tryz.underlying9 h e (zero_int w)]
    simp [idAt, hg]
  | some y =>
    rw [hg] at e
    rw [run_lookupS_hit Tryz.underlying73 Tryz.underlying9 h e]
    simp [idAt, hg]

theorem at_any (G : ShelfG) (k : ByteArray) (w : World) (h : IsShelf w G) :
    Calls Tryz.prog 54 #[.pointer (some ⟨G.b, 0, none⟩), .string k] w fun e w' => e = .returned (.int .i64 (idAt G k)) ∧ w' = w := by
  have hc := cell_of h.shelf
  have hl := run_names h.names k
  clear h
  go_enter Tryz.func54, Tryz.ntmps54
  go_wp2
  go_ret
  exact ⟨rfl, rfl⟩

/-- The book of a number. -/
def bookAt (G : ShelfG) (id : Int) : Option Book := (getI id G.books).map (·.1)
def bookPtr : Option Book → Value
  | some x => .pointer (some ⟨x.b, 0, none⟩)
  | none => .pointer none
theorem run_books {w : World} {G : ShelfG} (h : w.heap[G.bm]? = some (mapI (G.books.map bookEnt) G.c1)) (id : Int) (b : Bool) :
    (Instr.lookup 72 (.map (some G.bm)) (.int .i64 id) b).run Tryz.prog w = .ok (if b then .tuple #[bookPtr (bookAt G id), .bool (bookAt G id).isSome] else bookPtr (bookAt G id)) w := by
  have e : getI id (G.books.map bookEnt) = (getI id G.books).map (fun y => (Value.pointer (some ⟨y.1.b, 0, none⟩), y.2)) := getI_map (fun y : Book × Nat => (Value.pointer (some ⟨y.1.b, 0, none⟩), y.2)) id G.books
  cases hg : getI id G.books with
  | none =>
    rw [hg] at e
    rw [run_lookup_miss Tryz.underlying72 Tryz.underlying3 h e (zero_bookp w)]
    simp [bookAt, hg, bookPtr]
  | some y =>
    rw [hg] at e
    rw [run_lookup_hit Tryz.underlying72 Tryz.underlying3 h e]
    simp [bookAt, hg, bookPtr]

theorem book_any (G : ShelfG) (id : Int) (w : World) (h : IsShelf w G) :
    Calls Tryz.prog 65 #[.pointer (some ⟨G.b, 0, none⟩), .int .i64 id] w fun e w' => e = .returned (bookPtr (bookAt G id)) ∧ w' = w := by
  have hc := cell_of h.shelf
  have hl := run_books h.books id
  clear h
  go_enter Tryz.func65, Tryz.ntmps65
  go_wp2
  go_ret
  exact ⟨rfl, rfl⟩
end Go.Proofs.YtmcnjikafppccaaGreat
