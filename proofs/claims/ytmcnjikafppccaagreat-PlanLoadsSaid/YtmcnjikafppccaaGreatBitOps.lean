/- Bit operations of the model on small numbers. -/
import Derived.Test.YtmcnjikafppccaaGreatBase
import Derived.Laws.BitsLemmas
import Derived.Test.YtmcnjikafppccaaGreatBitsP
import Derived.Test.YtmcnjikafppccaaGreatSlices
import Derived.Laws.OwnMore
namespace Go.Proofs.YtmcnjikafppccaaGreat
open Go.RowKit

theorem wraps_i64 (n : Int) (h₀ : 0 ≤ n) (h₁ : n < 2 ^ 63) : IntKind.i64.wrap n = n := by rw [IntKind.wrap_i64]; omega
theorem and1_i64 (x : Int) (h0 : 0 ≤ x) (h1 : x < 2 ^ 63) : bits .and .i64 x 1 = x % 2 := by
  have := bits_mask .i64 63 (by decide) wraps_i64 1 (by decide) x h0 h1
  simpa using this
theorem and1_u8 (x : Int) (h0 : 0 ≤ x) (h1 : x < 256) : bits .and .u8 x 1 = x % 2 := by
  have := bits_mask .u8 8 (by decide) wraps_u8 1 (by decide) x h0 (by omega)
  simpa using this
theorem div_pow_cast (v k : Nat) : (v : Int) / 2 ^ k = ((v / 2 ^ k : Nat) : Int) := by simp
theorem testBit_eq (v k : Nat) : ((((v / 2 ^ k : Nat) : Int) % 2) == 1) = v.testBit k := by
  rw [Nat.testBit_eq_decide_div_mod_eq]
  generalize v / 2 ^ k = m
  rw [Bool.eq_iff_iff]
  simp only [beq_iff_eq, decide_eq_true_eq]
  omega
theorem bit_i64 (v k : Nat) (h : v < 2 ^ 63) : (bits .and .i64 ((v : Int) / 2 ^ k) 1 == 1) = v.testBit k := by
  have hd : v / 2 ^ k ≤ v := Nat.div_le_self _ _
  rw [div_pow_cast, ← testBit_eq]
  generalize v / 2 ^ k = m at *
  rw [and1_i64 _ (by omega) (by omega)]
theorem bit_u8 (v k : Nat) (h : v < 256) : (bits .and .u8 ((v : Int) / 2 ^ k) 1 == 1) = v.testBit k := by
  have hd : v / 2 ^ k ≤ v := Nat.div_le_self _ _
  rw [div_pow_cast, ← testBit_eq]
  generalize v / 2 ^ k = m at *
  rw [and1_u8 _ (by omega) (by omega)]
theorem or_u8 (a b : Nat) (ha : a < 256) (hb : b < 256) : bits .or .u8 (a : Int) (b : Int) = ((a ||| b : Nat) : Int) := (bits_nat .u8 8 (by decide) wraps_u8 a b ha hb).2
theorem and_u8 (a b : Nat) (ha : a < 256) (hb : b < 256) : bits .and .u8 (a : Int) (b : Int) = ((a &&& b : Nat) : Int) := (bits_nat .u8 8 (by decide) wraps_u8 a b ha hb).1
theorem or_i64 (a b : Nat) (ha : a < 2 ^ 63) (hb : b < 2 ^ 63) : bits .or .i64 (a : Int) (b : Int) = ((a ||| b : Nat) : Int) := (bits_nat .i64 63 (by decide) wraps_i64 a b ha hb).2
theorem wrap_pow {n : Nat} (hn : n ≤ 24) : wrap64 ((2 : Int) ^ n) = ((2 ^ n : Nat) : Int) := by
  have h : (2 ^ n : Nat) ≤ 16777216 := Nat.pow_le_pow_right (by omega) hn
  have e : ((2 : Int) ^ n) = ((2 ^ n : Nat) : Int) := by simp
  rw [e]
  generalize (2 ^ n : Nat) = m at *
  unfold wrap64
  omega
theorem add_none (g o k : Nat) : (⟨g, o, none⟩ : Addr).add k = ⟨g, o + k, none⟩ := by unfold Addr.add; split <;> simp_all
/-- A part of a slice. -/
theorem Rd.sub {w : World} {g o n c : Nat} {xs : List Value} (h : Rd w (.slice (some ⟨g, o, none⟩) n c) xs) (k m c' : Nat) (hkm : k ≤ m) (hm : m ≤ n) (hc : m - k ≤ c') : Rd w (.slice (some ⟨g, o + k, none⟩) (m - k) c') ((xs.take m).drop k) := by
  rcases h with ⟨h, -⟩ | ⟨ad, c2, hv, hc2, hcell⟩
  · cases h
  · simp only [Value.slice.injEq, Option.some.injEq] at hv
    obtain ⟨rfl, rfl, rfl⟩ := hv
    refine .inr ⟨⟨g, o + k, none⟩, c', ?_, ?_, fun j u hu => ?_⟩
    · have : ((xs.take m).drop k).length = m - k := by simp; omega
      rw [this]
    · simp; omega
    · rw [List.getElem?_drop, List.getElem?_take] at hu
      split at hu
      · have := hcell (k + j) u hu
        rw [add_none] at this ⊢
        rw [Nat.add_assoc]
        exact this
      · cases hu
/-- The cells of an owned row that is not empty. -/
theorem own_cells {w : World} {base e n : Nat} {v : Value} {xs : List Value} (h : w.ownsRow base e 1 v n xs) (h0 : 0 < n) :
    ∃ g c, v = .slice (some ⟨g, 0, none⟩) n c ∧ base ≤ g ∧ g < w.heap.size ∧ ∀ j u, xs[j]? = some u → w.cell? ⟨g, j, none⟩ = some u := by
  rcases h.2 with ⟨rfl, h1⟩ | ⟨g, cap, cur, rfl, _⟩
  · have := h.1
    subst h1
    simp at this
    omega
  · have hl := h.lt g rfl
    refine ⟨g, cap, rfl, hl.1, hl.2, fun j u hu => ?_⟩
    have := h.cells (g := g) rfl j u hu
    have ha : (⟨g, 0, none⟩ : Addr).add j = ⟨g, j, none⟩ := by unfold Addr.add; split <;> simp_all
    rwa [ha] at this
/-- A block that is known whole, as an owned row. -/
theorem own_block {w : World} {base e g n : Nat} {cs : List Value} (h : w.heap[g]? = some (.cells cs.toArray e (0, 0))) (hb : base ≤ g) (hn : cs.length = n) (hm : n ≤ 1000000000) : w.ownsRow base e 1 (.slice (some ⟨g, 0, none⟩) n n) n cs :=
  ⟨by omega, .inr ⟨g, n, cs.toArray, rfl, hb, h, Nat.le_refl _, by unfold maxLen; omega, by simp; omega, by rw [List.take_of_length_le (by simp; omega)]⟩⟩
/-- make of bytes, of ints. -/
theorem mk_u8 (w : World) (n : Nat) (c : Int) (hc : c = n) (hn : n ≤ 100000000) : (Instr.makeSlice 25 (.int .i64 c) (.int .i64 c)).run Tryz.prog w = .ok (.slice (some ⟨w.heap.size, 0, none⟩) n n) (w.alloc (.cells (List.replicate n (.int .u8 0)).toArray 5)) := by
  obtain ⟨i0, hi, hz0, hz1, hz2⟩ := info_parts info8
  have := run_make (P := Tryz.prog) w 25 5 i0 _ Tryz.underlying25 hi hz0 .i64 .i64 c c (by omega) (by omega) (by rw [hz2]; omega) (by omega)
  rw [this, hc, hz1]
  simp only [Int.toNat_natCast, Nat.mul_one, Value.cells]
  rw [← toList_madeCells_one]
theorem infoInt : (Tryz.prog.info? 3).map (fun i => (i.zero, i.size, i.bytes)) = some (some (.int .i64 0), 1, 8) := by kernel_rfl
theorem mk_int (w : World) (n : Nat) (c : Int) (hc : c = n) (hn : n ≤ 100000000) : (Instr.makeSlice 36 (.int .i64 c) (.int .i64 c)).run Tryz.prog w = .ok (.slice (some ⟨w.heap.size, 0, none⟩) n n) (w.alloc (.cells (List.replicate n (.int .i64 0)).toArray 3)) := by
  obtain ⟨i0, hi, hz0, hz1, hz2⟩ := info_parts infoInt
  have := run_make (P := Tryz.prog) w 36 3 i0 _ Tryz.underlying36 hi hz0 .i64 .i64 c c (by omega) (by omega) (by rw [hz2]; omega) (by omega)
  rw [this, hc, hz1]
  simp only [Int.toNat_natCast, Nat.mul_one, Value.cells]
  rw [← toList_madeCells_one]
/-- The cells of a block, as what is to be appended. -/
theorem news_block {w : World} {B : Nat} {cs : List Value} {t : TypeId} (h : w.heap[B]? = some (.cells cs.toArray t (0, 0))) : ∀ j u, cs[j]? = some u → w.cell? ((⟨B, 0, none⟩ : Addr).add j) = some u := by
  intro j u hu
  have ha : (⟨B, 0, none⟩ : Addr).add j = ⟨B, j, none⟩ := by unfold Addr.add; split <;> simp_all
  rw [ha, cell_of h]
  simpa using hu
end Go.Proofs.YtmcnjikafppccaaGreat
