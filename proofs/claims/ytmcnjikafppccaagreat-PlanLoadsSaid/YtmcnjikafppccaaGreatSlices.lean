/- Slices: what a slice reads as ('Rd'), append from whatever source onto an owned row. -/
import Derived.Test.YtmcnjikafppccaaGreatBase
import Derived.Deep.AppendSrc
namespace Go.Proofs.YtmcnjikafppccaaGreat
open Go.RowKit

/-- A slice (of elements of one cell) reads as these cells. -/
def Rd (w : World) (v : Value) (xs : List Value) : Prop :=
  (v = .slice none 0 0 ∧ xs = []) ∨ ∃ ad c, v = .slice (some ad) xs.length c ∧ xs.length ≤ c ∧ ∀ j u, xs[j]? = some u → w.cell? (ad.add j) = some u
theorem Rd.nil (w : World) : Rd w (.slice none 0 0) [] := .inl ⟨rfl, rfl⟩
theorem Rd.keep {w w' : World} {v : Value} {xs : List Value} (h : Rd w v xs) (hk : ∀ k, v.ownBlock = some k → k < w.heap.size → w'.heap[k]? = w.heap[k]?) : Rd w' v xs := by
  rcases h with h | ⟨ad, c, rfl, hc, h⟩
  · exact .inl h
  · refine .inr ⟨ad, c, rfl, hc, fun j u hu => ?_⟩
    have h1 := h j u hu
    have hl := World.block_lt_of_cell? w _ h1
    have hb : (ad.add j).block = ad.block := by unfold Addr.add; split <;> rfl
    rw [hb] at hl
    rw [← h1]
    refine World.cell?_of_block ?_
    rw [hb]
    exact hk ad.block rfl hl
theorem Rd.upd {w w' : World} {v : Value} {xs : List Value} {S : List Nat} (h : Rd w v xs) (hU : Upd S w w') (hn : ∀ k, v.ownBlock = some k → k ∉ S) : Rd w' v xs :=
  h.keep fun k hk hl => hU.same k hl (hn k hk)
theorem Rd.of_own {w : World} {base e n : Nat} {v : Value} {xs : List Value} (h : w.ownsRow base e 1 v n xs) : Rd w v xs ∧ n = xs.length := by
  have hl : n = xs.length := by have := h.1; omega
  refine ⟨?_, hl⟩
  rcases h.2 with ⟨rfl, h0⟩ | ⟨g, cap, cur, rfl, _, hg, hn, _, hs, ht⟩
  · exact .inl ⟨rfl, List.eq_nil_of_length_eq_zero (by omega)⟩
  · refine .inr ⟨⟨g, 0, none⟩, cap, by rw [hl], by omega, ?_⟩
    exact h.cells (g := g) rfl

theorem Upd.of_grown {w w' : World} {row : Option Nat} {S : List Nat} (h : w.grownBy w' row) (hr : ∀ k, row = some k → k ∈ S ∨ w.heap.size ≤ k) : Upd S w w' :=
  ⟨h.os, h.tape, h.output, h.size, fun k hk hn => h.block k hk (fun e => by
    rcases hr k e.symm with h1 | h1
    · exact hn h1
    · omega)⟩

theorem run_append_nothing {P : Program} (w : World) (base : Nat) (t ty e : TypeId) (i : TypeInfo) (ht : P.underlying t = some (.slice e)) (hi : P.info? e = some i)
    (v : Value) (n : Nat) (xs : List Value) (hown : w.ownsRow base e 1 v n xs) : (Builtin.append_ #[t, t] ty #[v, .slice none 0 0]).run P w = .ok v w := by
  rcases hown.2 with ⟨rfl, rfl⟩ | ⟨g, cap, cur, rfl, _, hg, hn, _, hs, _⟩
  · simp [Builtin.append_, run_underlying ht, sizeOf, typeInfo, hi, Builtin.lenOf, Builtin.firstCells]
  · simp [Builtin.append_, run_underlying ht, sizeOf, typeInfo, hi, Builtin.lenOf, Builtin.firstCells, hn, storeCells]

theorem own_shape {w : World} {base e s n : Nat} {v : Value} {xs : List Value} (h : w.ownsRow base e s v n xs) : ∃ a c, v = .slice a n c := by
  rcases h.2 with ⟨rfl, rfl⟩ | ⟨g, cap, cur, rfl, _⟩
  · exact ⟨_, _, rfl⟩
  · exact ⟨_, _, rfl⟩

theorem own_upd {w w' : World} {base base' e s n : Nat} {v : Value} {xs : List Value} {S : List Nat} (h : w.ownsRow base e s v n xs) (hU : Upd S w w') (hn : ∀ k, v.ownBlock = some k → k ∉ S) (hb : base' ≤ base) :
    w'.ownsRow base' e s v n xs := by
  refine ⟨h.1, ?_⟩
  rcases h.2 with h2 | ⟨g, cap, cur, rfl, hbg, hg, rest⟩
  · exact .inl h2
  · exact .inr ⟨g, cap, cur, rfl, by omega, hU.blk hg (hn g rfl), rest⟩
theorem heap_new' {w : World} {o : Obj} {n : Nat} (h : n = w.heap.size) : (w.alloc o).heap[n]? = some o := by rw [h]; exact heap_new w o

/-- append(v, x...): v the call's own, x whatever reads so. -/
theorem run_append_src {P : Program} (w : World) (base : Nat) (t ty e : TypeId) (i : TypeInfo) (z : Value) (bytes : Nat) (ht : P.underlying t = some (.slice e)) (hi : P.info? e = some i) (hz : i.zero = some z)
    (hsize : i.size = 1) (hby : i.bytes = bytes) (hzs : z.cells.size = 1)
    (v x : Value) (n : Nat) (xs news : List Value) (hown : w.ownsRow base e 1 v n xs) (hx : Rd w x news) (h1 : ∀ u ∈ news, u.oneCell' = true)
    (hbytes : (n + news.length) * bytes ≤ 140737488355328) (hmax : n + news.length ≤ maxLen) (hbase : base ≤ w.heap.size) :
    ∃ v' w', (Builtin.append_ #[t, t] ty #[v, x]).run P w = .ok v' w' ∧ w'.ownsRow base e 1 v' (n + news.length) (xs ++ news) ∧ w.grownBy w' v.ownBlock ∧
      (v'.ownBlock = v.ownBlock ∨ ∃ k, v'.ownBlock = some k ∧ w.heap.size ≤ k) ∧ (v' = .slice none 0 0 ↔ v = .slice none 0 0 ∧ news = []) := by
  rcases hx with ⟨rfl, rfl⟩ | ⟨ad, c, rfl, hc, hcell⟩
  · exact ⟨v, w, run_append_nothing w base t ty e i ht hi v n xs hown, by simpa using hown, ⟨rfl, rfl, rfl, Nat.le_refl _, fun _ _ _ => rfl⟩, .inl rfl, by simp⟩
  · have hl : news.length = news.length * 1 := by omega
    obtain ⟨v', w', hr, ho, hg, hnil⟩ := run_append_own (P := P) w base t ty e i z 1 bytes ht hi hz hsize hby hzs (by decide) v n xs hown ad news.length c news hl hcell h1 hmax hbytes hbase
    refine ⟨v', w', hr, ho, hg, ?_, by rw [hnil]; simp [List.length_eq_zero_iff]⟩
    rcases hown.2 with ⟨rfl, rfl⟩ | ⟨g, cap, cur, rfl, _, hgg, hn, _, hs, _⟩
    · by_cases h0 : news.length = 0
      · left
        have := hnil.2 ⟨rfl, h0⟩
        rw [this]
      · right
        have e2 := run_append_nil (P := P) w t ty e i z ht hi hz ad news.length c news (by rw [hsize]; omega) hcell (by omega) (by simp only [maxLen] at hmax; omega) (by rw [hby]; simp only [Nat.zero_add] at hbytes; omega)
        rw [hr] at e2
        simp only [Result.ok.injEq] at e2
        exact ⟨w.heap.size, by rw [e2.1]; rfl, Nat.le_refl _⟩
    · by_cases hroom : n + news.length ≤ cap
      · left
        have e2 := run_append_room (P := P) w t ty e i ht hi g n cap cur hgg ad news.length c news (by rw [hsize]; omega) hcell h1 hroom (by rw [hsize]; omega)
        rw [hr] at e2
        simp only [Result.ok.injEq] at e2
        rw [e2.1]
        rfl
      · right
        have holds : ∀ j u, xs[j]? = some u → w.cell? ((⟨g, 0, none⟩ : Addr).add j) = some u := hown.cells (g := g) rfl
        have e2 := run_append_grow (P := P) w t ty e i z ht hi hz ⟨g, 0, none⟩ n cap xs (by rw [hsize]; exact hown.1) holds ad news.length c news (by rw [hsize]; omega) hcell (by omega) (by simp only [maxLen] at hmax; omega) (growslice_fits (by omega) (by rw [hby]; exact hbytes))
        rw [hr] at e2
        simp only [Result.ok.injEq] at e2
        exact ⟨w.heap.size, by rw [e2.1]; rfl, Nat.le_refl _⟩

/-- At the operation. -/
theorem wpList_append_src {P : Program} {w : World} {ops : Array Oper} {rest : List Oper} {o : Oper} {a : Act} {Q : Exit → Act → World → Prop} (hgd : o.guard = none) (s x : Operand) (t : TypeId)
    (ho : o.op = .call { callee := .builtin .append, args := #[s, x], argTypes := #[t, t] })
    (base : Nat) (e : TypeId) (i : TypeInfo) (z : Value) (bytes : Nat) (ht : P.underlying t = some (.slice e)) (hi : P.info? e = some i) (hz : i.zero = some z)
    (hsize : i.size = 1) (hby : i.bytes = bytes) (hzs : z.cells.size = 1)
    {v vx : Value} {n : Nat} {xs news : List Value} (hs : a.eval s = v) (hxv : a.eval x = vx) (hown : w.ownsRow base e 1 v n xs) (hx : Rd w vx news) (h1 : ∀ u ∈ news, u.oneCell' = true)
    (hbytes : (n + news.length) * bytes ≤ 140737488355328) (hmax : n + news.length ≤ maxLen) (hbase : base ≤ w.heap.size)
    (h : ∀ v' w', w'.ownsRow base e 1 v' (n + news.length) (xs ++ news) → w.grownBy w' v.ownBlock → (v'.ownBlock = v.ownBlock ∨ ∃ k, v'.ownBlock = some k ∧ w.heap.size ≤ k) → (v' = .slice none 0 0 ↔ v = .slice none 0 0 ∧ news = []) →
      wpList P ops Q rest (a.put o.dst v') w') : wpList P ops Q (o :: rest) a w := by
  refine wpList_plain hgd fun K hK => ?_
  obtain ⟨v', w', hr, h2, h3, h4, h5⟩ := run_append_src (P := P) w base t o.type e i z bytes ht hi hz hsize hby hzs v vx n xs news hown hx h1 hbytes hmax hbase
  unfold Oper.wp execOp
  simp only [ho, resolve, invoke, builtin, Sem.run_bind, Sem.run_pure, Result.andThen_ok, List.map_toArray, List.map_cons, List.map_nil, hs, hxv, hr]
  exact hK _ _ (h v' w' h2 h3 h4 h5)

/-- Bytes as cells. -/
def B (u : UInt8) : Value := .int .u8 (u.toNat : Int)
theorem one_B (l : List UInt8) : ∀ u ∈ l.map B, u.oneCell' = true := by
  intro u hu
  obtain ⟨x, _, rfl⟩ := List.mem_map.1 hu
  rfl
theorem info8 : (Tryz.prog.info? 5).map (fun i => (i.zero, i.size, i.bytes)) = some (some (.int .u8 0), 1, 1) := by kernel_rfl
end Go.Proofs.YtmcnjikafppccaaGreat
