/- Contracts of stream.Depth, seqs.Begin, slices.Clone of bytes. -/
import Derived.Test.YtmcnjikafppccaaGreatShelf
import Derived.Test.YtmcnjikafppccaaGreatSlices
namespace Go.Proofs.YtmcnjikafppccaaGreat
open Go.RowKit

def depthOf (level : Int) : Int := if level = 1 then 1 else if level = 2 then 8 else if level = 3 then 32 else 0
theorem depth_any (level : Int) (w : World) :
    Calls Tryz.prog 57 #[.int .i64 level] w fun e w' => e = .returned (.int .i64 (depthOf level)) ∧ w' = w := by
  go_enter Tryz.func57, Tryz.ntmps57
  go_wp2
  all_goals
    go_ret
    refine ⟨?_, rfl⟩
    simp_all [depthOf]

theorem begin_any (w : World) :
    Calls Tryz.prog 58 #[] w fun e w' => e = .returned (.agg #[.int .i64 1, .int .i64 4, .int .i64 8]) ∧ Upd [] w w' := by
  go_enter Tryz.func58, Tryz.ntmps58
  go_wp2
  exact bodyPost_ret (v := .agg #[.int .i64 1, .int .i64 4, .int .i64 8]) (by simp [results, Tryz.results58, go_sem]) rfl ⟨rfl, (Upd.refl _ _).alloc _⟩

theorem clone_nil (w : World) : Calls Tryz.prog 55 #[.slice none 0 0] w fun e w' => e = .returned (.slice none 0 0) ∧ w' = w := by
  have he := fun (wx : World) => Lib.run_eql_slice_nil (P := Tryz.prog) wx 25 5 none 0 0 0 0 Tryz.underlying25
  go_enter Tryz.func55, Tryz.ntmps55
  go_wp2
  go_ret
  exact ⟨rfl, rfl⟩

set_option maxRecDepth 100000 in
theorem clone_any (v : Value) (l : List UInt8) (w : World) (h : Rd w v (l.map B)) (hl : l.length ≤ 70368744177664) :
    Calls Tryz.prog 55 #[v] w fun e w' => ∃ v', e = .returned v' ∧ Upd [] w w' ∧ w'.ownsRow w.heap.size 5 1 v' l.length (l.map B) ∧ (v' = .slice none 0 0 ↔ v = .slice none 0 0) := by
  rcases h with ⟨rfl, h0⟩ | ⟨ad, c, rfl, hc, hcell⟩
  · have : l = [] := by simpa using h0
    subst this
    refine (clone_nil w).mono ?_
    rintro e w' ⟨rfl, rfl⟩
    exact ⟨_, rfl, Upd.refl _ _, World.ownsRow_nil _ _ _ _, by simp⟩
  · obtain ⟨i0, hi, hz0, hz1, hz2⟩ := info_parts info8
    have he := fun (wx : World) (n : Nat) => Lib.run_eql_slice_nil (P := Tryz.prog) wx 25 5 (some ad) n c 0 0 Tryz.underlying25
    have HX : Hid (Rd (w.alloc (.cells #[] 5)) (.slice (some ad) l.length c) (l.map B)) := by
      refine Rd.upd (S := []) ?_ ((Upd.refl _ _).alloc _) (by simp)
      exact .inr ⟨ad, c, by simp, hc, hcell⟩
    have HO : Hid ((w.alloc (.cells #[] 5)).ownsRow w.heap.size 5 1 (.slice (some ⟨w.heap.size, 0, none⟩) 0 0) 0 []) := World.ownsRow_made w #[] 0 (Nat.le_refl _) (by unfold maxLen; omega) rfl
    have e1 : (l.map B).length = l.length := by simp
    rw [e1]
    clear e1 hcell hc
    have HI := Lib.hid hi
    have HL := Lib.hid hl
    clear hi hl
    go_enter Tryz.func55, Tryz.ntmps55
    go_wp2_with (at_builtin; refine wpList_append_src (v := .slice (some ⟨w.heap.size, 0, none⟩) 0 0) (vx := .slice (some ad) l.length c) rfl _ _ 25 rfl w.heap.size 5 i0 (.int .u8 0) 1 Tryz.underlying25 HI.out hz0 hz1 hz2 rfl rfl rfl HO.out HX.out (one_B l) ?hb ?hm ?hs ?_; rotate_right; intro v' w' h1 h2 h3 h4)
    case hb => have := HL.out; simp; omega
    case hm => have := HL.out; unfold maxLen; simp; omega
    case hs => simp
    go_ret
    refine ⟨v', rfl, ?_, by simpa using h1, ?_⟩
    · refine (((Upd.refl [w.heap.size] w).alloc _).trans (Upd.of_grown h2 (fun k hk => ?_))).drop (by simp)
      simp [Value.ownBlock] at hk
      simp [hk]
    · constructor
      · intro e
        exact absurd (h4.1 e).1 (by simp)
      · intro e
        simp at e
end Go.Proofs.YtmcnjikafppccaaGreat
