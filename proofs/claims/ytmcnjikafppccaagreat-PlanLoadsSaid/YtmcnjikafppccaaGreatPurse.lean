/- Contracts of package purse. -/
import Derived.Test.YtmcnjikafppccaaGreatBase
namespace Go.Proofs.YtmcnjikafppccaaGreat
open Go.RowKit

/-- A Purse's block. -/
def purseO (all each : Int) (u : Int → Int) : Obj :=
  .cells #[.int .i64 all, .int .i64 each, .int .i64 (u 0), .int .i64 (u 1), .int .i64 (u 2), .int .i64 (u 3)] 71 (0, 0)
def sumU (u : Int → Int) : Int := u 0 + u 1 + u 2 + u 3
/-- What holds of a Purse at all times. -/
structure PurseOk (all each : Int) (u : Int → Int) : Prop where
  pos : ∀ i, 0 ≤ u i
  le : ∀ i, u i ≤ 1099511627776
  each0 : 0 ≤ each
  each1 : each ≤ 1099511627776
  all0 : 0 ≤ all
  all1 : all ≤ 1099511627776
def addU (u : Int → Int) (c n : Int) : Int → Int := fun i => if i = c then u i + n else u i
def mayTake (all each : Int) (u : Int → Int) (c n : Int) : Bool := decide (n ≤ each - u c) && decide (n ≤ all - sumU u)

theorem is_ok (a : Addr) (c n : Int) (w : World) (h0 : 0 ≤ c) (h1 : c < 4) (hn : 0 ≤ n) :
    Calls Tryz.prog 52 #[.pointer (some a), .int .i64 c, .int .i64 n] w fun e w' => e = .returned (.bool true) ∧ w' = w := by
  go_enter Tryz.func52, Tryz.ntmps52
  go_wp2
  go_ret
  exact ⟨rfl, rfl⟩

theorem bounded_any (n : Int) (w : World) :
    Calls Tryz.prog 39 #[.int .i64 n] w fun e w' => e = .returned (.int .i64 (min (max n 0) 1099511627776)) ∧ w' = w := by
  go_enter Tryz.func39, Tryz.ntmps39
  go_wp2
  all_goals
    go_ret
    refine ⟨?_, rfl⟩
    simp
    omega

theorem of_any (b : Nat) (all each : Int) (u : Int → Int) (c : Int) (w : World) (h0 : 0 ≤ c) (h1 : c < 4) (hb : w.heap[b]? = some (purseO all each u)) :
    Calls Tryz.prog 32 #[.pointer (some ⟨b, 0, none⟩), .int .i64 c] w fun e w' => e = .returned (.int .i64 (u c)) ∧ w' = w := by
  have hc := cell_of hb
  clear hb
  obtain rfl | rfl | rfl | rfl : c = 0 ∨ c = 1 ∨ c = 2 ∨ c = 3 := by omega
  all_goals
    go_enter Tryz.func32, Tryz.ntmps32
    go_wp2_with (go_at_call 52; refine (is_ok _ _ _ _ (by omega) (by omega) (by omega)).mono ?_; rintro e w' ⟨rfl, rfl⟩)
    go_ret
    exact ⟨rfl, rfl⟩

theorem used_any (b : Nat) (all each : Int) (u : Int → Int) (w : World) (hb : w.heap[b]? = some (purseO all each u)) (ok : PurseOk all each u) :
    Calls Tryz.prog 31 #[.pointer (some ⟨b, 0, none⟩)] w fun e w' => e = .returned (.int .i64 (sumU u)) ∧ w' = w := by
  have H := Lib.hid hb
  clear hb
  have p0 := ok.pos 0
  have p1 := ok.pos 1
  have p2 := ok.pos 2
  have p3 := ok.pos 3
  have q0 := ok.le 0
  have q1 := ok.le 1
  have q2 := ok.le 2
  have q3 := ok.le 3
  clear ok
  go_enter Tryz.func31, Tryz.ntmps31
  go_wp2
  refine wp_loop_rounds 5 ?_
  iterate 5 (rw [rounds_succ]; go_wp2_with (go_at_call 32; refine (of_any b all each u _ _ (by omega) (by omega) H.out).mono ?_; rintro e w' ⟨rfl, rfl⟩))
  go_ret
  exact ⟨rfl, rfl⟩

set_option maxRecDepth 100000 in
/-- It may: then it uses more. -/
theorem take_yes (b : Nat) (all each : Int) (u : Int → Int) (c n : Int) (w : World) (hb : w.heap[b]? = some (purseO all each u)) (ok : PurseOk all each u)
    (h0 : 0 ≤ c) (h1 : c < 4) (hn : 0 ≤ n) (hn1 : n ≤ 1099511627776) (hm1 : n ≤ each - u c) (hm2 : n ≤ all - sumU u) :
    Calls Tryz.prog 41 #[.pointer (some ⟨b, 0, none⟩), .int .i64 c, .int .i64 n] w fun e w' => e = .returned (.bool true) ∧ Upd [b] w w' ∧ w'.heap[b]? = some (purseO all each (addU u c n)) := by
  have hc := cell_of hb
  have hf := froz_of hb
  have H := Lib.hid hb
  have OK := Lib.hid ok
  have p0 := ok.pos 0
  have p1 := ok.pos 1
  have p2 := ok.pos 2
  have p3 := ok.pos 3
  have q0 := ok.le 0
  have q1 := ok.le 1
  have q2 := ok.le 2
  have q3 := ok.le 3
  have q4 := ok.each1
  have q5 := ok.all1
  have q6 := ok.each0
  have q7 := ok.all0
  have hs : 0 ≤ sumU u ∧ sumU u ≤ 4398046511104 := by unfold sumU; omega
  have d1 : decide (each - u c < n) = false := by simp; omega
  have d2 : decide (all - sumU u < n) = false := by simp; omega
  clear hb ok
  obtain rfl | rfl | rfl | rfl : c = 0 ∨ c = 1 ∨ c = 2 ∨ c = 3 := by omega
  all_goals
    go_enter Tryz.func41, Tryz.ntmps41
    go_wp2
    go_quiet ((first | (go_at_call 52; exact Calls.quiet_of_same (is_ok _ _ _ _ (by omega) (by omega) (by omega))) | (go_at_call 31; exact Calls.quiet_of_same (used_any b all each u _ H.out OK.out))))
    go_wp2
    go_region
    go_wp2
    go_ret
    refine ⟨rfl, ?_, ?_⟩
    · repeat (first | exact Upd.refl _ _ | refine Upd.setCell ?_ (by simp) _ | refine Upd.drewN ?_ _ | refine Upd.drew ?_ | refine Upd.alloc ?_ _)
    · exact (heap_setCell_at H.out _ _).trans (by simp [purseO, addU])

/-- It may not. -/
theorem take_no (b : Nat) (all each : Int) (u : Int → Int) (c n : Int) (w : World) (hb : w.heap[b]? = some (purseO all each u)) (ok : PurseOk all each u)
    (h0 : 0 ≤ c) (h1 : c < 4) (hn : 0 ≤ n) (hn1 : n ≤ 1099511627776) (hm : ¬ (n ≤ each - u c ∧ n ≤ all - sumU u)) :
    Calls Tryz.prog 41 #[.pointer (some ⟨b, 0, none⟩), .int .i64 c, .int .i64 n] w fun e w' => e = .returned (.bool false) ∧ ∃ m, w' = w.drewN m := by
  have hc := cell_of hb
  have H := Lib.hid hb
  have OK := Lib.hid ok
  have p0 := ok.pos 0
  have p1 := ok.pos 1
  have p2 := ok.pos 2
  have p3 := ok.pos 3
  have q0 := ok.le 0
  have q1 := ok.le 1
  have q2 := ok.le 2
  have q3 := ok.le 3
  have q4 := ok.each1
  have q5 := ok.all1
  have q6 := ok.each0
  have q7 := ok.all0
  have hs : 0 ≤ sumU u ∧ sumU u ≤ 4398046511104 := by unfold sumU; omega
  clear hb ok
  by_cases hm1 : n ≤ each - u c
  · have d1 : decide (each - u c < n) = false := by simp; omega
    have d2 : decide (all - sumU u < n) = true := by simp; omega
    clear hm
    obtain rfl | rfl | rfl | rfl : c = 0 ∨ c = 1 ∨ c = 2 ∨ c = 3 := by omega
    all_goals
      go_enter Tryz.func41, Tryz.ntmps41
      go_wp2
      go_quiet ((first | (go_at_call 52; exact Calls.quiet_of_same (is_ok _ _ _ _ (by omega) (by omega) (by omega))) | (go_at_call 31; exact Calls.quiet_of_same (used_any b all each u _ H.out OK.out))))
      go_wp2
      go_ret
      exact ⟨rfl, _, rfl⟩
  · have d1 : decide (each - u c < n) = true := by simp; omega
    clear hm
    obtain rfl | rfl | rfl | rfl : c = 0 ∨ c = 1 ∨ c = 2 ∨ c = 3 := by omega
    all_goals
      go_enter Tryz.func41, Tryz.ntmps41
      go_wp2
      go_quiet ((first | (go_at_call 52; exact Calls.quiet_of_same (is_ok _ _ _ _ (by omega) (by omega) (by omega))) | (go_at_call 31; exact Calls.quiet_of_same (used_any b all each u _ H.out OK.out))))
      go_wp2
      go_ret
      exact ⟨rfl, _, rfl⟩

theorem give_any (b : Nat) (all each : Int) (u : Int → Int) (c n : Int) (w : World) (hb : w.heap[b]? = some (purseO all each u)) (ok : PurseOk all each u)
    (h0 : 0 ≤ c) (h1 : c < 4) (hn : 0 ≤ n) (hn1 : n ≤ 1099511627776) :
    Calls Tryz.prog 61 #[.pointer (some ⟨b, 0, none⟩), .int .i64 c, .int .i64 n] w fun e w' => e = .returned (.tuple #[]) ∧ Upd [b] w w' ∧ w'.heap[b]? = some (purseO all each (addU u c (- min n (u c)))) := by
  have hc := cell_of hb
  have hf := froz_of hb
  have H := Lib.hid hb
  have p0 := ok.pos 0
  have p1 := ok.pos 1
  have p2 := ok.pos 2
  have p3 := ok.pos 3
  have q0 := ok.le 0
  have q1 := ok.le 1
  have q2 := ok.le 2
  have q3 := ok.le 3
  clear hb ok
  obtain rfl | rfl | rfl | rfl : c = 0 ∨ c = 1 ∨ c = 2 ∨ c = 3 := by omega
  all_goals
    go_enter Tryz.func61, Tryz.ntmps61
    go_wp2_with (go_at_call 52; refine (is_ok _ _ _ _ (by omega) (by omega) (by omega)).mono ?_; rintro e w' ⟨rfl, rfl⟩)
    go_region
    go_wp2
    all_goals
      go_end0
      refine ⟨rfl, ?_, ?_⟩
      · repeat (first | exact Upd.refl _ _ | refine Upd.setCell ?_ (by simp) _ | refine Upd.drewN ?_ _ | refine Upd.drew ?_ | refine Upd.alloc ?_ _)
      · refine (heap_setCell_at H.out _ _).trans ?_
        simp [purseO, addU]
        try omega

theorem new_any (all each : Int) (w : World) :
    Calls Tryz.prog 25 #[.int .i64 all, .int .i64 each] w fun e w' => e = .returned (.pointer (some ⟨w.heap.size, 0, none⟩)) ∧ Upd [] w w' ∧
      w'.heap[w.heap.size]? = some (purseO (min (max all 0) 1099511627776) (min (max each 0) 1099511627776) (fun _ => 0)) ∧ w'.heap.size = w.heap.size + 1 := by
  go_enter Tryz.func25, Tryz.ntmps25
  go_wp2_with (go_at_call 39; refine (bounded_any _ _).mono ?_; rintro e w' ⟨rfl, rfl⟩)
  go_ret
  exact ⟨rfl, (Upd.refl _ _).alloc _, heap_new _ _, by simp⟩
end Go.Proofs.YtmcnjikafppccaaGreat
