/- manglelaw12.PlanQuota: the walk. -/
import Derived.Test.YtmcnjikafppccaaGreatPlanLaw
namespace Go.Proofs.YtmcnjikafppccaaGreat
open Go.RowKit

structure QInv (W w : World) (b : Nat) (G : PlanG) (all each : Int) (k : Int) : Prop where
  at_ : At W w G
  b : G.b = b
  all : G.all = all
  each : G.each = each
  u : G.u = fun i => if i = 2 then 2500 * k else 0
  len : (G.sess.length : Int) = k
  last : G.last = k
  keys : ∀ x ∈ G.sess, x.1 ≤ k
  books : G.sh.books = []
theorem getI_gt {α : Type} {k : Int} {l : List (Int × α)} (h : ∀ x ∈ l, x.1 < k) : getI k l = none := by
  unfold getI
  simp only [Option.map_eq_none_iff, List.find?_eq_none]
  intro x hx
  have := h x hx
  simp
  omega
theorem QInv.opened {W w w' : World} {b : Nat} {G : PlanG} {all each k : Int} {sb : Nat} (h : QInv W w b G all each k) (hA : At W w' (G.opened 2 sb 0)) : QInv W w' b (G.opened 2 sb 0) all each (k + 1) := by
  refine ⟨hA, h.b, h.all, h.each, ?_, ?_, ?_, ?_, h.books⟩
  · funext i
    simp only [PlanG.opened, addU, h.u]
    split <;> omega
  · simp [PlanG.opened, h.len]
  · simp [PlanG.opened, h.last]
  · intro x hx
    simp only [PlanG.opened, List.mem_append, List.mem_singleton] at hx
    rcases hx with hx | rfl
    · have := h.keys x hx; omega
    · simp only; have := h.last; omega

theorem QInv.same {W w w' : World} {b : Nat} {G : PlanG} {all each k : Int} (h : QInv W w b G all each k) (hA : At W w' G) : QInv W w' b G all each k := { h with at_ := hA }
theorem QInv.alloc {W w : World} {b : Nat} {G : PlanG} {all each k : Int} (h : QInv W w b G all each k) (o : Obj) : QInv W (w.alloc o) b G all each k := h.same (h.at_.quiet ((Upd.refl _ _).alloc o))

set_option maxRecDepth 100000 in
set_option maxHeartbeats 2000000 in
theorem quota_walk (all each n : Int) (W : World) (hW : Upd [] W W) : Calls Tryz.prog 5 #[.int .i64 all, .int .i64 each, .int .i64 n] W fun e w' => e = .returned (.bool true) ∧ Upd [] W w' := by
  by_cases hg : all < 0 ∨ 30000 < all ∨ each < 0 ∨ 30000 < each ∨ n < 0 ∨ 15 < n
  · go_enter Tryz.func5, Tryz.ntmps5
    go_wp2
    all_goals (go_ret; exact ⟨rfl, Upd.refl _ _⟩)
  have a0 : 0 ≤ all := by omega
  have a1 : all ≤ 30000 := by omega
  have b0 : 0 ≤ each := by omega
  have b1 : each ≤ 30000 := by omega
  have n0 : 0 ≤ n := by omega
  have n1 : n ≤ 15 := by omega
  clear hg
  go_enter Tryz.func5, Tryz.ntmps5
  go_wp2_with fail
  refine (new_at all each W W hW).mono ?_
  rintro e w1 ⟨G, rfl, hA, e1, e2, e3, e4, e5, e6, e7, e8, e9⟩
  have HI : Hid (QInv W w1 G.b G all each 0) := ⟨hA, rfl, by rw [e1]; omega, by rw [e2]; omega, by rw [e3]; funext i; simp, by rw [e4]; rfl, e6, by rw [e4]; simp, e7⟩
  clear e1 e2 e3 e4 e5 e6 e7 e8 e9 hA
  generalize G.b = b at *
  go_wp2_with fail
  go_loopw [8, 9] (fun o i wr => ∃ (k : Int) (G' : PlanG), 0 ≤ k ∧ k ≤ 15 ∧ o = .int .i64 k ∧ (∃ j : Nat, i = .int .i64 j ∧ (j : Int) ≤ n ∧ k ≤ j) ∧ QInv W wr b G' all each k) (fun _ i _ => (n - intOf i).toNat)
  case atStart => exact ⟨0, G, by omega, by omega, rfl, ⟨0, rfl, by omega, by omega⟩, HI.out⟩
  case round =>
    obtain ⟨k, G1, k0, k1, rfl, ⟨j, rfl, j1, j2⟩, hq⟩ := hrel
    have HQ := Lib.hid hq
    clear hq HI
    obtain ⟨hq1⟩ := (⟨HQ.out.b⟩ : PLift (G1.b = b))
    subst hq1
    have hb0 : bookAt G1.sh 0 = none := bookAt_nil HQ.out.books 0
    have HB := Lib.hid hb0
    have hu2 : G1.u 2 = 2500 * k := by rw [HQ.out.u]; simp
    have hsum : sumU G1.u = 2500 * k := by rw [HQ.out.u]; simp [sumU]
    have hall := HQ.out.all
    have heach := HQ.out.each
    have HR : Hid ((2500 ≤ G1.each - G1.u 2 ∧ 2500 ≤ G1.all - sumU G1.u) ↔ ((k + 1) * 2500 ≤ all ∧ (k + 1) * 2500 ≤ each)) := by
      unfold Hid; rw [hu2, hsum, hall, heach]; constructor <;> (intro h; omega)
    clear hb0 hu2 hsum hall heach
    by_cases hj : (j : Int) < n
    · by_cases hr : (k + 1) * 2500 ≤ all ∧ (k + 1) * 2500 ≤ each
      · obtain ⟨r1, r2⟩ := hr
        go_wp2_with fail
        refine (at_open W _ G1 2 1 _ _ HQ.out.at_ ⟨_, _, _, rfl⟩ (by omega) (by omega) (by omega) (HR.out.2 ⟨r1, r2⟩).1 (HR.out.2 ⟨r1, r2⟩).2 (getI_gt fun x hx => by have := HQ.out.keys x hx; have := HQ.out.last; omega) (by have := HQ.out.last; omega)).mono ?_
        rintro e w3 ⟨sb, cb, he, hA3, -, -⟩
        rw [HQ.out.last] at he
        subst he
        have HQ2 := Lib.hid (HQ.out.opened hA3)
        clear hA3
        unfold ansV
        go_wp2
        go_roundw
        case rel => exact ⟨k + 1, _, by omega, by omega, rfl, ⟨j + 1, by go_num, by omega, by omega⟩, HQ2.out.alloc _⟩
        case measure => simp [intOf]; omega
      · have hno : Hid (¬ (2500 ≤ G1.each - G1.u 2 ∧ 2500 ≤ G1.all - sumU G1.u)) := fun h => hr (HR.out.1 h)
        by_cases r1 : (k + 1) * 2500 ≤ all
        · have r2 : ¬ (k + 1) * 2500 ≤ each := fun h => hr ⟨r1, h⟩
          clear hr
          go_wp2_with fail
          refine (at_openFull W _ G1 2 1 _ _ HQ.out.at_ ⟨_, _, _, rfl⟩ (by omega) (by omega) (by omega) hno.out HB.out).mono ?_
          rintro e w3 ⟨rfl, hA3⟩
          have HQ2 := Lib.hid (HQ.out.same hA3)
          clear hA3
          unfold ansV
          go_wp2
          go_roundw
          case rel => exact ⟨k, _, by omega, by omega, rfl, ⟨j + 1, by go_num, by omega, by omega⟩, HQ2.out.alloc _⟩
          case measure => simp [intOf]; omega
        · clear hr
          go_wp2_with fail
          refine (at_openFull W _ G1 2 1 _ _ HQ.out.at_ ⟨_, _, _, rfl⟩ (by omega) (by omega) (by omega) hno.out HB.out).mono ?_
          rintro e w3 ⟨rfl, hA3⟩
          have HQ2 := Lib.hid (HQ.out.same hA3)
          clear hA3
          unfold ansV
          go_wp2
          go_roundw
          case rel => exact ⟨k, _, by omega, by omega, rfl, ⟨j + 1, by go_num, by omega, by omega⟩, HQ2.out.alloc _⟩
          case measure => simp [intOf]; omega
    · have HL : Hid ((G1.sess.length : Int) = k ∧ G1.u 2 = 2500 * k) := ⟨HQ.out.len, by rw [HQ.out.u]; simp⟩
      go_wp2_with fail
      refine (plan_sessions _ _ HQ.out.at_.plan).mono ?_
      rintro e w' ⟨he, rfl⟩
      rw [HL.out.1] at he
      subst he
      go_wp2_with fail
      refine (plan_of _ _ _ HQ.out.at_.plan (by omega) (by omega)).mono ?_
      rintro e w' ⟨he, rfl⟩
      rw [HL.out.2] at he
      subst he
      go_wp2_with fail
      refine (known12 W _ HQ.out.at_.upd).mono ?_
      rintro e w' ⟨rfl, hU⟩
      go_wp2
      go_ret
      exact ⟨rfl, hU⟩
end Go.Proofs.YtmcnjikafppccaaGreat
