/- desk.Step: the first step of a Write. -/
import Derived.Test.YtmcnjikafppccaaGreatDeskBegin2
import Derived.Test.YtmcnjikafppccaaGreatDeskStep
namespace Go.Proofs.YtmcnjikafppccaaGreat
open Go.RowKit

def SPostW (R : World → Int → Int → List UInt8 → World → Prop) (D : DeskG) (PB : List Nat) (c : Int) (g : GoingG) (w w' : World) : Prop :=
  ∃ w0 w1, Upd [] w w0 ∧ WPost R D PB c g w0 w1 ∧ ∃ k, w.heap.size ≤ k ∧ k < w0.heap.size ∧ Upd [k] w1 w'
set_option maxRecDepth 100000 in
set_option maxHeartbeats 2000000 in
theorem step_wr {R : World → Int → Int → List UInt8 → World → Prop} (D : DeskG) (PB : List Nat) (c : Int) (g : GoingG) (w : World) (h : IsDesk w D) (h0 : 0 ≤ c) (h1 : c < 4) (hb : D.calls c = some g) (hk : g.c.kind = 2) (hat : g.at_ = -1)
    (hPB : ∀ k ∈ PB, k < w.heap.size ∧ k ∉ D.mut ∧ k ∉ D.imm) (hlen : D.effs.length ≤ 1000000) (hdo : DoesSo w D.pb PB c (callV 2 g.c.name g.c.level g.c.handle (.slice none 0 0)) R) :
    Calls Tryz.prog 19 #[.pointer (some ⟨D.b, 0, none⟩), .int .i64 c] w fun e w' => e = .returned (stepV 0 0 (.slice none 0 0) false 0) ∧ SPostW R D PB c g w w' := by
  have hc := cell_some h.desk h0 h1 hb
  have hs := lt_of_heap h.desk
  have hG := goings_of h h0 h1 hb
  have hg := cell_of hG.blk
  have hgs := lt_of_heap hG.blk
  rw [hat] at hg
  have H := Lib.hid h
  have HB := Lib.hid hb
  have HDO := Lib.hid hdo
  have HP := Lib.hid hPB
  have HK := Lib.hid hk
  have HL := Lib.hid hlen
  have HAT := Lib.hid hat
  clear h hb hG hdo hPB hat hk hlen
  obtain rfl | rfl | rfl | rfl : c = 0 ∨ c = 1 ∨ c = 2 ∨ c = 3 := by omega
  all_goals
    simp at hc
    go_enter Tryz.func19, Tryz.ntmps19
    go_wp2_with (go_at_call 33; refine (isClient_yes _ _ _ (by omega) (by omega)).mono ?_; rintro e w' ⟨rfl, rfl⟩)
    have u0 : Upd [] w (w.alloc (.cells #[.int .i64 0, .int .i64 0, .slice none 0 0] 27)) := by (with_reducible (repeat (first | exact Upd.refl _ _ | refine Upd.alloc ?_ _ | refine Upd.drew ?_ | refine Upd.drewN ?_ _ | refine Upd.setCell ?_ (by first | (left; simp; done) | (right; simp; done) | (right; simp; omega)) _)))
    refine (begins_wr D PB _ g _ (H.out.quiet u0) (by omega) (by omega) HB.out HK.out (fun k hk => ⟨Nat.lt_of_lt_of_le (HP.out k hk).1 u0.size, (HP.out k hk).2⟩) HL.out HAT.out (HDO.out.quiet u0)).mono ?_
    rintro e w1 ⟨rfl, hP⟩
    have HPP := Lib.hid hP
    have u1 : Upd (D.mut ++ PB) (w.alloc (.cells #[.int .i64 0, .int .i64 0, .slice none 0 0] 27)) w1 := by
      obtain ⟨_, _, _, _, _, _, _, _, _, _, _, _, h, _⟩ := hP
      exact h
    have nm : w.heap.size ∉ D.mut ++ PB := by
      intro hm
      rcases List.mem_append.1 hm with hm | hm
      · have := H.out.lt.1 _ hm; omega
      · have := (HP.out _ hm).1; omega
    have B1 := Lib.hid (u1.blk (heap_new w _) nm)
    have k1 := cell_of B1.out
    have f1 := froz_of B1.out
    clear hP u1 u0
    go_wp2
    have q1 := cell_of (set3 B1.out (.int .i64 0) (.int .i64 0) (.slice none 0 0))
    refine bodyPost_ret (v := stepV 0 0 (.slice none 0 0) false 0) (by simp [results, Tryz.results19, go_sem, stepV, ansV, q1]) rfl ⟨rfl, _, w1, by (with_reducible (repeat (first | exact Upd.refl _ _ | refine Upd.alloc ?_ _ | refine Upd.drew ?_ | refine Upd.drewN ?_ _ | refine Upd.setCell ?_ (by first | (left; simp; done) | (right; simp; done) | (right; simp; omega)) _))), HPP.out, w.heap.size, Nat.le_refl _, by simp, by (with_reducible (repeat (first | exact Upd.refl _ _ | refine Upd.alloc ?_ _ | refine Upd.drew ?_ | refine Upd.drewN ?_ _ | refine Upd.setCell ?_ (by first | (left; simp; done) | (right; simp; done) | (right; simp; omega)) _)))⟩
end Go.Proofs.YtmcnjikafppccaaGreat
