/- desk.Effects (how many they are), desk.New, Used, Sessions. -/
import Derived.Test.YtmcnjikafppccaaGreatDeskEnd
namespace Go.Proofs.YtmcnjikafppccaaGreat
open Go.RowKit

set_option maxRecDepth 100000 in
set_option maxHeartbeats 2000000 in
theorem effects_len (D : DeskG) (w : World) (h : IsDesk w D) (hlen : D.effs.length ≤ 1000000) (hout : ∀ e ∈ D.effs, e.out.length ≤ 1000000) :
    Calls Tryz.prog 22 #[.pointer (some ⟨D.b, 0, none⟩)] w fun e w' => ∃ a c, e = .returned (.slice a D.effs.length c) ∧ Upd [] w w' := by
  obtain ⟨ea, ec, hev⟩ := own_shape h.effs
  have hd : w.cell? ⟨D.b, 5, none⟩ = some (.slice ea D.effs.length ec) := by rw [cell_of h.desk, hev]; rfl
  have H := Lib.hid h
  have HO := Lib.hid hout
  have HEV := Lib.hid hev
  have HL := Lib.hid hlen
  clear h hout hev
  go_enter Tryz.func22, Tryz.ntmps22
  go_wp2_with fail
  go_loopw [3, 13] (fun v i wr => ∃ (k : Nat) (xs : List Value), k ≤ D.effs.length ∧ i = .int .i64 k ∧ wr.ownsRow w.heap.size 66 9 v k xs ∧ Upd [] w wr) (fun _ i _ => D.effs.length - (intOf i).toNat)
  case atStart => exact ⟨0, [], Nat.zero_le _, rfl, World.ownsRow_nil _ _ _ _, Upd.refl _ _⟩
  case round =>
    obtain ⟨k, xs, hk, rfl, ho, hU⟩ := hrel
    have O := Lib.hid ho
    have U := Lib.hid hU
    obtain ⟨va, vc, hv⟩ := own_shape ho
    subst hv
    clear ho hU hd
    by_cases hlt : k < D.effs.length
    · obtain ⟨x, hx⟩ : ∃ x, D.effs[k]? = some x := ⟨_, List.getElem?_eq_getElem hlt⟩
      obtain ⟨xc, ⟨xk, xn, xl, xh, xd, dv⟩, xe, xm, xo, ov⟩ := x
      have HR := H.out.quiet U.out
      obtain ⟨eg, ec2, hev2, hgl, hcell⟩ := eff_cells HR hx
      have hee : Value.slice ea D.effs.length ec = .slice (some ⟨eg, 0, none⟩) D.effs.length ec2 := HEV.out.symm.trans hev2
      simp only [Value.slice.injEq] at hee
      obtain ⟨rfl, -, rfl⟩ := hee
      have e0 := hcell 0 (by omega)
      have e1 := hcell 1 (by omega)
      have e2 := hcell 2 (by omega)
      have e3 := hcell 3 (by omega)
      have e4 := hcell 4 (by omega)
      have e5 := hcell 5 (by omega)
      have e6 := hcell 6 (by omega)
      have e7 := hcell 7 (by omega)
      have e8 := hcell 8 (by omega)
      simp only [EffG.cells, List.getElem?_cons_zero, List.getElem?_cons_succ, Nat.add_zero] at e0 e1 e2 e3 e4 e5 e6 e7 e8
      have hmem := List.mem_of_getElem? hx
      have EO := Lib.hid (HR.eff _ hmem)
      have hox := HO.out _ hmem
      obtain ⟨da, dc, hdv⟩ := own_shape (HR.eff _ hmem).data
      obtain ⟨oa, oc, hov⟩ := own_shape (HR.eff _ hmem).out
      simp only at hdv hov hox
      subst hdv
      subst hov
      clear hcell hx hev2 HR hmem
      go_wp2_with fail
      refine (told_any ⟨xc, ⟨xk, xn, xl, xh, xd, .slice da xd.length dc⟩, xe, xm, xo, .slice oa xo.length oc⟩ _ (EO.out.upd (S := []) (by (with_reducible (repeat (first | exact Upd.refl _ _ | refine Upd.alloc ?_ _ | refine Upd.drew ?_ | refine Upd.drewN ?_ _ | refine Upd.setCell ?_ (by first | (left; simp; done) | (right; simp; done) | (right; simp; omega)) _)))) (fun _ _ => by simp)) hox).mono ?_
      rintro e w2 ⟨dv', ov', rfl, hU2, o1, o2⟩
      obtain ⟨a1, c1, rfl⟩ := own_shape o1
      obtain ⟨a2, c2, rfl⟩ := own_shape o2
      obtain ⟨i9, hi9, hz9, hs9, hb9⟩ := info_parts infoDone
      have HI := Lib.hid hi9
      have U2 := Lib.hid hU2
      simp only [EffG.cells]
      have z2 := hU2.size
      have zU := U.out.size
      clear hU2 o1 o2 hi9 e0 e1 e2 e3 e4 e5 e6 e7 e8
      have HO2 := Lib.hid (own_upd (S := []) (own_upd (S := []) O.out (by (with_reducible (repeat (first | exact Upd.refl _ _ | refine Upd.alloc ?_ _ | refine Upd.drew ?_ | refine Upd.drewN ?_ _ | refine Upd.setCell ?_ (by first | (left; simp; done) | (right; simp; done) | (right; simp; omega)) _)))) (by simp) (Nat.le_refl _)) U2.out (by simp) (Nat.le_refl _))
      go_wp2_with (at_builtin; refine wpList_append_own _ rfl _ _ 45 rfl w.heap.size 66 i9 _ 9 112 Tryz.underlying45 HI.out hz9 hs9 hb9 rfl (by decide) (.slice va k vc) k xs rfl (HO2.out.alloc _) ⟨w2.heap.size, 0, none⟩ 1 1 (EffG.cells ⟨xc, ⟨xk, xn, xl, xh, xd, .slice a1 xd.length c1⟩, xe, xm, xo, .slice a2 xo.length c2⟩) rfl rfl ?ca ?cb ?cc ?cd ?ce ?_; rotate_right; intro v5 w5 o5 h5 h6)
      case ca => exact eff_new w2 ⟨xc, ⟨xk, xn, xl, xh, xd, .slice a1 xd.length c1⟩, xe, xm, xo, .slice a2 xo.length c2⟩ _
      case cb => exact eff_one ⟨xc, ⟨xk, xn, xl, xh, xd, .slice a1 xd.length c1⟩, xe, xm, xo, .slice a2 xo.length c2⟩ ⟨_, _, _, rfl⟩ ⟨_, _, _, rfl⟩
      case cc => have := HL.out; unfold maxLen; omega
      case cd => have := HL.out; omega
      case ce =>
        have z := U2.out.size
        simp only [World.size_alloc] at z ⊢
        omega
      go_roundw
      case rel =>
        refine ⟨k + 1, _, by omega, by go_num, o5, ?_⟩
        refine Upd.drop (S := (Value.slice va k vc).ownBlock.toList) (((U.out.trans (Upd.trans (by (with_reducible (repeat (first | exact Upd.refl _ _ | refine Upd.alloc ?_ _ | refine Upd.drew ?_ | refine Upd.drewN ?_ _ | refine Upd.setCell ?_ (by first | (left; simp; done) | (right; simp; done) | (right; simp; omega)) _)))) U2.out)).alloc _ |>.mono (by simp)).trans (Upd.of_grown h5 (fun j hj => .inl (by rw [hj]; simp)))) ?_
        intro j hj
        have := (O.out.lt j (by simpa using hj)).1
        exact .inr this
      case measure => simp [intOf]; omega
    · have hkn : k = D.effs.length := by omega
      subst hkn
      go_wp2
      go_ret
      exact ⟨va, vc, rfl, U.out⟩

theorem dnew_any (all each : Int) (W w : World) (hW : Upd [] W w) :
    Calls Tryz.prog 16 #[.int .i64 all, .int .i64 each] w fun e w' => ∃ D G, e = .returned (.pointer (some ⟨D.b, 0, none⟩)) ∧ At W w' G ∧ IsDesk w' D ∧ D.pb = G.b ∧ D.effs = [] ∧ D.calls = (fun _ => none) ∧ (∀ k ∈ G.blocks, k ∉ D.mut) ∧ (∀ k ∈ D.mut, W.heap.size ≤ k) ∧
      G.all = min (max all 0) 1099511627776 ∧ G.each = min (max each 0) 1099511627776 ∧ G.u = (fun _ => 0) ∧ G.sess = [] ∧ G.loads = [] ∧ G.last = 0 ∧ G.sh.books = [] ∧ G.sh.names = [] ∧ G.sh.last = 0 := by
  go_enter Tryz.func16, Tryz.ntmps16
  go_wp2_with fail
  refine (new_at all each W w hW).mono ?_
  rintro e w1 ⟨G, rfl, hA, hr⟩
  have HA := Lib.hid hA
  have HR := Lib.hid hr
  clear hA hr
  go_wp2
  go_ret
  refine ⟨⟨w1.heap.size, G.b, fun _ => none, [], .slice none 0 0⟩, G, rfl, HA.out.quiet (by (with_reducible (repeat (first | exact Upd.refl _ _ | refine Upd.alloc ?_ _ | refine Upd.drew ?_ | refine Upd.drewN ?_ _ | refine Upd.setCell ?_ (by first | (left; simp; done) | (right; simp; done) | (right; simp; omega)) _)))), ⟨heap_new w1 _, ?_, World.ownsRow_nil _ _ _ _, ?_, ?_, ?_⟩, rfl, rfl, rfl, ?_, ?_, HR.out⟩
  · intro g hg; simp [DeskG.goings] at hg
  · intro e he; simp at he
  · simp [DeskG.mut, DeskG.goings, Value.ownBlock]
  · intro k hk; simp [DeskG.imm, DeskG.goings] at hk
  · intro k hk
    have := HA.out.plan.lt k hk
    simp [DeskG.mut, DeskG.goings, Value.ownBlock]
    omega
  · intro k hk
    have := HA.out.upd.size
    simp [DeskG.mut, DeskG.goings, Value.ownBlock] at hk
    omega

theorem dplan_any (D : DeskG) (w : World) (h : IsDesk w D) : Calls Tryz.prog 38 #[.pointer (some ⟨D.b, 0, none⟩)] w fun e w' => e = .returned (.pointer (some ⟨D.pb, 0, none⟩)) ∧ w' = w := by
  have hd : w.cell? ⟨D.b, 0, none⟩ = some (.pointer (some ⟨D.pb, 0, none⟩)) := cell_of h.desk 0
  clear h
  go_enter Tryz.func38, Tryz.ntmps38
  go_wp2
  go_ret
  exact ⟨rfl, rfl⟩
theorem dused_any (D : DeskG) (G : PlanG) (w : World) (h : IsDesk w D) (hG : IsPlan w G) (hb : D.pb = G.b) : Calls Tryz.prog 23 #[.pointer (some ⟨D.b, 0, none⟩)] w fun e w' => e = .returned (.int .i64 (sumU G.u)) ∧ w' = w := by
  have H := Lib.hid h
  have HG := Lib.hid hG
  have HB := Lib.hid hb
  clear h hG hb
  go_enter Tryz.func23, Tryz.ntmps23
  go_wp2_with fail
  refine (dplan_any D w H.out).mono ?_
  rintro e w' ⟨rfl, rfl⟩
  rw [HB.out]
  go_wp2_with fail
  refine (purse_used G _ HG.out).mono ?_
  rintro e w' ⟨rfl, rfl⟩
  go_wp2
  go_ret
  exact ⟨rfl, rfl⟩
theorem dsessions_any (D : DeskG) (G : PlanG) (w : World) (h : IsDesk w D) (hG : IsPlan w G) (hb : D.pb = G.b) : Calls Tryz.prog 24 #[.pointer (some ⟨D.b, 0, none⟩)] w fun e w' => e = .returned (.int .i64 G.sess.length) ∧ w' = w := by
  have H := Lib.hid h
  have HG := Lib.hid hG
  have HB := Lib.hid hb
  clear h hG hb
  go_enter Tryz.func24, Tryz.ntmps24
  go_wp2_with fail
  refine (dplan_any D w H.out).mono ?_
  rintro e w' ⟨rfl, rfl⟩
  rw [HB.out]
  go_wp2_with fail
  refine (plan_sessions G _ HG.out).mono ?_
  rintro e w' ⟨rfl, rfl⟩
  go_wp2
  go_ret
  exact ⟨rfl, rfl⟩
end Go.Proofs.YtmcnjikafppccaaGreat
