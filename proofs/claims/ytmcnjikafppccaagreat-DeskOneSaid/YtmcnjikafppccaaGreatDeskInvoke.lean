/- desk.Invoke at a client that has no call. -/
import Derived.Test.YtmcnjikafppccaaGreatDeskMem
import Derived.Deep.RegionWith
namespace Go.Proofs.YtmcnjikafppccaaGreat
open Go.RowKit

def updC (f : Int → Option GoingG) (c : Int) (g : Option GoingG) : Int → Option GoingG := fun i => if i = c then g else f i

theorem cell_none {w : World} {D : DeskG} (h : w.heap[D.b]? = some (deskO D)) {c : Int} (h0 : 0 ≤ c) (h1 : c < 4) (hb : D.calls c = none) : w.cell? ⟨D.b, 1 + c.toNat, none⟩ = some (.pointer none) := by
  rw [cell_of h]
  obtain rfl | rfl | rfl | rfl : c = 0 ∨ c = 1 ∨ c = 2 ∨ c = 3 := by omega
  all_goals simp [hb, goP]

set_option maxRecDepth 100000 in
set_option maxHeartbeats 2000000 in
theorem invoke_walk (D : DeskG) (c kind : Int) (name : ByteArray) (level handle : Int) (dv : Value) (l : List UInt8) (w : World) (h : IsDesk w D) (h0 : 0 ≤ c) (h1 : c < 4) (hb : D.calls c = none)
    (hr : Rd w dv (l.map B)) (hl : l.length ≤ 3200) (hd : ∃ a c, dv = .slice a l.length c) :
    Calls Tryz.prog 18 #[.pointer (some ⟨D.b, 0, none⟩), .int .i64 c, callV kind name level handle dv] w fun e w' => ∃ (w1 : World) (dv' : Value) (gb : Nat), e = .returned (.int .i64 0) ∧ Upd [] w w1 ∧ w1.ownsRow w.heap.size 5 1 dv' l.length (l.map B) ∧
      w1.heap.size = gb ∧ Upd [D.b] w1 w' ∧ w'.heap[gb]? = some (goingO ⟨gb, ⟨kind, name, level, handle, l, dv'⟩, -1, [], .slice none 0 0⟩) ∧ w'.heap[D.b]? = some (deskO { D with calls := updC D.calls c (some ⟨gb, ⟨kind, name, level, handle, l, dv'⟩, -1, [], .slice none 0 0⟩) }) := by
  obtain ⟨x, y, rfl⟩ := hd
  have hc := cell_calls h h0 h1
  have hs : D.b < w.heap.size := lt_of_heap h.desk
  have hf := froz_of h.desk
  rw [hb] at hc
  simp only [goP] at hc
  have H := Lib.hid hr
  have HD := Lib.hid h.desk
  have HB := Lib.hid hb
  clear h hb hr
  unfold callV
  obtain rfl | rfl | rfl | rfl : c = 0 ∨ c = 1 ∨ c = 2 ∨ c = 3 := by omega
  all_goals
    simp at hc
    go_enter Tryz.func18, Tryz.ntmps18
    go_wp2_with (go_at_call 33; refine (isClient_yes _ _ _ (by omega) (by omega)).mono ?_; rintro e w' ⟨rfl, rfl⟩)
    go_region_with (go_at_call 34; refine (copied_any kind name level handle (.slice x l.length y) l _ (H.out.upd (S := []) (by (with_reducible (repeat (first | exact Upd.refl _ _ | refine Upd.alloc ?_ _ | refine Upd.drew ?_ | refine Upd.drewN ?_ _ | refine Upd.setCell ?_ (by first | (left; simp; done) | (right; simp; done) | (right; simp; omega)) _)))) (by simp)) (by omega) ⟨_, _, rfl⟩).mono ?_; rintro e w1 ⟨dv', rfl, hU1, ho1, -⟩; obtain ⟨a1, c1, rfl⟩ := own_shape ho1; have bd := hU1.blk (heap_old HD.out) (by simp); have sd := lt_of_heap bd; have fd := froz_of bd; have kd := cell_none bd (by omega) (by omega) HB.out; have Bd := Lib.hid bd; clear bd; simp at kd; unfold callV)
    go_wp2
    go_ret
    refine ⟨w1, .slice a1 l.length c1, w1.heap.size, rfl, Upd.trans (by (with_reducible (repeat (first | exact Upd.refl _ _ | refine Upd.alloc ?_ _ | refine Upd.drew ?_ | refine Upd.drewN ?_ _ | refine Upd.setCell ?_ (by first | (left; simp; done) | (right; simp; done) | (right; simp; omega)) _)))) hU1, own_upd ho1 (Upd.refl [] _) (by simp) (by simp), rfl, by (with_reducible (repeat (first | exact Upd.refl _ _ | refine Upd.alloc ?_ _ | refine Upd.drew ?_ | refine Upd.drewN ?_ _ | refine Upd.setCell ?_ (by first | (left; simp; done) | (right; simp; done) | (right; simp; omega)) _))), ?_, ?_⟩
    · first
        | exact heap_new' (by simp)
        | exact (heap_setCell_ne (by simp; omega) _).trans (heap_new' rfl)
        | skip
    · exact (heap_old (heap_setCell_at Bd.out _ _)).trans (by simp [deskO, updC, goP])

/-- The Desk with a call more that goes on. -/
def DeskG.invoked (D : DeskG) (c : Int) (g : GoingG) : DeskG := { D with calls := updC D.calls c (some g) }

theorem goings_updC {D : DeskG} {c : Int} {g : GoingG} (h0 : 0 ≤ c) (h1 : c < 4) (hb : D.calls c = none) :
    ∃ l1 l2, D.goings = l1 ++ l2 ∧ (D.invoked c g).goings = l1 ++ g :: l2 := by
  obtain rfl | rfl | rfl | rfl : c = 0 ∨ c = 1 ∨ c = 2 ∨ c = 3 := by omega
  · exact ⟨[], [D.calls 1, D.calls 2, D.calls 3].filterMap id, by simp [DeskG.goings, hb], by simp [DeskG.goings, DeskG.invoked, updC]⟩
  · exact ⟨[D.calls 0].filterMap id, [D.calls 2, D.calls 3].filterMap id, by simp [DeskG.goings, hb]; cases D.calls 0 <;> simp, by simp [DeskG.goings, DeskG.invoked, updC]; cases D.calls 0 <;> simp⟩
  · exact ⟨[D.calls 0, D.calls 1].filterMap id, [D.calls 3].filterMap id, by simp [DeskG.goings, hb]; cases D.calls 0 <;> cases D.calls 1 <;> simp, by simp [DeskG.goings, DeskG.invoked, updC]; cases D.calls 0 <;> cases D.calls 1 <;> simp⟩
  · exact ⟨[D.calls 0, D.calls 1, D.calls 2].filterMap id, [], by simp [DeskG.goings, hb]; cases D.calls 0 <;> cases D.calls 1 <;> cases D.calls 2 <;> simp, by simp [DeskG.goings, DeskG.invoked, updC]; cases D.calls 0 <;> cases D.calls 1 <;> cases D.calls 2 <;> simp⟩

theorem invoke_ok (D : DeskG) (c kind : Int) (name : ByteArray) (level handle : Int) (dv : Value) (l : List UInt8) (w : World) (h : IsDesk w D) (h0 : 0 ≤ c) (h1 : c < 4) (hb : D.calls c = none)
    (hr : Rd w dv (l.map B)) (hl : l.length ≤ 3200) (hd : ∃ a c, dv = .slice a l.length c) :
    Calls Tryz.prog 18 #[.pointer (some ⟨D.b, 0, none⟩), .int .i64 c, callV kind name level handle dv] w fun e w' => ∃ g, e = .returned (.int .i64 0) ∧ Upd [D.b] w w' ∧ IsDesk w' (D.invoked c g) ∧
      g.at_ = -1 ∧ g.left = [] ∧ g.lv = .slice none 0 0 ∧ g.c.kind = kind ∧ g.c.name = name ∧ g.c.level = level ∧ g.c.handle = handle ∧ g.c.data = l ∧ w.heap.size ≤ g.b ∧ (∀ k, g.c.dv.ownBlock = some k → w.heap.size ≤ k) := by
  refine (invoke_walk D c kind name level handle dv l w h h0 h1 hb hr hl hd).mono ?_
  rintro e w' ⟨w1, dv', gb, rfl, hU1, ho, rfl, hU2, hg, hdk⟩
  have hz := hU1.size
  have hlt := h.lt
  have hbk : ∀ k, dv'.ownBlock = some k → w.heap.size ≤ k ∧ k < w1.heap.size := fun k hk => ho.lt k hk
  have hDlt : D.b < w.heap.size := lt_of_heap h.desk
  refine ⟨⟨w1.heap.size, ⟨kind, name, level, handle, l, dv'⟩, -1, [], .slice none 0 0⟩, rfl, (hU1.mono (by simp)).trans hU2, ?_, rfl, rfl, rfl, rfl, rfl, rfl, rfl, rfl, by simpa using hz, fun k hk => (hbk k hk).1⟩
  obtain ⟨l1, l2, e1, e2⟩ := goings_updC (g := ⟨w1.heap.size, ⟨kind, name, level, handle, l, dv'⟩, -1, [], .slice none 0 0⟩) h0 h1 hb
  have hD1 : IsDesk w1 D := h.quiet hU1
  have hnd := h.nd
  have hb1 : D.b ∉ (D.ev.ownBlock.toList ++ D.goings.map (·.b)) := by
    simp only [DeskG.mut, List.nodup_cons] at hnd
    exact hnd.1
  have himD : ∀ k ∈ D.imm, k ≠ D.b := fun k hk e => h.apart k hk (by simp [DeskG.mut, e])
  have hU : Upd [D.b] w w' := (hU1.mono (by simp)).trans hU2
  generalize hgg : (⟨w1.heap.size, ⟨kind, name, level, handle, l, dv'⟩, -1, [], .slice none 0 0⟩ : GoingG) = g at *
  have hgb : g.b = w1.heap.size := by rw [← hgg]
  have hgd : g.c.dv = dv' := by rw [← hgg]
  have hgl : g.lv = .slice none 0 0 := by rw [← hgg]
  have hmem : ∀ x, x ∈ (D.invoked c g).goings → x = g ∨ x ∈ D.goings := by
    intro x hx
    rw [e2] at hx
    rw [e1]
    simp at hx ⊢
    grind
  have hne : ∀ x ∈ D.goings, x.b ≠ D.b := fun x hx e => hb1 (by simp; exact .inr ⟨x, hx, e⟩)
  have hmut : ∀ k, k ∈ (D.invoked c g).mut ↔ k ∈ D.mut ∨ k = g.b := by
    intro k
    have hev : (D.invoked c g).ev = D.ev := rfl
    have hbb : (D.invoked c g).b = D.b := rfl
    simp only [DeskG.mut, e2, e1, hev, hbb]
    simp
    grind
  refine ⟨hdk, ?_, ?_, ?_, ?_, ?_⟩
  · intro x hx
    rcases hmem x hx with rfl | hx
    · refine ⟨by rw [← hgg] at hg ⊢; exact hg, ?_, ?_, ?_, ?_, ?_⟩
      · unfold Bytes
        rw [hgd]
        rw [← hgg]
        exact own_upd ho hU2 (fun k hk e => by have := hbk k hk; simp at e; omega) (Nat.zero_le _)
      · rw [hgl]; rw [← hgg]; exact Rd.nil _
      · rw [hgl]; simp [Value.ownBlock]
      · rw [← hgg]; exact hl
      · rw [hgl]; rw [← hgg]; exact ⟨_, _, rfl⟩
    · exact (h.going x hx).upd hU (by simpa using hne x hx) (fun k hk => by simpa using himD k (DeskG.mem_imm_going hx k hk))
  · exact own_upd h.effs hU (fun k hk e => hb1 (by simp at e; subst e; have hk' : D.ev.ownBlock = some D.b := hk; simp [hk'])) (Nat.le_refl _)
  · intro e he
    have he' : e ∈ D.effs := he
    exact (h.eff e he').upd hU (fun k hk => by simpa using himD k (DeskG.mem_imm_eff he' k hk))
  · have hfresh : g.b ∉ D.mut := fun e => by have := hlt.1 _ e; omega
    have hp : (D.invoked c g).mut.Perm (g.b :: D.mut) := by
      have hev : (D.invoked c g).ev = D.ev := rfl
      have hbb : (D.invoked c g).b = D.b := rfl
      simp only [DeskG.mut, e2, e1, hev, hbb, List.map_append, List.map_cons]
      refine List.Perm.trans ?_ (List.Perm.swap _ _ _)
      refine List.Perm.cons _ ?_
      rw [← List.append_assoc, ← List.append_assoc]
      exact List.perm_middle
    exact (hp.nodup_iff).2 (List.nodup_cons.2 ⟨hfresh, hnd⟩)
  · intro k hk hm
    rw [hmut] at hm
    have hk' : k ∈ D.imm ∨ dv'.ownBlock = some k := by
      simp only [DeskG.imm, List.mem_append, List.mem_flatMap] at hk ⊢
      rcases hk with ⟨x, hx, hk⟩ | hk
      · rcases hmem x hx with rfl | hx
        · rw [hgd, hgl] at hk
          right
          simpa [Value.ownBlock] using hk
        · exact .inl (.inl ⟨x, hx, hk⟩)
      · exact .inl (.inr hk)
    rcases hk' with hk | hk
    · rcases hm with hm | hm
      · exact h.apart k hk hm
      · have := hlt.2 k hk
        omega
    · have := hbk k hk
      rcases hm with hm | hm
      · have := hlt.1 k hm
        omega
      · omega
end Go.Proofs.YtmcnjikafppccaaGreat
