/- What a Desk is behind a call's first step. -/
import Derived.Test.YtmcnjikafppccaaGreatDeskInvoke
namespace Go.Proofs.YtmcnjikafppccaaGreat
open Go.RowKit

/-- The Desk behind the first step of client c's call: g' what goes on, e the effect. -/
def DeskG.begun (D : DeskG) (c : Int) (g' : GoingG) (e : EffG) (ev' : Value) : DeskG := { D with calls := updC D.calls c (some g'), effs := D.effs ++ [e], ev := ev' }

theorem eff_new (w : World) (x : EffG) (T : TypeId) : ∀ (j : Nat) (u : Value), x.cells[j]? = some u → (w.alloc (.cells x.cells.toArray T)).cell? ((⟨w.heap.size, 0, none⟩ : Addr).add j) = some u := by
  intro j u hu
  have ha : (⟨w.heap.size, 0, none⟩ : Addr).add j = ⟨w.heap.size, j, none⟩ := by unfold Addr.add; split <;> simp_all
  rw [ha, cell_of (heap_new w _)]
  simpa using hu
theorem eff_one (x : EffG) (ha : ∃ a n c, x.c.dv = .slice a n c) (hb : ∃ a n c, x.ov = .slice a n c) : ∀ u ∈ x.cells, u.oneCell' = true := by
  obtain ⟨a, n, c, ha⟩ := ha
  obtain ⟨a', n', c', hb⟩ := hb
  intro u hu
  simp only [EffG.cells, List.mem_cons, List.not_mem_nil, or_false, ha, hb] at hu
  rcases hu with rfl | rfl | rfl | rfl | rfl | rfl | rfl | rfl | rfl <;> rfl
theorem goings_set {D : DeskG} {c : Int} {g g' : GoingG} {e : EffG} {ev' : Value} (h0 : 0 ≤ c) (h1 : c < 4) (hb : D.calls c = some g) :
    ∃ l1 l2, D.goings = l1 ++ g :: l2 ∧ (D.begun c g' e ev').goings = l1 ++ g' :: l2 := by
  obtain rfl | rfl | rfl | rfl : c = 0 ∨ c = 1 ∨ c = 2 ∨ c = 3 := by omega
  · exact ⟨[], [D.calls 1, D.calls 2, D.calls 3].filterMap id, by simp [DeskG.goings, hb], by simp [DeskG.goings, DeskG.begun, updC]⟩
  · exact ⟨[D.calls 0].filterMap id, [D.calls 2, D.calls 3].filterMap id, by simp [DeskG.goings, hb]; cases D.calls 0 <;> simp, by simp [DeskG.goings, DeskG.begun, updC]; cases D.calls 0 <;> simp⟩
  · exact ⟨[D.calls 0, D.calls 1].filterMap id, [D.calls 3].filterMap id, by simp [DeskG.goings, hb]; cases D.calls 0 <;> cases D.calls 1 <;> simp, by simp [DeskG.goings, DeskG.begun, updC]; cases D.calls 0 <;> cases D.calls 1 <;> simp⟩
  · exact ⟨[D.calls 0, D.calls 1, D.calls 2].filterMap id, [], by simp [DeskG.goings, hb]; cases D.calls 0 <;> cases D.calls 1 <;> cases D.calls 2 <;> simp, by simp [DeskG.goings, DeskG.begun, updC]; cases D.calls 0 <;> cases D.calls 1 <;> cases D.calls 2 <;> simp⟩

theorem begun_ok {D : DeskG} {c : Int} {g g' : GoingG} {e : EffG} {ev' : Value} {w w' : World} {PB : List Nat} (h : IsDesk w D) (h0 : 0 ≤ c) (h1 : c < 4) (hb : D.calls c = some g)
    (hgb : g'.b = g.b) (hgd : g'.c = g.c) (hgl : g'.lv.ownBlock.toList = [] ∨ g'.lv.ownBlock = g.c.dv.ownBlock ∨ g'.lv.ownBlock = g.lv.ownBlock) (hgok : GoingOk w' g')
    (hU : Upd (D.b :: g.b :: (D.ev.ownBlock.toList ++ PB)) w w') (hPB : ∀ k ∈ PB, k ∉ D.mut ∧ k ∉ D.imm)
    (hdesk : w'.heap[D.b]? = some (deskO (D.begun c g' e ev'))) (hev : w'.ownsRow 0 66 9 ev' (D.effs ++ [e]).length ((D.effs ++ [e]).flatMap EffG.cells))
    (hed : e.c = g.c) (hout : Bytes w' e.ov e.out) (hfresh : ∀ k, e.ov.ownBlock = some k → w.heap.size ≤ k)
    (hevb : ev'.ownBlock = D.ev.ownBlock ∨ ∃ k, ev'.ownBlock = some k ∧ w.heap.size ≤ k ∧ e.ov.ownBlock ≠ some k) : IsDesk w' (D.begun c g' e ev') := by
  obtain ⟨l1, l2, e1, e2⟩ := goings_set (g' := g') (e := e) (ev' := ev') h0 h1 hb
  have hlt := h.lt
  have hgm := DeskG.mem_goings h0 h1 hb
  have hmutU : ∀ k, k ∈ D.b :: g.b :: (D.ev.ownBlock.toList ++ PB) → k ∈ D.mut ∨ k ∈ PB := by
    intro k hk
    simp only [List.mem_cons, List.mem_append] at hk
    rcases hk with rfl | rfl | hk | hk
    · exact .inl (by simp [DeskG.mut])
    · exact .inl (DeskG.mem_mut_going hgm)
    · exact .inl (by simp only [DeskG.mut, List.mem_cons, List.mem_append]; exact .inr (.inl hk))
    · exact .inr hk
  have himm : ∀ k ∈ D.imm, k ∉ D.b :: g.b :: (D.ev.ownBlock.toList ++ PB) := fun k hk hm => by
    rcases hmutU k hm with hm | hm
    · exact h.apart k hk hm
    · exact (hPB k hm).2 hk
  have hnd := h.nd
  simp only [DeskG.mut, e1, List.map_append, List.map_cons] at hnd
  have hother : ∀ x ∈ D.goings, x ∈ l1 ∨ x ∈ l2 → x.b ∉ D.b :: g.b :: (D.ev.ownBlock.toList ++ PB) := by
    intro x hx hl hm
    have hm' : x.b = D.b ∨ x.b = g.b ∨ x.b ∈ D.ev.ownBlock.toList ∨ x.b ∈ PB := by simpa using hm
    have hxl : x.b ∈ l1.map (·.b) ∨ x.b ∈ l2.map (·.b) := hl.imp (fun h => List.mem_map.2 ⟨x, h, rfl⟩) (fun h => List.mem_map.2 ⟨x, h, rfl⟩)
    rcases hm' with hm | hm | hm | hm
    · simp only [List.nodup_cons, List.mem_append, List.mem_cons, not_or] at hnd
      rcases hxl with hl | hl
      · exact hnd.1.2.1 (hm ▸ hl)
      · exact hnd.1.2.2.2 (hm ▸ hl)
    · have hn3 := (List.nodup_append.1 (List.nodup_append.1 (List.nodup_cons.1 hnd).2).2.1)
      rcases hxl with hl | hl
      · exact hn3.2.2 _ hl _ (List.mem_cons_self) hm
      · exact (List.nodup_cons.1 hn3.2.1).1 (hm ▸ hl)
    · have hn3 := (List.nodup_append.1 (List.nodup_cons.1 hnd).2).2.2
      refine hn3 _ hm x.b ?_ rfl
      simp only [List.mem_append, List.mem_cons]
      rcases hxl with hl | hl
      · exact .inl hl
      · exact .inr (.inr hl)
    · exact (hPB _ hm).1 (DeskG.mem_mut_going hx)
  refine ⟨hdesk, ?_, hev, ?_, ?_, ?_⟩
  · intro x hx
    rw [e2] at hx
    simp only [List.mem_append, List.mem_cons] at hx
    rcases hx with hx | rfl | hx
    · have hx' : x ∈ D.goings := by rw [e1]; simp [hx]
      exact (h.going x hx').upd hU (hother x hx' (.inl hx)) (fun k hk => himm k (DeskG.mem_imm_going hx' k hk))
    · exact hgok
    · have hx' : x ∈ D.goings := by rw [e1]; simp [hx]
      exact (h.going x hx').upd hU (hother x hx' (.inr hx)) (fun k hk => himm k (DeskG.mem_imm_going hx' k hk))
  · intro x hx
    have hx' : x ∈ D.effs ∨ x = e := by simpa [DeskG.begun] using hx
    rcases hx' with hx | rfl
    · exact (h.eff x hx).upd hU (fun k hk => himm k (DeskG.mem_imm_eff hx k hk))
    · have hG := (h.going g hgm)
      refine ⟨?_, hout, ?_⟩
      · rw [hed]
        exact hG.data.upd hU (fun k hk => himm k (DeskG.mem_imm_going hgm k (by simp at hk; simp [hk])))
      · rw [hed]; exact hG.size
  · have hb' : (D.begun c g' e ev').b = D.b := rfl
    have hev' : (D.begun c g' e ev').ev = ev' := rfl
    simp only [DeskG.mut, e2, List.map_append, List.map_cons, hb', hev', hgb]
    rcases hevb with he | ⟨k, he, hk, -⟩
    · rw [he]; exact hnd
    · rw [he]
      have hk1 : ∀ j ∈ D.mut, j ≠ k := fun j hj e => by have := hlt.1 j hj; omega
      simp only [DeskG.mut, e1, List.map_append, List.map_cons] at hk1
      simp only [List.nodup_cons, List.nodup_append] at hnd ⊢
      grind
  · intro k hk hm
    have hm' : k ∈ D.mut ∨ (ev'.ownBlock = some k ∧ w.heap.size ≤ k ∧ e.ov.ownBlock ≠ some k) := by
      have hb' : (D.begun c g' e ev').b = D.b := rfl
      have hev' : (D.begun c g' e ev').ev = ev' := rfl
      simp only [DeskG.mut, e2, e1, List.map_append, List.map_cons, hb', hev', hgb] at hm ⊢
      rcases hevb with he | ⟨j, he, hj, hj2⟩
      · rw [he] at hm; exact .inl hm
      · rw [he] at hm
        simp only [List.mem_cons, List.mem_append, Option.toList_some, List.not_mem_nil, or_false] at hm ⊢
        rcases hm with hm | hm | hm
        · exact .inl (.inl hm)
        · subst hm; exact .inr ⟨he, hj, hj2⟩
        · exact .inl (.inr (.inr hm))
    have hk' : k ∈ D.imm ∨ e.ov.ownBlock = some k := by
      simp only [DeskG.imm, e2, List.mem_append, List.mem_flatMap] at hk
      rcases hk with ⟨x, hx, hk⟩ | ⟨x, hx, hk⟩
      · have hx' : x ∈ D.goings ∨ x = g' := by
          rw [e1]
          simp only [List.mem_append, List.mem_cons] at hx ⊢
          grind
        rcases hx' with hx' | rfl
        · exact .inl (DeskG.mem_imm_going hx' k (by simpa using hk))
        · left
          rw [hgd] at hk
          rcases hk with hk | hk
          · exact DeskG.mem_imm_going hgm k (by simp; exact .inl (by simpa using hk))
          · rcases hgl with hgl | hgl | hgl
            · rw [hgl] at hk; simp at hk
            · rw [hgl] at hk; exact DeskG.mem_imm_going hgm k (by simp; exact .inl (by simpa using hk))
            · rw [hgl] at hk; exact DeskG.mem_imm_going hgm k (by simp; exact .inr (by simpa using hk))
      · have hx' : x ∈ D.effs ∨ x = e := by simpa [DeskG.begun] using hx
        rcases hx' with hx' | rfl
        · exact .inl (DeskG.mem_imm_eff hx' k (by simpa using hk))
        · rw [hed] at hk
          rcases hk with hk | hk
          · exact .inl (DeskG.mem_imm_going hgm k (by simp; exact .inl (by simpa using hk)))
          · exact .inr (by simpa using hk)
    rcases hk' with hk' | hk'
    · rcases hm' with hm' | hm'
      · exact h.apart k hk' hm'
      · have := hlt.2 k hk'; omega
    · rcases hm' with hm' | hm'
      · have := hlt.1 k hm'
        have := hfresh k hk'
        omega
      · exact hm'.2.2 hk'
end Go.Proofs.YtmcnjikafppccaaGreat
