/- manglelaw12.PlanLoads: what the Plan is behind each call; the walk. -/
import Derived.Test.YtmcnjikafppccaaGreatPlanAt2
import Derived.Test.YtmcnjikafppccaaGreatPlanOpenLaw
import Derived.Test.YtmcnjikafppccaaGreatAppendMake
namespace Go.Proofs.YtmcnjikafppccaaGreat
open Go.RowKit

def nmD : ByteArray := ⟨#[100]⟩
/-- What a Plan holds. -/
structure Holds0 (G : PlanG) (u : Int → Int) (books : List (Int × Book × Nat)) (names : List (ByteArray × Int × Nat)) (loads : List (Int × (Int × Int) × Nat)) (sess : List (Int × SessG × Nat)) (last slast : Int) : Prop where
  all : G.all = 20000
  each : G.each = 9000
  u : G.u = u
  books : G.sh.books = books
  names : G.sh.names = names
  loads : G.loads = loads
  sess : G.sess = sess
  last : G.last = last
  slast : G.sh.last = slast
theorem addU_zero (u : Int → Int) (c : Int) : addU u c 0 = u := by funext i; unfold addU; split <;> omega
theorem min_zero {u : Int → Int} (h : 0 ≤ u 0) : addU u 0 (- min 0 (u 0)) = u := by
  rw [Int.min_eq_left h]; exact addU_zero u 0

theorem sumU_add' (u : Int → Int) (c n : Int) (h0 : 0 ≤ c) (h1 : c < 4) : sumU (addU u c n) = sumU u + n := by
  unfold sumU addU
  obtain rfl | rfl | rfl | rfl : c = 0 ∨ c = 1 ∨ c = 2 ∨ c = 3 := by omega
  all_goals simp
  all_goals omega
/-- Behind the load. -/
theorem holds_load {G : PlanG} (h : Holds0 G (fun _ => 0) [] [] [] [] 0 0) (by_ : Int) (d : List UInt8) (bb db cap : Nat) (_hb : 0 ≤ by_) :
    ∃ c1 c2 c4, Holds0 (G.loadedG by_ nmD d bb db cap) (addU (fun _ => 0) by_ d.length) [(1, ⟨bb, db, d, cap, true, 0⟩, c1)] [(nmD, 1, c2)] [(1, (by_, (d.length : Int)), c4)] [] 0 1 := by
  have hr : G.sh.retG nmD = G.sh := by unfold ShelfG.retG; rw [h.names]; rfl
  have hr2 : retR G.sh nmD = 0 := by unfold retR; rw [h.names]; rfl
  refine ⟨G.sh.c1, G.sh.c2, G.c4, ?_⟩
  have e1 : G.sh.last + 1 = 1 := by rw [h.slast]; rfl
  unfold PlanG.loadedG PlanG.goneG loadOf
  simp only [hr2, h.loads, ShelfG.loadG, ShelfG.name, ShelfG.addB, hr, h.books, h.names, e1, List.nil_append, h.u]
  have hg : getI 0 [((1 : Int), (by_, (d.length : Int)), G.c4)] = none := rfl
  simp only [hg, Option.map_none, Option.getD_none]
  refine ⟨h.all, h.each, ?_, rfl, rfl, rfl, h.sess, h.last, rfl⟩
  simp only
  refine min_zero ?_
  unfold addU
  simp only
  split <;> omega
theorem Holds0.ok {G : PlanG} {u : Int → Int} {bk : Book} {c1 c2 c4 : Nat} {by_ n : Int} {sess : List (Int × SessG × Nat)} {last : Int} (h : Holds0 G u [(1, bk, c1)] [(nmD, 1, c2)] [(1, (by_, n), c4)] sess last 1) (hcur : bk.cur = true) (hp : 0 ≤ bk.pins) (hd : bk.dict.length ≤ 2000) (hb : 0 ≤ by_ ∧ by_ < 4) (hn : 0 ≤ n ∧ n ≤ 2000) : PlOk G := by
  refine ⟨⟨by rw [h.books]; simp, by rw [h.books, h.slast]; simp, ?_, by rw [h.names]; simp, by rw [h.names]; simp, by rw [h.books]; simpa using hp, by rw [h.books]; simpa using hd⟩, by rw [h.loads]; simpa using ⟨hb.1, hb.2, hn.1, hn.2⟩⟩
  intro y hy
  rw [h.names] at hy
  simp at hy
  subst hy
  refine ⟨bk, ?_, hcur⟩
  unfold bookAt
  rw [h.books]
  rfl
theorem holds_open {G : PlanG} {u : Int → Int} {bk : Book} {c1 c2 c4 : Nat} {by_ n : Int} (h : Holds0 G u [(1, bk, c1)] [(nmD, 1, c2)] [(1, (by_, n), c4)] [] 0 1) (c : Int) (sb : Nat) :
    ∃ c3, Holds0 ((G.pinned 1).opened c sb 1) (addU u c 2500) [(1, incr bk, c1)] [(nmD, 1, c2)] [(1, (by_, n), c4)] [(1, ⟨c, sb, 1⟩, c3)] 1 1 := by
  refine ⟨G.c3, ?_⟩
  unfold PlanG.opened PlanG.pinned ShelfG.set
  refine ⟨h.all, h.each, ?_, ?_, h.names, h.loads, ?_, ?_, h.slast⟩
  · simp only [h.u]
  · simp only [h.books]; rfl
  · simp only [h.sess, h.last]; rfl
  · simp only [h.last]; rfl
theorem holds_retire {G : PlanG} {u : Int → Int} {bk : Book} {c1 c2 c4 : Nat} {by_ n : Int} {sess : List (Int × SessG × Nat)} (h : Holds0 G u [(1, bk, c1)] [(nmD, 1, c2)] [(1, (by_, n), c4)] sess 1 1) (hp : 0 < bk.pins) (hu : 0 ≤ u 0) :
    Holds0 (G.retireG nmD) u [(1, uncur bk, c1)] [] [(1, (by_, n), c4)] sess 1 1 ∧ retE G.sh nmD = 0 := by
  have hg : getS nmD G.sh.names = some (1, c2) := by rw [h.names]; rfl
  have hset : ((G.sh.unname nmD).set 1 uncur).books = [(1, uncur bk, c1)] := by
    simp only [ShelfG.set, ShelfG.unname, h.books]; rfl
  have hfree : free ((G.sh.unname nmD).set 1 uncur) 1 = false := by
    unfold free bookAt
    rw [hset]
    have : getI 1 [((1 : Int), uncur bk, c1)] = some (uncur bk, c1) := rfl
    rw [this]
    simp [uncur]
    omega
  have hr : G.sh.retG nmD = (G.sh.unname nmD).set 1 uncur := by
    unfold ShelfG.retG; rw [hg]
    simp only [ShelfG.letsG, hfree]
    rfl
  have hr2 : retR G.sh nmD = 0 := by
    unfold retR; rw [hg]
    simp only [letsR, hfree]
    rfl
  constructor
  · unfold PlanG.retireG PlanG.goneG loadOf
    simp only [hr, hr2, h.loads]
    have hg0 : getI 0 [((1 : Int), (by_, n), c4)] = none := rfl
    simp only [hg0, Option.map_none, Option.getD_none]
    refine ⟨h.all, h.each, ?_, hset, ?_, rfl, h.sess, h.last, h.slast⟩
    · simp only [h.u]; exact min_zero hu
    · simp only [ShelfG.set, ShelfG.unname, h.names]; rfl
  · unfold retE idAt
    rw [hg]
    rfl
theorem holds_abort {G : PlanG} {u : Int → Int} {bk : Book} {c1 c3 c4 : Nat} {by_ n c : Int} {sb : Nat} (h : Holds0 G u [(1, bk, c1)] [] [(1, (by_, n), c4)] [(1, ⟨c, sb, 1⟩, c3)] 1 1) (hp : bk.pins = 1) (hc : bk.cur = false) :
    Holds0 (G.endsG 1 ⟨c, sb, 1⟩) (addU (addU u by_ (- min n (u by_))) c (- min 2500 ((addU u by_ (- min n (u by_))) c))) [] [] [] [] 1 1 := by
  have hb : bookAt G.sh 1 = some bk := by unfold bookAt; rw [h.books]; rfl
  have hset : (G.sh.set 1 dec).books = [(1, dec bk, c1)] := by simp only [ShelfG.set, h.books]; rfl
  have hfree : free (G.sh.set 1 dec) 1 = true := by
    unfold free bookAt
    rw [hset]
    have : getI 1 [((1 : Int), dec bk, c1)] = some (dec bk, c1) := rfl
    rw [this]
    simp [dec, hp, hc]
  have hu1 : unpinR G.sh 1 = true := by unfold unpinR; rw [hb]; simp [hp, hfree]
  have hu2 : G.sh.unpinG 1 = (G.sh.set 1 dec).del 1 := by unfold ShelfG.unpinG; rw [hb]; simp [hp, ShelfG.letsG, hfree]
  unfold PlanG.endsG PlanG.unpinsG PlanG.giveG PlanG.goneG loadOf
  simp only [hu1, hu2, h.loads, if_true]
  have hg1 : getI 1 [((1 : Int), (by_, n), c4)] = some ((by_, n), c4) := rfl
  simp only [hg1, Option.map_some, Option.getD_some, h.u]
  refine ⟨h.all, h.each, rfl, ?_, h.names, rfl, ?_, h.last, h.slast⟩
  · simp only [ShelfG.del, hset]; rfl
  · simp only [h.sess]; rfl

set_option maxRecDepth 100000 in
set_option maxHeartbeats 2000000 in
theorem loads_walk (n by_ other : Int) (W : World) (hW : Upd [] W W) : Calls Tryz.prog 6 #[.int .i64 n, .int .i64 by_, .int .i64 other] W fun e w' => e = .returned (.bool true) ∧ Upd [] W w' := by
  by_cases hg : n < 1 ∨ 1000 < n ∨ by_ < 0 ∨ 3 < by_ ∨ other < 0 ∨ 3 < other
  · go_enter Tryz.func6, Tryz.ntmps6
    go_wp2
    all_goals (go_ret; exact ⟨rfl, Upd.refl _ _⟩)
  · obtain ⟨m, rfl⟩ : ∃ m : Nat, n = m := ⟨n.toNat, by omega⟩
    have n1 : 1 ≤ m := by omega
    have n2 : m ≤ 1000 := by omega
    have y0 : 0 ≤ by_ := by omega
    have y1 : by_ ≤ 3 := by omega
    have o0 : 0 ≤ other := by omega
    have o1 : other ≤ 3 := by omega
    clear hg
    go_enter Tryz.func6, Tryz.ntmps6
    go_wp2_with fail
    refine (new_at 20000 9000 W W hW).mono ?_
    rintro e w1 ⟨G, rfl, hA, e1, e2, e3, e4, e5, e6, e7, e8, e9⟩
    have E : Hid (Holds0 G (fun _ => 0) [] [] [] [] 0 0) := ⟨by rw [e1]; decide, by rw [e2]; decide, e3, e7, e8, e5, e4, e6, e9⟩
    have HA := Lib.hid hA
    clear e1 e2 e3 e4 e5 e6 e7 e8 e9 hA
    have hcv : (convert 25 25 (.slice (some ⟨w1.heap.size, 0, none⟩) 4 4)).run Tryz.prog (w1.alloc (.cells #[.int .u8 77, .int .u8 68, .int .u8 73, .int .u8 67] 5)) = .ok (.slice (some ⟨w1.heap.size, 0, none⟩) 4 4) (w1.alloc (.cells #[.int .u8 77, .int .u8 68, .int .u8 73, .int .u8 67] 5 (4, 5))) := Lib.run_convert_bytes_const (P := Tryz.prog) w1 25 5 #[.int .u8 77, .int .u8 68, .int .u8 73, .int .u8 67] 4 4 Tryz.underlying25 Tryz.underlying5
    obtain ⟨cp, w2, happ, hU2, ho2⟩ := run_append_make (w := w1.alloc (.cells #[.int .u8 77, .int .u8 68, .int .u8 73, .int .u8 67] 5 (4, 5))) (g := w1.heap.size) (fr := (4, 5)) [77, 68, 73, 67] (heap_new w1 _) m n1 (by omega) (by decide)
    have hlen : ([77, 68, 73, 67] ++ List.replicate m 0 : List UInt8).length = 4 + m := by simp; omega
    have HO2 := Lib.hid ho2
    have HU2 := Lib.hid hU2
    have HLEN := Lib.hid hlen
    clear ho2 hU2 hlen
    simp only [List.length_cons, List.length_nil, Nat.zero_add, Nat.reduceAdd, World.size_alloc] at happ
    have HAPP := Lib.hid happ
    clear happ
    go_wp2_with (at_builtin; refine wpList_append_run (by rfl) _ _ _ _ rfl rfl rfl HAPP.out ?_)
    have HA2 := Lib.hid ((HA.out.quiet ((Upd.refl [] _).alloc _)).quiet HU2.out)
    have hD0 : isD nmD ([77, 68, 73, 67] ++ List.replicate m 0) = 0 := by
      unfold isD
      rw [if_neg (by decide), if_neg (by rw [HLEN.out]; simp [pfx]; omega)]
    have hB : PlOk G := ⟨⟨by rw [E.out.books]; simp, by rw [E.out.books]; simp, by rw [E.out.names]; simp, by rw [E.out.names]; simp, by rw [E.out.names]; simp, by rw [E.out.books]; simp, by rw [E.out.books]; simp⟩, by rw [E.out.loads]; simp⟩
    have hgb : w1.heap.size + 1 ∉ G.blocks := fun e => by have := HA.out.plan.lt _ e; omega
    have hrd : Rd w2 (.slice (some ⟨w1.heap.size + 1, 0, none⟩) ([77, 68, 73, 67] ++ List.replicate m 0 : List UInt8).length cp) (([77, 68, 73, 67] ++ List.replicate m 0 : List UInt8).map B) := by
      have := (Rd.of_own HO2.out).1
      rw [HLEN.out]
      simpa [Nat.add_comm] using this
    have hsz : w1.heap.size + 1 < w2.heap.size := by
      have := (HO2.out.lt (w1.heap.size + 1) (by simp [Value.ownBlock])).2
      exact this
    have hcp : 4 + m ≤ cp := by
      rcases HO2.out.2 with ⟨h, -⟩ | ⟨g', c', cur, h, -, -, hc, -⟩
      · simp at h
      · simp only [Value.slice.injEq] at h
        obtain ⟨-, -, rfl⟩ := h
        simpa [Nat.add_comm] using hc
    have hcall := at_load W w2 G by_ nmD 0 0 (w1.heap.size + 1) 0 cp ([77, 68, 73, 67] ++ List.replicate m 0) HA2.out hB hrd hsz hgb (by rw [HLEN.out]; exact hcp) (by rw [HLEN.out]; omega) (by decide) hD0 (by rw [HLEN.out]; omega) (by rw [HLEN.out]; omega) (by rw [E.out.slast]; decide) (by rw [E.out.loads]; simp) y0 (by omega) (by rw [HLEN.out, E.out.each, E.out.u]; simp; omega) (by rw [HLEN.out, E.out.all, E.out.u]; simp [sumU]; omega)
    rw [HLEN.out, E.out.slast] at hcall
    refine hcall.mono ?_
    rintro e w3 ⟨rfl, bb, db, cap, hA3⟩
    have hdr : ([77, 68, 73, 67] ++ List.replicate m 0 : List UInt8).drop 4 = List.replicate m 0 := by simp
    rw [hdr] at hA3
    obtain ⟨c1, c2, c4, h1⟩ := holds_load E.out by_ (List.replicate m 0) bb db cap y0
    rw [List.length_replicate] at h1
    have H1 := Lib.hid h1
    have HA3 := Lib.hid hA3
    have hB3 : (G.loadedG by_ nmD (List.replicate m 0) bb db cap).b = G.b := rfl
    clear h1 hA3 hcall hrd hB hD0 hgb hsz hcp hdr hcv HA2 HO2 HU2 HA
    generalize G.loadedG by_ nmD (List.replicate m 0) bb db cap = G3 at *
    have HB3 := Lib.hid hB3
    clear hB3
    have hf0 := ans_f0
    have hf1 := ans_f1
    have huby : G3.u by_ = (m : Int) := by rw [H1.out.u]; simp [addU]
    have HUBY := Lib.hid huby
    clear huby
    unfold ansV
    go_wp2_with fail
    have hof := plan_of G3 by_ w3 HA3.out.plan y0 (by omega)
    rw [HB3.out, HUBY.out] at hof
    refine hof.mono ?_
    rintro e w' ⟨rfl, hw⟩
    have hw := hw.symm
    subst hw
    clear hof
    go_wp2_with fail
    have ok3 : PlOk G3 := H1.out.ok rfl (by simp) (by simp; omega) ⟨y0, by omega⟩ ⟨by omega, by omega⟩
    have hid3 : idAt G3.sh nmD = 1 := by unfold idAt; rw [H1.out.names]; rfl
    have hbk3 : bookAt G3.sh 1 = some ⟨bb, db, List.replicate m 0, cap, true, 0⟩ := by unfold bookAt; rw [H1.out.books]; rfl
    have hq : G3.u other ≤ 1000 ∧ sumU G3.u = m := by
      rw [H1.out.u]
      constructor
      · unfold addU; simp only; split <;> omega
      · rw [sumU_add' _ _ _ y0 (by omega)]; simp [sumU]
    have hcall := at_dict W w3 G3 other nmD 1 _ 1 0 (.slice none 0 0) HA3.out ok3 ⟨_, _, _, rfl⟩ (by omega) (by decide) (by decide) hid3 (by decide) (by decide) (by decide) hbk3 (by simp) (by simp; omega) o0 (by omega) (by rw [H1.out.each]; omega) (by rw [H1.out.all]; omega) (by rw [H1.out.sess]; rfl) (by rw [H1.out.last]; omega)
    rw [HB3.out, H1.out.last] at hcall
    refine hcall.mono ?_
    rintro e w4 ⟨sb, rfl, hA4⟩
    obtain ⟨c3, h2⟩ := holds_open H1.out other sb
    have H2 := Lib.hid h2
    have HA4 := Lib.hid hA4
    have hB4 : ((G3.pinned 1).opened other sb 1).b = G3.b := rfl
    have HQ := Lib.hid hq
    clear h2 hA4 hcall ok3 hid3 hbk3 hq
    generalize (G3.pinned 1).opened other sb 1 = G4 at *
    have HB4 := Lib.hid (hB4.trans HB3.out)
    clear hB4
    unfold ansV
    go_wp2_with fail
    have ok4 : PlOk G4 := H2.out.ok rfl (by simp [incr]) (by simp [incr]; omega) ⟨y0, by omega⟩ ⟨by omega, by omega⟩
    have hcall := at_retire W w4 G4 other nmD 0 0 (.slice none 0 0) HA4.out ok4 ⟨_, _, _, rfl⟩ o0 (by omega)
    obtain ⟨h3, hre⟩ := holds_retire H2.out (by simp [incr]) (by unfold addU; simp only; split <;> split <;> omega)
    rw [HB4.out, hre] at hcall
    refine hcall.mono ?_
    rintro e w5 ⟨rfl, hA5⟩
    have H3 := Lib.hid h3
    have HA5 := Lib.hid hA5
    have hB5 : (G4.retireG nmD).b = G4.b := rfl
    clear h3 hre hA5 hcall ok4
    generalize G4.retireG nmD = G5 at *
    have HB5 := Lib.hid (hB5.trans HB4.out)
    clear hB5
    unfold ansV
    go_wp2_with fail
    have hus := purse_used G5 w5 HA5.out.plan
    have hsum : sumU G5.u = (m : Int) + 2500 := by
      rw [H3.out.u, sumU_add' _ _ _ o0 (by omega), sumU_add' _ _ _ y0 (by omega)]; simp [sumU]
    rw [HB5.out, hsum] at hus
    refine hus.mono ?_
    rintro e w' ⟨rfl, hw⟩
    have hw := hw.symm
    subst hw
    clear hus hsum
    go_wp2_with fail
    have hcall := at_openNone W w5 G5 by_ nmD 1 0 (.slice none 0 0) HA5.out ⟨_, _, _, rfl⟩ y0 (by omega) (by omega) (by rw [ByteArray.toList_eq]; rfl) (by decide) (by unfold idAt; rw [H3.out.names]; rfl)
    rw [HB5.out] at hcall
    refine hcall.mono ?_
    rintro e w6 ⟨rfl, hA6⟩
    have HA6 := Lib.hid hA6
    clear hA6 hcall
    unfold ansV
    go_wp2_with fail
    have ok5 : PlOk G5 := ⟨⟨by rw [H3.out.books]; simp, by rw [H3.out.books, H3.out.slast]; simp, by rw [H3.out.names]; simp, by rw [H3.out.names]; simp, by rw [H3.out.names]; simp, by rw [H3.out.books]; simp [uncur, incr], by rw [H3.out.books]; simp [uncur, incr]; omega⟩, by rw [H3.out.loads]; simp; omega⟩
    have hcall := at_abort W w6 G5 other ⟨#[]⟩ 0 1 (.slice none 0 0) ⟨other, sb, 1⟩ c3 HA6.out ok5 (by rw [H3.out.books]; simp [uncur, incr]) ⟨_, _, _, rfl⟩ (by rw [H3.out.sess]; rfl) rfl o0 (by omega)
    rw [HB5.out] at hcall
    refine hcall.mono ?_
    rintro e w7 ⟨rfl, hA7⟩
    have h4 := holds_abort H3.out (by simp [uncur, incr]) rfl
    have H4 := Lib.hid h4
    have HA7 := Lib.hid hA7
    have hB7 : (G5.endsG 1 ⟨other, sb, 1⟩).b = G5.b := by
      unfold PlanG.endsG PlanG.giveG PlanG.unpinsG; split <;> rfl
    clear h4 hA7 hcall ok5
    generalize G5.endsG 1 ⟨other, sb, 1⟩ = G7 at *
    have HB7 := Lib.hid (hB7.trans HB5.out)
    clear hB7
    have hu7 : ∀ i, G7.u i = 0 := by
      intro i
      rw [H4.out.u]
      unfold addU
      simp only
      repeat' split
      all_goals omega
    have HU7 := Lib.hid hu7
    clear hu7
    unfold ansV
    go_wp2_with fail
    have hus := purse_used G7 w7 HA7.out.plan
    have hsum : sumU G7.u = 0 := by unfold sumU; rw [HU7.out, HU7.out, HU7.out, HU7.out]; rfl
    rw [HB7.out, hsum] at hus
    refine hus.mono ?_
    rintro e w' ⟨rfl, hw⟩
    have hw := hw.symm
    subst hw
    clear hus hsum
    go_wp2_with fail
    have hof := plan_of G7 by_ w7 HA7.out.plan y0 (by omega)
    rw [HB7.out, HU7.out] at hof
    refine hof.mono ?_
    rintro e w' ⟨rfl, hw⟩
    have hw := hw.symm
    subst hw
    clear hof
    go_wp2_with fail
    refine (known12 W _ HA7.out.upd).mono ?_
    rintro e w8 ⟨rfl, hU8⟩
    go_wp2
    go_ret
    exact ⟨rfl, hU8⟩
end Go.Proofs.YtmcnjikafppccaaGreat
