/- plan.load where it is refused. -/
import Derived.Test.YtmcnjikafppccaaGreatShelfIs
namespace Go.Proofs.YtmcnjikafppccaaGreat
open Go.RowKit

set_option maxRecDepth 100000 in
theorem load_bad (b : Nat) (c kind : Int) (name : ByteArray) (level handle : Int) (dv : Value) (l : List UInt8) (w : World) (hr : Rd w dv (l.map B)) (hd : ∃ a c, dv = .slice a l.length c) (hl : l.length ≤ 1000000) (hn : name.size ≤ 1000000) (hbad : isD name l ≠ 0) :
    Calls Tryz.prog 29 #[.pointer (some ⟨b, 0, none⟩), .int .i64 c, callV kind name level handle dv] w fun e w' => e = .returned (ansV (isD name l) 0 (.slice none 0 0)) ∧ Upd [] w w' := by
  obtain ⟨a, cp, rfl⟩ := hd
  have HR := Lib.hid hr
  have HD : Hid (∃ a' c', Value.slice a l.length cp = .slice a' l.length c') := ⟨_, _, rfl⟩
  have hb2 : (isD name l == 0) = false := by simpa using hbad
  clear hr hbad
  unfold callV
  go_enter Tryz.func29, Tryz.ntmps29
  go_wp2_with fail
  have hR1 : Rd ((w.alloc (.cells #[.int .i64 kind, .string name, .int .i64 level, .int .i64 handle, .slice a l.length cp] 30)).alloc (.cells #[.int .i64 0, .int .i64 0, .slice none 0 0] 27)) (.slice a l.length cp) (l.map B) := HR.out.upd (S := []) (by (with_reducible (repeat (first | exact Upd.refl _ _ | refine Upd.alloc ?_ _ | refine Upd.drew ?_ | refine Upd.drewN ?_ _ | refine Upd.setCell ?_ (by first | (left; simp; done) | (right; simp; done) | (right; simp; omega)) _)))) (fun _ _ => by simp)
  refine (is_any name _ l _ hR1 HD.out hl hn).mono ?_
  rintro e w' ⟨rfl, rfl⟩
  clear hR1
  go_wp2
  exact bodyPost_ret (v := ansV (isD name l) 0 (.slice none 0 0)) (by simp [results, Tryz.results29, go_sem, ansV]) rfl ⟨rfl, by (with_reducible (repeat (first | exact Upd.refl _ _ | refine Upd.alloc ?_ _ | refine Upd.drew ?_ | refine Upd.drewN ?_ _ | refine Upd.setCell ?_ (by first | (left; simp; done) | (right; simp; done) | (right; simp; omega)) _)))⟩
end Go.Proofs.YtmcnjikafppccaaGreat
