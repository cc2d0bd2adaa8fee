/- shelf.Is. -/
import Derived.Test.YtmcnjikafppccaaGreatPlanRet
import Derived.Laws.IdiomStrings
import Derived.Lib.Strings
namespace Go.Proofs.YtmcnjikafppccaaGreat
open Go.RowKit

/-- string(b). -/
theorem conv_str {w : World} {v : Value} {l : List UInt8} (h : Rd w v (l.map B)) : (convert 25 9 v).run Tryz.prog w = .ok (.string ⟨l.toArray⟩) w := by
  rcases h with ⟨rfl, h0⟩ | ⟨ad, c, rfl, hc, hcell⟩
  · have : l = [] := by simpa using h0
    subst this
    rw [run_convert_bytes_string w 25 9 5 none 0 0 Tryz.underlying25 Tryz.underlying5 Tryz.underlying9]
    simp [Conv.bytesToString]
    rfl
  · have e : (l.map B).length = l.length := by simp
    rw [e]
    refine run_convert_bytes_back w 25 9 5 ad c l Tryz.underlying25 Tryz.underlying5 Tryz.underlying9 (fun j hj => ?_)
    exact hcell j _ (by simp [hj, B])
def pfx (l : List UInt8) : Bool := l.take 4 == [77, 68, 73, 67]
set_option maxRecDepth 100000 in
theorem hasPrefix_any (l : List UInt8) (w : World) (hl : l.length ≤ 1000000) :
    Calls Tryz.prog 63 #[.string ⟨l.toArray⟩, .string ⟨#[77, 68, 73, 67]⟩] w fun e w' => e = .returned (.bool (pfx l)) ∧ w = w' := by
  by_cases h4 : 4 ≤ l.length
  · go_enter Tryz.func63, Tryz.ntmps63
    go_wp2
    go_ret
    refine ⟨?_, rfl⟩
    have e : (({ data := l.toArray } : ByteArray).extract 0 4).toList = l.take 4 := by rw [ByteArray.toList_eq, Lib.extract_data]; simp
    show Ending.returned (Value.bool ((({ data := l.toArray } : ByteArray).extract 0 4).toList == [77, 68, 73, 67])) = _
    rw [e]
    rfl
  · have hp : pfx l = false := by
      unfold pfx
      rw [beq_eq_false_iff_ne]
      intro e
      have := congrArg List.length e
      simp at this
      omega
    rw [hp]
    clear hp
    go_enter Tryz.func63, Tryz.ntmps63
    go_wp2
    go_ret
    exact ⟨rfl, rfl⟩
/-- May there be such a dictionary? -/
def isD (name : ByteArray) (data : List UInt8) : Int := if name.size < 1 ∨ 12 < name.size then 1 else if pfx data = false ∨ data.length < 5 ∨ 2004 < data.length then 4 else 0

set_option maxRecDepth 100000 in
theorem is_any (name : ByteArray) (dv : Value) (l : List UInt8) (w : World) (h : Rd w dv (l.map B)) (hd : ∃ a c, dv = .slice a l.length c) (hl : l.length ≤ 1000000) (hn : name.size ≤ 1000000) :
    Calls Tryz.prog 48 #[.string name, dv] w fun e w' => e = .returned (.int .i64 (isD name l)) ∧ w = w' := by
  obtain ⟨a, c, rfl⟩ := hd
  have hcv := conv_str h
  clear h
  by_cases h0 : name.size < 1
  · have e : name = ⟨#[]⟩ := by
      have : name.data.size = 0 := by show name.size = 0; omega
      exact ByteArray.ext (Array.eq_empty_of_size_eq_zero this)
    subst e
    have hi : isD ⟨#[]⟩ l = 1 := by unfold isD; rw [if_pos (.inl h0)]
    rw [hi]
    clear hi h0
    go_enter Tryz.func48, Tryz.ntmps48
    go_wp2
    go_ret
    exact ⟨rfl, rfl⟩
  · have hne : name.toList ≠ [] := by
      rw [ByteArray.toList_eq]
      intro e
      have h2 : name.data.size = 0 := by rw [← Array.length_toList, e]; rfl
      have h3 : name.size = 0 := h2
      omega
    by_cases h12 : 12 < name.size
    · have hi : isD name l = 1 := by unfold isD; rw [if_pos (.inr h12)]
      rw [hi]
      have hcv' := Lib.hid hcv
      clear hcv hi
      go_enter Tryz.func48, Tryz.ntmps48
      go_wp2
      go_ret
      exact ⟨rfl, rfl⟩
    · have hle : ¬ (name.size < 1 ∨ 12 < name.size) := by omega
      have hie : name.toList.isEmpty = false := by simpa using hne
      cases hp : pfx l with
      | false =>
        have hi : isD name l = 4 := by unfold isD; rw [if_neg hle, if_pos (.inl hp)]
        rw [hi]
        have HP := Lib.hid hp
        clear hi hp hle
        go_enter Tryz.func48, Tryz.ntmps48
        go_wp2_with (go_at_call 63; refine (hasPrefix_any l _ hl).mono ?_; rintro e w' ⟨he, rfl⟩; rw [HP.out] at he; subst he)
        go_ret
        exact ⟨rfl, rfl⟩
      | true =>
        have HP := Lib.hid hp
        by_cases h5 : l.length < 5
        · have hi : isD name l = 4 := by unfold isD; rw [if_neg hle, if_pos (.inr (.inl h5))]
          rw [hi]
          clear hi hp hle
          go_enter Tryz.func48, Tryz.ntmps48
          go_wp2_with (go_at_call 63; refine (hasPrefix_any l _ hl).mono ?_; rintro e w' ⟨he, rfl⟩; rw [HP.out] at he; subst he)
          go_ret
          exact ⟨rfl, rfl⟩
        · by_cases h2004 : 2004 < l.length
          · have hi : isD name l = 4 := by unfold isD; rw [if_neg hle, if_pos (.inr (.inr h2004))]
            rw [hi]
            clear hi hp hle
            go_enter Tryz.func48, Tryz.ntmps48
            go_wp2_with (go_at_call 63; refine (hasPrefix_any l _ hl).mono ?_; rintro e w' ⟨he, rfl⟩; rw [HP.out] at he; subst he)
            go_ret
            exact ⟨rfl, rfl⟩
          · have hi : isD name l = 0 := by unfold isD; rw [if_neg hle, if_neg (by rw [hp]; simp; omega)]
            rw [hi]
            clear hi hp hle
            go_enter Tryz.func48, Tryz.ntmps48
            go_wp2_with (go_at_call 63; refine (hasPrefix_any l _ hl).mono ?_; rintro e w' ⟨he, rfl⟩; rw [HP.out] at he; subst he)
            go_ret
            exact ⟨rfl, rfl⟩
end Go.Proofs.YtmcnjikafppccaaGreat
