/- impl.nodeOK. -/
import Derived.Test.YtbldchemgkfdcaaGreatDoorVal
import Derived.Deep.DeepCutAuto
namespace Go.Proofs.YtbldchemgkfdcaaGreatDoor
open Go.RowKit

set_option maxRecDepth 100000 in
set_option maxHeartbeats 1000000 in
theorem nodeOK_c (x : N) (up : Int) (w : World) (ht : x.text.size ≤ 1099511627776) (hn : x.name.size ≤ 1099511627776) :
    Calls Tryz.prog 68 #[.agg #[.int .i64 x.kind, .int .i64 x.num, .string x.text, .string x.name, .int .i64 x.up], .int .i64 up] w fun e w' => e = .returned (.bool (nodeOKB x up)) ∧ Below w.heap.size w w' := by
  obtain ⟨kind, num, text, name, xup⟩ := x
  dsimp only at ht hn
  go_enter Tryz.func68, Tryz.ntmps68
  go_upto_region 1 with fail
  go_cut [28] (fun s28 wx => s28 = .bool (!within kind 1 7 || (kind != 4 && num != 0) || (kind != 5 && !isEmp text)) ∧ wx = w.alloc (.cells #[.int .i64 kind, .int .i64 num, .string text, .string name, .int .i64 xup] 63))
  case first =>
    cases h1 : within kind 1 7 <;> cases h2 : (kind != 4) <;> cases h3 : (num != 0) <;> cases h4 : (kind != 5) <;>
    · go_wp2_with (first
        | (go_at_call 38; refine (within_c _ _ _ _).mono ?_; rintro e w' ⟨rfl, rfl⟩))
      go_meet
      exact ⟨by rw [h1, h2, h3, h4]; simp [isEmp], rfl⟩
  case rest =>
    obtain ⟨rfl, rfl⟩ := hcut
    have HX : Hid (nodeOKB ⟨kind, num, text, name, xup⟩ up = (!(!within kind 1 7 || (kind != 4 && num != 0) || (kind != 5 && !isEmp text)) && (if up = 7 then okStr name else isEmp name) && (okNum num && okStr text))) := by
      simp only [Hid, nodeOKB]
      cases within kind 1 7 <;> cases (kind != 4) <;> cases (num != 0) <;> cases (kind != 5) <;> cases isEmp text <;> rfl
    cases hx : (!within kind 1 7 || (kind != 4 && num != 0) || (kind != 5 && !isEmp text))
    · rw [hx] at HX
      clear hx
      have hw : okNum num = within num (-1000000000) 1000000000 := rfl
      rw [hw] at HX; clear hw
      have HB := Lib.hid ((Below.refl w.heap.size w).alloc (Nat.le_refl _) (.cells #[.int .i64 kind, .int .i64 num, .string text, .string name, .int .i64 xup] 63))
      cases h1 : within num (-1000000000) 1000000000 <;> cases h2 : okStr text <;> rw [h1, h2] at HX <;>
      · by_cases h7 : up = 7
        · subst h7
          cases h3 : okStr name <;> rw [h3] at HX <;>
          · go_wp2_with (first
              | (go_at_call 38; refine (within_c _ _ _ _).mono ?_; rintro e w' ⟨rfl, rfl⟩)
              | (go_at_call_of 95 (Value.string text); refine (stringOK_c _ _ ht).mono ?_; rintro e w' ⟨rfl, rfl⟩)
              | (go_at_call_of 95 (Value.string name); refine (stringOK_c _ _ hn).mono ?_; rintro e w' ⟨rfl, rfl⟩))
            go_ret
            exact ⟨by rw [HX.out]; rfl, HB.out⟩
        · have h7' : (up == 7) = false := by simpa using h7
          rw [if_neg h7] at HX
          cases h3 : isEmp name <;> rw [h3] at HX <;>
          · have h3' := h3
            unfold isEmp at h3'
            go_wp2_with (first
              | (go_at_call 38; refine (within_c _ _ _ _).mono ?_; rintro e w' ⟨rfl, rfl⟩)
              | (go_at_call_of 95 (Value.string text); refine (stringOK_c _ _ ht).mono ?_; rintro e w' ⟨rfl, rfl⟩))
            go_ret
            exact ⟨by rw [HX.out]; rfl, HB.out⟩
    · rw [hx] at HX
      clear hx
      go_wp2_with fail
      go_ret
      exact ⟨by rw [HX.out]; rfl, (Below.refl w.heap.size w).alloc (Nat.le_refl _) _⟩
end Go.Proofs.YtbldchemgkfdcaaGreatDoor
