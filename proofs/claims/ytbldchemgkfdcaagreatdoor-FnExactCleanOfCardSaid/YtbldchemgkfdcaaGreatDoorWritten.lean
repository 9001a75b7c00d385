/- impl.written: a text within its signs. -/
import Derived.Test.YtbldchemgkfdcaaGreatDoorBuilder
import Derived.Test.YtbldchemgkfdcaaGreatDoorRep4
namespace Go.Proofs.YtbldchemgkfdcaaGreatDoor
open Go.RowKit

theorem esc_repl (l : List UInt8) : repl 34 92 [92, 34] [92, 92] l = esc l := by
  unfold repl esc rp
  rfl

set_option maxRecDepth 100000 in
set_option maxHeartbeats 1000000 in
theorem written_c (s : ByteArray) (w : World) (hs : s.size ≤ 1000000) :
    Calls Tryz.prog 122 #[.string s] w fun e w' => e = .returned (.string ⟨(quote s).toArray⟩) ∧ Below w.heap.size w w' := by
  have hq : (quote s) = 34 :: repl 34 92 [92, 34] [92, 92] s.data.toList ++ [34] := by rw [esc_repl]; rfl
  have HQ := Lib.hid hq
  clear hq
  obtain ⟨x, hx⟩ : ∃ x : ByteArray, x = ⟨⟨repl 34 92 [92, 34] [92, 92] s.data.toList⟩⟩ := ⟨_, rfl⟩
  have hxs : x.size ≤ 2000000 := by
    have h1 := repl_len 34 92 92 34 92 92 (by decide) s.data.toList
    have h2 := cn_le 34 92 (by decide) s.data.toList
    have h3 : s.data.toList.length = s.size := rfl
    rw [hx]; show (repl 34 92 [92, 34] [92, 92] s.data.toList).length ≤ _
    omega
  have HRc := Lib.hid (fun (b : Nat) (w1 : World) (hB : w.heap.size + 1 ≤ w1.heap.size) (hR : NewR (w.heap.size + 1) b 34 92 92 34 92 92 w1) => by have := replace_c (w.heap.size + 1) b s 34 92 92 34 92 92 (by decide) w1 hB (by omega) hR; rw [← hx] at this; exact this)
  have HX0 := Lib.hid hx
  clear hx
  have HB0 := Lib.hid ((Below.refl w.heap.size w).alloc (Nat.le_refl _) (.cells #[.string ⟨⟨[34]⟩⟩, .string ⟨⟨[92, 34]⟩⟩, .string ⟨⟨[92]⟩⟩, .string ⟨⟨[92, 92]⟩⟩] 9))
  have HN := Lib.hid (newR_c w.heap.size 4 34 92 92 34 92 92 (w.alloc (.cells #[.string ⟨⟨[34]⟩⟩, .string ⟨⟨[92, 34]⟩⟩, .string ⟨⟨[92]⟩⟩, .string ⟨⟨[92, 92]⟩⟩] 9)) (cell_blk (blk_new w _) 0) (cell_blk (blk_new w _) 1) (cell_blk (blk_new w _) 2) (cell_blk (blk_new w _) 3))
  go_enter Tryz.func122, Tryz.ntmps122
  go_wp2_with (first | (go_at_call 101; refine HN.out.mono ?_; rintro e w1 ⟨b, rfl, hR, hI⟩; have HX := Lib.hid (HB0.out.trans (hI.mono (by simp))); have HR := Lib.hid hR; have HI := Lib.hid hI; clear hR hI) | (go_at_call 102; refine (HRc.out b _ (by have := HI.out.size; simpa using this) (by simpa using HR.out)).mono ?_; rintro e w2 ⟨rfl, hI2⟩))
  go_ret
  refine ⟨?_, HX.out.trans (hI2.mono (by omega))⟩
  rw [HQ.out, HX0.out]
  show Ending.returned (.string _) = _
  congr 2
end Go.Proofs.YtbldchemgkfdcaaGreatDoor
