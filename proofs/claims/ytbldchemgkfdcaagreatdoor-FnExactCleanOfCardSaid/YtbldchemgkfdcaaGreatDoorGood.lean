/- impl.val.good, valOf, value, told, GoodValue. -/
import Derived.Test.YtbldchemgkfdcaaGreatDoorWrite
import Derived.Test.YtbldchemgkfdcaaGreatDoorValFrom
import Derived.Test.YtbldchemgkfdcaaGreatDoorNodes
namespace Go.Proofs.YtbldchemgkfdcaaGreatDoor
open Go.RowKit

theorem good_nil_c (w : World) : Calls Tryz.prog 74 #[.pointer none] w fun e w' => e = .returned (.bool false) ∧ w = w' := by
  go_enter Tryz.func74, Tryz.ntmps74
  go_wp2
  go_ret
  exact ⟨rfl, rfl⟩

set_option maxRecDepth 100000 in
set_option maxHeartbeats 2000000 in
theorem good_c (t : T) (v : Value) (w : World) (S : Nat → Prop) (B : Nat) (hwn : t.wn) (hsd : t.sized) (hl : t.cnt ≤ 1099511627776) (hv : IsVal w S t v) (hS : ∀ b, S b → b < w.heap.size) (hB : B ≤ w.heap.size) (ht : Tb B w) :
    Calls Tryz.prog 74 #[v] w fun e w' => e = .returned (.bool t.good) ∧ Below w.heap.size w w' := by
  have HBd := Lib.hid (bounded_c _ t v w S (Nat.le_refl _) hl hsd hv)
  have HCn := Lib.hid (count_c _ t v w S (Nat.le_refl _) hl hv)
  have HDp := Lib.hid (deep_c _ t v w S (Nat.le_refl _) hl hv)
  have HSt : Hid (t.bounded = true → t.cnt ≤ 80 → Calls Tryz.prog 99 #[v] w fun e w' => e = .returned (.string ⟨t.txt.toArray⟩) ∧ Below w.heap.size w w') := fun hb hc => string_c t v w S B hwn hb (by omega) hv hS hB ht
  have HG : Hid (t.good = (t.bounded && decide ((t.cnt : Int) ≤ 80) && decide (t.deep ≤ 6) && decide ((t.txt.length : Int) ≤ 300))) := by
    simp only [Hid, T.good]
    rw [show decide (t.cnt ≤ 80) = decide ((t.cnt : Int) ≤ 80) by simp; omega, show decide (t.txt.length ≤ 300) = decide ((t.txt.length : Int) ≤ 300) by simp; omega]
  have hsd' := hsd
  obtain ⟨kind, num, text, names, kids⟩ := t
  obtain ⟨hts, _⟩ := hsd'
  have HBE : Hid ((T.mk kind num text names kids).bounded = (within num (-1000000000) 1000000000 && okStr text && names.all okStr && T.boundeds kids)) := by rw [T.bounded]; rfl
  obtain ⟨b, sn, sk, vs, rfl, hSb, hblk, hnames, hrow, hkids⟩ := hv
  obtain ⟨c0, c1, c2, c3, c4⟩ := val_cells' hblk
  have hBw := Lib.hid (Below.refl w.heap.size w)
  clear hblk hnames hrow hkids hS ht hwn hsd c3 c4
  generalize hT : T.mk kind num text names kids = t at *
  have HTe := Lib.hid hT; clear hT
  cases hb : t.bounded
  · cases h1 : within num (-1000000000) 1000000000 <;> cases h2 : okStr text <;> cases h4 : kind == 4 <;> cases h5 : kind == 5 <;>
    · rw [hb] at HG HBd
      go_enter Tryz.func74, Tryz.ntmps74
      go_wp2_with (first
        | (go_at_call 38; refine (within_c _ _ _ _).mono ?_; rintro e w' ⟨rfl, rfl⟩)
        | (go_at_call 95; refine (stringOK_c _ _ hts).mono ?_; rintro e w' ⟨rfl, rfl⟩)
        | (go_at_call 96; refine HBd.out.mono ?_; rintro e w' ⟨rfl, rfl⟩))
      go_ret
      exact ⟨by rw [HG.out]; rfl, hBw.out⟩
  · have hx := HBE.out
    rw [hb] at hx
    have hx' := hx.symm
    simp only [Bool.and_eq_true] at hx'
    obtain ⟨⟨⟨h1, h2⟩, _⟩, _⟩ := hx'
    have HSt' := Lib.hid (HSt.out hb)
    clear hx HSt HBE
    rw [hb] at HG HBd
    cases h4 : kind == 4 <;> cases h5 : kind == 5 <;> cases hc : decide ((t.cnt : Int) ≤ 80) <;> cases hd : decide (t.deep ≤ 6) <;> rw [hc, hd] at HG <;>
    · go_enter Tryz.func74, Tryz.ntmps74
      go_wp2_with (first
        | (go_at_call 38; refine (within_c _ _ _ _).mono ?_; rintro e w' ⟨rfl, rfl⟩)
        | (go_at_call 95; refine (stringOK_c _ _ hts).mono ?_; rintro e w' ⟨rfl, rfl⟩)
        | (go_at_call 96; refine HBd.out.mono ?_; rintro e w' ⟨rfl, rfl⟩)
        | (go_at_call 97; refine HCn.out.mono ?_; rintro e w' ⟨rfl, rfl⟩)
        | (go_at_call 98; refine HDp.out.mono ?_; rintro e w' ⟨rfl, rfl⟩)
        | (go_at_call 99; refine (HSt'.out (by have := of_decide_eq_true hc; omega)).mono ?_; rintro e w1 ⟨rfl, hI⟩))
      go_ret
      first
        | exact ⟨by rw [HG.out]; rfl, hBw.out⟩
        | exact ⟨by rw [HG.out]; rfl, hI⟩
end Go.Proofs.YtbldchemgkfdcaaGreatDoor
