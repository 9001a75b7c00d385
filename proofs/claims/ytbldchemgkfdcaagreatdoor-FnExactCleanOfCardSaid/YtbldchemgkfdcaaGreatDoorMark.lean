/- laws: markText, markNodeS, markValue, heldNodeS, heldValue. -/
import Derived.Test.YtbldchemgkfdcaaGreatDoorValue
import Derived.Test.YtbldchemgkfdcaaGreatDoorSpecA
import Derived.Deep.OwnRows
namespace Go.Proofs.YtbldchemgkfdcaaGreatDoor
open Go.RowKit

/-- the digits of a number above 0 -/
def mdig (n : Nat) : List UInt8 := if _h : n = 0 then [] else mdig (n / 10) ++ [UInt8.ofNat (48 + n % 10)]
decreasing_by omega
theorem mdig_pos {n : Nat} (h : 0 < n) : mdig n = mdig (n / 10) ++ [UInt8.ofNat (48 + n % 10)] := by rw [mdig, dif_neg (by omega)]
theorem mdig_zero : mdig 0 = [] := by rw [mdig]; rfl
theorem mdig_len (n : Nat) : (mdig n).length ≤ n := by
  induction n using Nat.strongRecOn with
  | ind n ih =>
    by_cases h : n = 0
    · subst h; rw [mdig_zero]; simp
    · rw [mdig_pos (by omega)]
      have := ih (n / 10) (by omega)
      simp; omega
/-- laws.markText -/
def markT (k : Nat) : ByteArray := ⟨⟨109 :: mdig k⟩⟩

set_option maxRecDepth 100000 in
set_option maxHeartbeats 400000 in
theorem markText_c (k0 : Nat) (w : World) (h0 : 0 < k0) (h1 : k0 ≤ 1099511627776) :
    Calls Tryz.prog 49 #[.int .i64 k0] w fun e w' => e = .returned (.string (markT k0)) ∧ Below w.heap.size w w' := by
  have hle : ((k0 : Int) ≤ 0) = False := by simp; omega
  have hled : decide ((k0 : Int) ≤ 0) = false := by simp; omega
  go_enter Tryz.func49, Tryz.ntmps49
  go_wp2
  go_loopg [0, 3] k0 (fun gh k out wr => ∃ (j : Nat) (s : ByteArray), gh = j ∧ k = .int .i64 j ∧ out = .string s ∧ j ≤ k0 ∧ s.size ≤ k0 ∧ Hid (mdig j ++ s.data.toList = mdig k0) ∧ Hid (Below w.heap.size w wr))
  case atStart => exact ⟨k0, ⟨#[]⟩, rfl, rfl, rfl, Nat.le_refl _, Nat.zero_le _, by simp [Hid], Below.refl _ _⟩
  case round =>
    obtain ⟨j, s, rfl, rfl, rfl, hj, hs, HM, HBr⟩ := hrel
    by_cases hlt : 0 < gk
    · obtain ⟨q, hq⟩ : ∃ q : Nat, q = gk / 10 := ⟨_, rfl⟩
      obtain ⟨d, hd⟩ : ∃ q : Nat, q = gk % 10 := ⟨_, rfl⟩
      obtain ⟨b, hb⟩ : ∃ b : UInt8, b = UInt8.ofNat (48 + d) := ⟨_, rfl⟩
      have hd10 : d < 10 := by omega
      have hz : (48 + (d : Int)) = (b.toNat : Int) := by rw [hb]; exact dig d hd10
      obtain ⟨bs, hbs⟩ : ∃ bs : ByteArray, bs = ⟨⟨[b]⟩⟩ := ⟨_, rfl⟩
      have hl1 : bs.size = 1 := by rw [hbs]; rfl
      have hcv := fun w => conv_new b _ hz w
      have HD : Hid (mdig gk = mdig q ++ [b]) := by unfold Hid; rw [mdig_pos hlt, hb, hd, hq]
      have HL : Hid (s.size + (mdig q).length + 1 ≤ k0) := by
        have e1 := congrArg List.length HM.out
        rw [HD.out, List.length_append, List.length_append] at e1
        have e2 : s.data.toList.length = s.size := rfl
        have := mdig_len k0
        simp only [List.length_cons, List.length_nil] at e1
        unfold Hid; omega
      have hqj : q < gk := by omega
      have hsb : s.size < k0 := by have := HL.out; omega
      have hw1 : IntKind.i64.wrap ((gk : Int) / 10) = (q : Int) := by rw [show (gk : Int) / 10 = (q : Int) by omega, IntKind.wrap_i64]; omega
      have hw3 : IntKind.i64.wrap (48 + (d : Int)) = 48 + (d : Int) := by rw [IntKind.wrap_i64]; omega
      have hw4 : IntKind.u8.wrap (48 + (d : Int)) = 48 + (d : Int) := by rw [IntKind.wrap_u8]; omega
      have hw2 : (gk : Int) % 10 = (d : Int) := by omega
      rw [← hbs] at hcv
      have HBs := Lib.hid hbs
      clear hb hq hd hz hbs
      go_wp2
      go_roundg q
      case measure => omega
      case rel => exact ⟨q, bs ++ s, rfl, by simp, rfl, by omega, by rw [ByteArray.size_append]; omega, by unfold Hid; rw [← HM.out, HD.out, HBs.out]; simp, HBr.out.alloc HBr.out.size _⟩
    · obtain rfl : gk = 0 := by omega
      have HS : Hid (markT k0 = ⟨⟨[109]⟩⟩ ++ s) := by
        unfold Hid markT
        have := HM.out
        rw [mdig_zero, List.nil_append] at this
        rw [← this]; rfl
      go_wp2
      go_ret
      exact ⟨by rw [HS.out]; rfl, HBr.out⟩

theorem markText_z (z : Int) (k0 : Nat) (hz : z = (k0 : Int)) (w : World) (h0 : 0 < k0) (h1 : k0 ≤ 1099511627776) :
    Calls Tryz.prog 49 #[.int .i64 z] w fun e w' => e = .returned (.string (markT k0)) ∧ Below w.heap.size w w' := by
  subst hz; exact markText_c k0 w h0 h1

/-- cell i of nodes that are marked from kk on -/
def mCell (kk i : Nat) : Value := if i % 5 = 2 ∨ i % 5 = 3 then .string (markT (kk + i)) else .int .i64 ((kk + i : Nat) : Int)
theorem mCell_step (kk k : Nat) (f : Nat → Value) (i : Nat) : (if i = k * 5 + 4 then Value.int .i64 (((kk + k * 5 : Nat) : Int) + 1 + 1 + 1 + 1) else if i = k * 5 + 3 then .string (markT (kk + k * 5 + 3)) else if i = k * 5 + 2 then .string (markT (kk + k * 5 + 2)) else if i = k * 5 + 1 then .int .i64 ((kk + k * 5 : Nat) + 1 : Int) else if i = k * 5 then .int .i64 ((kk + k * 5 : Nat) : Int) else (if i < k * 5 then mCell kk i else f i)) = if i < (k + 1) * 5 then mCell kk i else f i := by
  by_cases h4 : i = k * 5 + 4
  · subst h4; simp [mCell, show k * 5 + 4 < (k + 1) * 5 by omega]; omega
  rw [if_neg h4]
  by_cases h3 : i = k * 5 + 3
  · subst h3; simp [mCell, show k * 5 + 3 < (k + 1) * 5 by omega, show (k * 5 + 3) % 5 = 3 by omega, Nat.add_assoc]
  rw [if_neg h3]
  by_cases h2 : i = k * 5 + 2
  · subst h2; simp [mCell, show k * 5 + 2 < (k + 1) * 5 by omega, show (k * 5 + 2) % 5 = 2 by omega, Nat.add_assoc]
  rw [if_neg h2]
  by_cases h1 : i = k * 5 + 1
  · subst h1; simp [mCell, show k * 5 + 1 < (k + 1) * 5 by omega]; omega
  rw [if_neg h1]
  by_cases h0 : i = k * 5
  · subst h0; simp [mCell, show k * 5 < (k + 1) * 5 by omega]
  rw [if_neg h0]
  by_cases h : i < k * 5
  · rw [if_pos h, if_pos (by omega)]
  · rw [if_neg h, if_neg (by omega)]

theorem grown_setCell {w0 w : World} {g i : Nat} {v : Value} (h : w0.grownBy w (some g)) : w0.grownBy (w.setCell ⟨g, i, none⟩ v) (some g) :=
  ⟨h.os, h.tape, h.output, by simpa using h.size, fun k hk hn => (heap_setCell_other w _ k v (fun e => hn (by rw [e]))).trans (h.block k hk hn)⟩
theorem grown_below {w0 w w1 : World} {g : Nat} (h : w0.grownBy w (some g)) (hb : Below w.heap.size w w1) : w0.grownBy w1 (some g) :=
  ⟨hb.os.trans h.os, hb.tape.trans h.tape, hb.output.trans h.output, Nat.le_trans h.size hb.size, fun k hk hn => (hb.block k (Nat.lt_of_lt_of_le hk h.size)).trans (h.block k hk hn)⟩

set_option maxRecDepth 100000 in
set_option maxHeartbeats 2000000 in
theorem markNodeS_c (g n c kk m : Nat) (f : Nat → Value) (w : World) (h0 : 0 < kk) (h1 : kk + n * 5 ≤ 1099511627776) (hnm : n * 5 ≤ m) (hR : w.rowIs g 63 m f) :
    Calls Tryz.prog 42 #[.slice (some ⟨g, 0, none⟩) n c, .int .i64 kk] w fun e w' => e = .returned (.int .i64 ((kk + n * 5 : Nat) : Int)) ∧ w'.rowIs g 63 m (fun i => if i < n * 5 then mCell kk i else f i) ∧ w.grownBy w' (some g) := by
  have HR := Lib.hid hR
  have hgw := hR.lt
  clear hR
  go_enter Tryz.func42, Tryz.ntmps42
  go_wp2
  go_loopg [1, 5] n (fun gh kv i wr => ∃ (k K : Nat), k ≤ n ∧ gh = n - k ∧ i = .int .i64 k ∧ kv = .int .i64 K ∧ K ≤ 1099511627776 ∧ Hid (K = kk + k * 5) ∧ Hid (wr.rowIs g 63 m (fun i => if i < k * 5 then mCell kk i else f i)) ∧ Hid (w.grownBy wr (some g)))
  case atStart => exact ⟨0, kk, Nat.zero_le _, rfl, rfl, rfl, by omega, by simp [Hid], by simpa [Hid] using HR.out, ⟨rfl, rfl, rfl, Nat.le_refl _, fun _ _ _ => rfl⟩⟩
  case round =>
    obtain ⟨k, K, hk, rfl, rfl, rfl, hKb, HK, HRw, HG⟩ := hrel
    have hsr := HG.out.size
    by_cases hlt : k < n
    · have hK5 : K + 5 ≤ 1099511627776 := by have := HK.out; omega
      have hK0 : 0 < K := by have := HK.out; omega
      obtain ⟨u0, q0⟩ : ∃ u, wr.cell? ⟨g, k * 5, none⟩ = some u := ⟨_, HRw.out.cell (by omega)⟩
      obtain ⟨u1, q1⟩ : ∃ u, wr.cell? ⟨g, k * 5 + 1, none⟩ = some u := ⟨_, HRw.out.cell (by omega)⟩
      have f0 := HRw.out.frozen (k * 5)
      have f1 := HRw.out.frozen (k * 5 + 1)
      go_wp2_with fail
      refine (markText_z _ (K + 2) (by omega) _ (by omega) (by omega)).mono ?_
      rintro e w1 ⟨rfl, hB⟩
      have HR1 := Lib.hid (((HRw.out.set (k * 5) (.int .i64 K)).set (k * 5 + 1) (.int .i64 ((K : Int) + 1))).of_block (hB.block g (by simp; omega)))
      have HG1 := Lib.hid (grown_below (grown_setCell (grown_setCell HG.out)) hB)
      obtain ⟨u2, q2⟩ : ∃ u, w1.cell? ⟨g, k * 5 + 2, none⟩ = some u := ⟨_, HR1.out.cell (by omega)⟩
      have f2 := HR1.out.frozen (k * 5 + 2)
      have hs1 := HG1.out.size
      clear hB
      go_wp2_with fail
      refine (markText_z _ (K + 3) (by omega) _ (by omega) (by omega)).mono ?_
      rintro e w2 ⟨rfl, hB⟩
      have HR2 := Lib.hid ((HR1.out.set (k * 5 + 2) (.string (markT (K + 2)))).of_block (hB.block g (by simp; omega)))
      have HG2 := Lib.hid (grown_below (grown_setCell HG1.out) hB)
      obtain ⟨u3, q3⟩ : ∃ u, w2.cell? ⟨g, k * 5 + 3, none⟩ = some u := ⟨_, HR2.out.cell (by omega)⟩
      obtain ⟨u4, q4⟩ : ∃ u, w2.cell? ⟨g, k * 5 + 4, none⟩ = some u := ⟨_, HR2.out.cell (by omega)⟩
      have f3 := HR2.out.frozen (k * 5 + 3)
      have f4 := HR2.out.frozen (k * 5 + 4)
      clear hB
      go_wp2
      go_roundg (n - (k + 1))
      case measure => omega
      case rel => exact ⟨k + 1, K + 5, hlt, rfl, by go_num, by simp; omega, hK5, by have := HK.out; unfold Hid; omega, ((HR2.out.set (k * 5 + 3) (.string (markT (K + 3)))).set (k * 5 + 4) (.int .i64 ((K : Int) + 1 + 1 + 1 + 1))).congr (fun i _ => by rw [HK.out]; exact mCell_step kk k f i), grown_setCell (grown_setCell HG2.out)⟩
    · obtain rfl : k = n := by omega
      go_wp2
      go_ret
      exact ⟨by rw [HK.out]; rfl, HRw.out, HG.out⟩

set_option maxRecDepth 100000 in
set_option maxHeartbeats 2000000 in
theorem heldNodeS_c (g n c kk : Nat) (w : World) (h0 : 0 < kk) (h1 : kk + n * 5 ≤ 1099511627776) (hgw : g < w.heap.size) (hR : ∀ i, i < n * 5 → w.cell? ⟨g, i, none⟩ = some (mCell kk i)) :
    Calls Tryz.prog 43 #[.slice (some ⟨g, 0, none⟩) n c, .int .i64 kk] w fun e w' => e = .returned (.int .i64 ((kk + n * 5 : Nat) : Int)) ∧ Below w.heap.size w w' := by
  have HR := Lib.hid hR
  clear hR
  go_enter Tryz.func43, Tryz.ntmps43
  go_wp2
  go_loopg [1, 5] n (fun gh kv i wr => ∃ (k K : Nat), k ≤ n ∧ gh = n - k ∧ i = .int .i64 k ∧ kv = .int .i64 K ∧ K ≤ 1099511627776 ∧ Hid (K = kk + k * 5) ∧ Hid (Below w.heap.size w wr))
  case atStart => exact ⟨0, kk, Nat.zero_le _, rfl, rfl, rfl, by omega, by simp [Hid], Below.refl _ _⟩
  case round =>
    obtain ⟨k, K, hk, rfl, rfl, rfl, hKb, HK, HBr⟩ := hrel
    have hsr := HBr.out.size
    by_cases hlt : k < n
    · have hK5 : K + 5 ≤ 1099511627776 := by have := HK.out; omega
      have hK0 : 0 < K := by have := HK.out; omega
      have hlti : (k : Int) < (n : Int) := by omega
      have hk0 : (0 : Int) ≤ (k : Int) := by omega
      have m0 : mCell kk (k * 5) = .int .i64 K := by have e := HK.out; unfold mCell; rw [if_neg (by omega), e]
      have m1 : mCell kk (k * 5 + 1) = .int .i64 ((K : Int) + 1) := by have e := HK.out; unfold mCell; rw [if_neg (by omega), e]; simp; omega
      have m2 : mCell kk (k * 5 + 2) = .string (markT (K + 2)) := by have e := HK.out; unfold mCell; rw [if_pos (by omega), e, Nat.add_assoc]
      have m3 : mCell kk (k * 5 + 3) = .string (markT (K + 3)) := by have e := HK.out; unfold mCell; rw [if_pos (by omega), e, Nat.add_assoc]
      have m4 : mCell kk (k * 5 + 4) = .int .i64 ((K : Int) + 1 + 1 + 1 + 1) := by have e := HK.out; unfold mCell; rw [if_neg (by omega), e]; simp; omega
      have y0 := (HBr.out.cell (p := ⟨g, k * 5, none⟩) hgw).trans ((HR.out (k * 5) (by omega)).trans (congrArg some m0))
      have y1 := (HBr.out.cell (p := ⟨g, k * 5 + 1, none⟩) hgw).trans ((HR.out (k * 5 + 1) (by omega)).trans (congrArg some m1))
      have y2 := (HBr.out.cell (p := ⟨g, k * 5 + 2, none⟩) hgw).trans ((HR.out (k * 5 + 2) (by omega)).trans (congrArg some m2))
      have y3 := (HBr.out.cell (p := ⟨g, k * 5 + 3, none⟩) hgw).trans ((HR.out (k * 5 + 3) (by omega)).trans (congrArg some m3))
      have y4 := (HBr.out.cell (p := ⟨g, k * 5 + 4, none⟩) hgw).trans ((HR.out (k * 5 + 4) (by omega)).trans (congrArg some m4))
      clear m0 m1 m2 m3 m4
      have hgr : g < wr.heap.size := by omega
      go_wp2_with fail
      go_region_held3 (fun w' => w'.cell? ⟨g, k * 5 + 2, none⟩ = some (.string (markT (K + 2)))) (first | go_keep | exact (hB1.cell (p := ⟨g, k * 5 + 2, none⟩) hgr).trans y2) ((go_at_call 49; refine (markText_z _ (K + 2) (by omega) _ (by omega) (by omega)).mono ?_; rintro e w1 ⟨rfl, hB1⟩))
      have z3 := (hB1.cell (p := ⟨g, k * 5 + 3, none⟩) hgr).trans y3
      have z4 := (hB1.cell (p := ⟨g, k * 5 + 4, none⟩) hgr).trans y4
      have HB1 := Lib.hid ((HBr.out.drew).trans (hB1.mono (show w.heap.size ≤ wr.drew.heap.size from hsr)))
      have hg1 : g < w1.heap.size := by have := hB1.size; simp at this; omega
      have hs1 := HB1.out.size
      clear hB1 y0 y1 y2 y3 y4
      go_wp2_with fail
      go_region_held3 (fun w' => w'.cell? ⟨g, k * 5 + 3, none⟩ = some (.string (markT (K + 3)))) (first | go_keep | exact (hB2.cell (p := ⟨g, k * 5 + 3, none⟩) hg1).trans z3) ((go_at_call 49; refine (markText_z _ (K + 3) (by omega) _ (by omega) (by omega)).mono ?_; rintro e w2 ⟨rfl, hB2⟩))
      have v4 := (hB2.cell (p := ⟨g, k * 5 + 4, none⟩) hg1).trans z4
      have HB2 := Lib.hid ((HB1.out.drew).trans (hB2.mono (show w.heap.size ≤ w1.drew.heap.size from hs1)))
      clear hB2 z3 z4
      go_wp2
      go_roundg (n - (k + 1))
      case measure => omega
      case rel => exact ⟨k + 1, K + 5, hlt, rfl, by go_num, by simp; omega, hK5, by have := HK.out; unfold Hid; omega, HB2⟩
    · obtain rfl : k = n := by omega
      go_wp2
      go_ret
      exact ⟨by rw [HK.out]; rfl, HBr.out⟩
end Go.Proofs.YtbldchemgkfdcaaGreatDoor
