/- impl.val.told. -/
import Derived.Test.YtbldchemgkfdcaaGreatDoorValue
namespace Go.Proofs.YtbldchemgkfdcaaGreatDoor
open Go.RowKit

set_option maxRecDepth 100000 in
set_option maxHeartbeats 1000000 in
theorem told_c (t : T) (v : Value) (w : World) (S : Nat → Prop) (B : Nat) (hwn : t.wn) (hsd : t.sized) (hl : t.cnt ≤ 1099511627) (hv : IsVal w S t v) (hS : ∀ b, S b → b < w.heap.size) (hB : B ≤ w.heap.size) (ht : Tb B w) :
    Calls Tryz.prog 52 #[v] w (ToldPost w (if t.good then some t else none)) := by
  have HB0 := Lib.hid ((Below.refl w.heap.size w).alloc (Nat.le_refl _) (.cells #[.slice none 0 0] 28))
  have HBk := Lib.hid (blk_new w (.cells #[.slice none 0 0] 28))
  have HG := Lib.hid (good_c t v (w.alloc (.cells #[.slice none 0 0] 28)) S B hwn hsd (by omega) (hv.frame (fun b _ hlt => blk_old w _ hlt) (by simp)) (fun b hb => by have := hS b hb; simp; omega) (by simp; omega) (ht.on (HB0.out.mono hB)))
  obtain ⟨bv, rfl, _⟩ := hv.ptr
  have HV := Lib.hid hv; have HS := Lib.hid hS; have HW := Lib.hid hwn
  clear hv hS hwn hsd ht
  cases hg : t.good
  · rw [hg] at HG
    go_enter Tryz.func52, Tryz.ntmps52
    go_wp2_with fail
    refine HG.out.mono ?_
    rintro e w1 ⟨rfl, hI⟩
    have k0 : w1.cell? ⟨w.heap.size, 0, none⟩ = some (.slice none 0 0) := (hI.cell (p := ⟨w.heap.size, 0, none⟩) (by simp)).trans (cell_blk HBk.out 0)
    have f0 : w1.frozen? ⟨w.heap.size, 0, none⟩ = false := (hI.frozen (p := ⟨w.heap.size, 0, none⟩) (by simp)).trans (fro_blk HBk.out 0)
    have HX := Lib.hid (HB0.out.trans (hI.mono (by simp)))
    clear hI
    go_wp2
    have k2 := World.cell?_setCell_same w1 ⟨w.heap.size, 0, none⟩ (.slice none 0 0) k0
    refine bodyPost_ret (v := .tuple #[.agg #[.slice none 0 0], .bool false]) (by simp [results, Tryz.results52, go_sem, k2]) rfl ?_
    exact ⟨HX.out.setCell (p := ⟨w.heap.size, 0, none⟩) (Nat.le_refl _) _, rfl⟩
  · rw [hg] at HG
    go_enter Tryz.func52, Tryz.ntmps52
    go_wp2_with fail
    refine HG.out.mono ?_
    rintro e w1 ⟨rfl, hI⟩
    have k0 : w1.cell? ⟨w.heap.size, 0, none⟩ = some (.slice none 0 0) := (hI.cell (p := ⟨w.heap.size, 0, none⟩) (by simp)).trans (cell_blk HBk.out 0)
    have f0 : w1.frozen? ⟨w.heap.size, 0, none⟩ = false := (hI.frozen (p := ⟨w.heap.size, 0, none⟩) (by simp)).trans (fro_blk HBk.out 0)
    have HX := Lib.hid (HB0.out.trans (hI.mono (by simp)))
    clear hI
    have hvc := value_c t _ w1 S HW.out (by omega) (HV.out.frame (Below.fr HX.out HS.out) HX.out.size) (fun b hb => by have := HS.out b hb; have := HX.out.size; omega)
    go_wp2_with fail
    refine hvc.mono ?_
    rintro e w2 ⟨sv, rfl, hm, hI⟩
    obtain ⟨s1, s2, rfl⟩ := owns_form hm
    have hlt0 := lt_cell k0
    have k1 : w2.cell? ⟨w.heap.size, 0, none⟩ = some (.slice none 0 0) := (hI.cell (p := ⟨w.heap.size, 0, none⟩) hlt0).trans k0
    have f1 : w2.frozen? ⟨w.heap.size, 0, none⟩ = false := (hI.frozen (p := ⟨w.heap.size, 0, none⟩) hlt0).trans f0
    have HX2 := Lib.hid (HX.out.trans (hI.mono HX.out.size))
    have HM := Lib.hid hm
    clear hI hm hvc k0 f0
    go_wp2
    have k2 := World.cell?_setCell_same w2 ⟨w.heap.size, 0, none⟩ (.slice s1 (t.flat ⟨#[]⟩ (-1) 0).length s2) k1
    refine bodyPost_ret (v := .tuple #[.agg #[.slice s1 (t.flat ⟨#[]⟩ (-1) 0).length s2], .bool true]) (by simp [results, Tryz.results52, go_sem, k2]) rfl ?_
    exact ⟨HX2.out.setCell (p := ⟨w.heap.size, 0, none⟩) (Nat.le_refl _) _, _, rfl, owns_base (ownsRow_setCell_below HM.out hlt0 _) HX.out.size⟩
end Go.Proofs.YtbldchemgkfdcaaGreatDoor
