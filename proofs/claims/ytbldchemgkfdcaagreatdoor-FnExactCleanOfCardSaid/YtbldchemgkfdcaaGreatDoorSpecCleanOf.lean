/- spec.CleanOf. -/
import Derived.Test.YtbldchemgkfdcaaGreatDoorSpecClean
import Derived.Test.YtbldchemgkfdcaaGreatDoorSpecGood
import Derived.Test.YtbldchemgkfdcaaGreatDoorCleanOf
namespace Go.Proofs.YtbldchemgkfdcaaGreatDoor
open Go.RowKit

set_option maxRecDepth 100000 in
set_option maxHeartbeats 2000000 in
theorem specCleanOf_c (l : List N) (v : Value) (w : World) (S : Nat → Prop) (hf : Fits l) (hl : l.length ≤ 1073741824) (h : Nods w S v l) (hS : ∀ b, S b → b < w.heap.size) :
    Calls Tryz.prog 20 #[.agg #[v]] w (ToldPost w (cleanOf l)) := by
  have HB0 := Lib.hid (((Below.refl w.heap.size w).alloc (Nat.le_refl _) (.cells #[v] 28)).alloc (by simp) (.cells #[.slice none 0 0] 28))
  have HGV := Lib.hid (goodValueS_c l v ((w.alloc (.cells #[v] 28)).alloc (.cells #[.slice none 0 0] 28)) S hl hf.2 (Row.frame h (Below.fr HB0.out hS) HB0.out.size) (fun b hb => by have := hS b hb; simp; omega))
  obtain ⟨a, c, rfl⟩ := Row.form h
  have HR := Lib.hid h; have HS := Lib.hid hS
  clear h hS hf
  have hbk : ((w.alloc (.cells #[.slice a l.length c] 28)).alloc (.cells #[.slice none 0 0] 28)).heap[w.heap.size]? = some (.cells #[.slice a l.length c] 28) := (blk_old _ _ (by simp)).trans (blk_new w _)
  have hbk2 : ((w.alloc (.cells #[.slice a l.length c] 28)).alloc (.cells #[.slice none 0 0] 28)).heap[w.heap.size + 1]? = some (.cells #[.slice none 0 0] 28) := by have := blk_new (w.alloc (.cells #[.slice a l.length c] 28)) (.cells #[.slice none 0 0] 28); simpa using this
  have HK1 := Lib.hid (cell_blk hbk 0); have HK2 := Lib.hid (cell_blk hbk2 0); have HK3 := Lib.hid (fro_blk hbk2 0)
  clear hbk hbk2
  rcases hr : valOf l with _ | t
  · have HV : Hid (cleanOf l = none) := by unfold Hid cleanOf; rw [hr]; rfl
    rw [hr] at HGV
    clear hr
    go_enter Tryz.func20, Tryz.ntmps20
    go_wp2_with fail
    refine HGV.out.mono ?_
    rintro e w1 ⟨rfl, hI⟩
    have k0 : w1.cell? ⟨w.heap.size + 1, 0, none⟩ = some (.slice none 0 0) := (hI.cell (p := ⟨w.heap.size + 1, 0, none⟩) (by simp)).trans HK2.out
    have f0 : w1.frozen? ⟨w.heap.size + 1, 0, none⟩ = false := (hI.frozen (p := ⟨w.heap.size + 1, 0, none⟩) (by simp)).trans HK3.out
    have HX := Lib.hid (HB0.out.trans (hI.mono (by simp; omega)))
    clear hI
    go_wp2
    have k2 := World.cell?_setCell_same w1 ⟨w.heap.size + 1, 0, none⟩ (.slice none 0 0) k0
    refine bodyPost_ret (v := .tuple #[.agg #[.slice none 0 0], .bool false]) (by simp [results, Tryz.results20, go_sem, k2]) rfl ?_
    rw [HV.out]
    exact ⟨HX.out.setCell (p := ⟨w.heap.size + 1, 0, none⟩) (by simp) _, rfl⟩
  · have hsh := valOf_tree hr
    have hcnt : t.cnt ≤ 80 := hsh.2.2
    have hcc := t.clean_cnt
    have HW := Lib.hid hsh.1; have HCw := Lib.hid (t.clean_wn hsh.1); have HIn := Lib.hid (valOf_inc hr)
    have hT := valOf_TR hr
    have HTr := Lib.hid (fun (w1 : World) (hB : Below w.heap.size w w1) => l1Tree_c _ t l 0 (.slice a l.length c) w1 S (Nat.le_refl _) (by omega) hT hl (Row.frame HR.out (Below.fr hB HS.out) hB.size) (fun b hb => by have := HS.out b hb; have := hB.size; omega))
    have HV : Hid (cleanOf l = some t.clean) := by unfold Hid cleanOf; rw [hr]; rfl
    rw [hr] at HGV
    clear hr hsh hT
    go_enter Tryz.func20, Tryz.ntmps20
    go_wp2_with fail
    refine HGV.out.mono ?_
    rintro e w1 ⟨rfl, hI⟩
    have k0 : w1.cell? ⟨w.heap.size + 1, 0, none⟩ = some (.slice none 0 0) := (hI.cell (p := ⟨w.heap.size + 1, 0, none⟩) (by simp)).trans HK2.out
    have f0 : w1.frozen? ⟨w.heap.size + 1, 0, none⟩ = false := (hI.frozen (p := ⟨w.heap.size + 1, 0, none⟩) (by simp)).trans HK3.out
    have k1 : w1.cell? ⟨w.heap.size, 0, none⟩ = some (.slice a l.length c) := (hI.cell (p := ⟨w.heap.size, 0, none⟩) (by simp; omega)).trans HK1.out
    have HX := Lib.hid (HB0.out.trans (hI.mono (by simp; omega)))
    clear hI
    go_wp2_with fail
    refine (HTr.out w1 HX.out).mono ?_
    rintro e w2 ⟨an2, cn2, ak2, ck2, rfl, hv2, hI2⟩
    have hlt0 := lt_cell k0
    have HX2 := Lib.hid (HX.out.trans (hI2.mono HX.out.size))
    have k2 : w2.cell? ⟨w.heap.size + 1, 0, none⟩ = some (.slice none 0 0) := (hI2.cell (p := ⟨w.heap.size + 1, 0, none⟩) hlt0).trans k0
    have f2 : w2.frozen? ⟨w.heap.size + 1, 0, none⟩ = false := (hI2.frozen (p := ⟨w.heap.size + 1, 0, none⟩) hlt0).trans f0
    have hcl := l4CleanOf_c _ t an2 ak2 cn2 ck2 w2 _ (Nat.le_refl _) (by omega) HW.out HIn.out (IsV.lt hv2) (fun b hb => hb.2)
    clear hv2 hI2 k0 f0 k1
    go_wp2_with fail
    refine hcl.mono ?_
    rintro e w3 ⟨an3, cn3, ak3, ck3, rfl, hv3, hI3⟩
    have hlt2 := lt_cell k2
    have HX3 := Lib.hid (HX2.out.trans (hI3.mono HX2.out.size))
    have k3 : w3.cell? ⟨w.heap.size + 1, 0, none⟩ = some (.slice none 0 0) := (hI3.cell (p := ⟨w.heap.size + 1, 0, none⟩) hlt2).trans k2
    have f3 : w3.frozen? ⟨w.heap.size + 1, 0, none⟩ = false := (hI3.frozen (p := ⟨w.heap.size + 1, 0, none⟩) hlt2).trans f2
    have hof := l1Of_c t.clean an3 ak3 cn3 ck3 w3 _ HCw.out (by omega) (IsV.lt hv3) (fun b hb => hb.2)
    clear hv3 hI3 k2 f2 hcl
    go_wp2_with fail
    refine hof.mono ?_
    rintro e w4 ⟨sv, rfl, hm, hI4⟩
    obtain ⟨s1, s2, rfl⟩ := owns_form hm
    have hlt3 := lt_cell k3
    have HX4 := Lib.hid (HX3.out.trans (hI4.mono HX3.out.size))
    have k4 : w4.cell? ⟨w.heap.size + 1, 0, none⟩ = some (.slice none 0 0) := (hI4.cell (p := ⟨w.heap.size + 1, 0, none⟩) hlt3).trans k3
    have f4 : w4.frozen? ⟨w.heap.size + 1, 0, none⟩ = false := (hI4.frozen (p := ⟨w.heap.size + 1, 0, none⟩) hlt3).trans f3
    have HM := Lib.hid hm
    clear hm hI4 hof k3 f3
    go_wp2
    have k5 := World.cell?_setCell_same w4 ⟨w.heap.size + 1, 0, none⟩ (.slice s1 (t.clean.flat ⟨#[]⟩ (-1) 0).length s2) k4
    refine bodyPost_ret (v := .tuple #[.agg #[.slice s1 (t.clean.flat ⟨#[]⟩ (-1) 0).length s2], .bool true]) (by simp [results, Tryz.results20, go_sem, k5]) rfl ?_
    rw [HV.out]
    exact ⟨HX4.out.setCell (p := ⟨w.heap.size + 1, 0, none⟩) (by simp) _, _, rfl, owns_base (ownsRow_setCell_below HM.out hlt3 _) HX3.out.size⟩
end Go.Proofs.YtbldchemgkfdcaaGreatDoor
