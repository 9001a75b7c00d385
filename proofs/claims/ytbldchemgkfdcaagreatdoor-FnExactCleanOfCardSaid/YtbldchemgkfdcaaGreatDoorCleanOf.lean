/- impl.CleanOf. -/
import Derived.Test.YtbldchemgkfdcaaGreatDoorTold
import Derived.Test.YtbldchemgkfdcaaGreatDoorClean
namespace Go.Proofs.YtbldchemgkfdcaaGreatDoor
open Go.RowKit

def cleanOf (l : List N) : Option T := (valOf l).map T.clean

set_option maxRecDepth 100000 in
set_option maxHeartbeats 1000000 in
theorem implCleanOf_c (l : List N) (v : Value) (w : World) (S : Nat → Prop) (B : Nat) (hf : Fits l) (h : Nods w S v l) (hS : ∀ b, S b → b < w.heap.size) (hB : B ≤ w.heap.size) (ht : Tb B w) :
    Calls Tryz.prog 21 #[.agg #[v]] w (ToldPost w (cleanOf l)) := by
  have HB0 := Lib.hid (((Below.refl w.heap.size w).alloc (Nat.le_refl _) (.cells #[v] 28)).alloc (by simp) (.cells #[.slice none 0 0] 28))
  have hvo := valOf_c l v ((w.alloc (.cells #[v] 28)).alloc (.cells #[.slice none 0 0] 28)) S B hf (Row.frame h (Below.fr HB0.out hS) HB0.out.size) (fun b hb => by have := hS b hb; simp; omega) (by simp; omega) (ht.on (HB0.out.mono hB))
  have hbk2 : ((w.alloc (.cells #[v] 28)).alloc (.cells #[.slice none 0 0] 28)).heap[w.heap.size + 1]? = some (.cells #[.slice none 0 0] 28) := by have := blk_new (w.alloc (.cells #[v] 28)) (.cells #[.slice none 0 0] 28); simpa using this
  have HBk := Lib.hid hbk2
  obtain ⟨a, c, rfl⟩ := Row.form h
  have HT := Lib.hid ht
  clear h hS ht hf hbk2
  rcases hr : valOf l with _ | t
  · have HP : Hid (cleanOf l = none) := by unfold Hid cleanOf; rw [hr]; rfl
    rw [hr] at hvo
    have HVO := Lib.hid hvo
    clear hvo hr
    go_enter Tryz.func21, Tryz.ntmps21
    go_wp2_with fail
    refine HVO.out.mono ?_
    rintro e w1 ⟨hI, rfl⟩
    have k0 : w1.cell? ⟨w.heap.size + 1, 0, none⟩ = some (.slice none 0 0) := (hI.cell (p := ⟨w.heap.size + 1, 0, none⟩) (by simp)).trans (cell_blk HBk.out 0)
    have f0 : w1.frozen? ⟨w.heap.size + 1, 0, none⟩ = false := (hI.frozen (p := ⟨w.heap.size + 1, 0, none⟩) (by simp)).trans (fro_blk HBk.out 0)
    have HX := Lib.hid (HB0.out.trans (hI.mono (by simp; omega)))
    clear hI
    go_wp2
    have k2 := World.cell?_setCell_same w1 ⟨w.heap.size + 1, 0, none⟩ (.slice none 0 0) k0
    refine bodyPost_ret (v := .tuple #[.agg #[.slice none 0 0], .bool false]) (by simp [results, Tryz.results21, go_sem, k2]) rfl ?_
    rw [HP.out]
    exact ⟨HX.out.setCell (p := ⟨w.heap.size + 1, 0, none⟩) (by simp) _, rfl⟩
  · have hgd := valOf_good hr
    have hsh := valOf_tree hr
    have hcnt : t.cnt ≤ 80 := hsh.2.2
    have hcc := t.clean_cnt
    have hcg := T.clean_good hsh.1 hgd
    have HW := Lib.hid hsh.1
    have HCw := Lib.hid (t.clean_wn hsh.1)
    have HCs := Lib.hid (T.sized_of t.clean (t.clean_wn hsh.1) (t.clean_bounded hsh.2.1) (by omega))
    have HP : Hid (cleanOf l = some t.clean) := by unfold Hid cleanOf; rw [hr]; rfl
    rw [hr] at hvo
    have HVO := Lib.hid hvo
    clear hvo hr hsh hgd
    go_enter Tryz.func21, Tryz.ntmps21
    go_wp2_with fail
    refine HVO.out.mono ?_
    rintro e w1 ⟨hI, u, rfl, hu⟩
    obtain ⟨bu, rfl, _⟩ := hu.ptr
    have k0 : w1.cell? ⟨w.heap.size + 1, 0, none⟩ = some (.slice none 0 0) := (hI.cell (p := ⟨w.heap.size + 1, 0, none⟩) (by simp)).trans (cell_blk HBk.out 0)
    have f0 : w1.frozen? ⟨w.heap.size + 1, 0, none⟩ = false := (hI.frozen (p := ⟨w.heap.size + 1, 0, none⟩) (by simp)).trans (fro_blk HBk.out 0)
    have HX := Lib.hid (HB0.out.trans (hI.mono (by simp; omega)))
    have hcl := clean_c _ t _ w1 _ (Nat.le_refl _) (by omega) HW.out (IsVal.lt hu) (fun b hb => hb.2)
    clear hI hu
    go_wp2_with fail
    refine hcl.mono ?_
    rintro e w2 ⟨u2, rfl, hu2, hI⟩
    obtain ⟨bu2, rfl, _⟩ := hu2.ptr
    have hlt0 := lt_cell k0
    have k1 : w2.cell? ⟨w.heap.size + 1, 0, none⟩ = some (.slice none 0 0) := (hI.cell (p := ⟨w.heap.size + 1, 0, none⟩) hlt0).trans k0
    have f1 : w2.frozen? ⟨w.heap.size + 1, 0, none⟩ = false := (hI.frozen (p := ⟨w.heap.size + 1, 0, none⟩) hlt0).trans f0
    have HX2 := Lib.hid (HX.out.trans (hI.mono HX.out.size))
    have htd := told_c t.clean _ w2 _ B HCw.out HCs.out (by omega) (IsVal.lt hu2) (fun b hb => hb.2) (Nat.le_trans hB HX2.out.size) (HT.out.on (HX2.out.mono hB))
    rw [if_pos hcg] at htd
    clear hI hu2 hcl k0 f0
    go_wp2_with fail
    refine htd.mono ?_
    rintro e w3 ⟨hI, sv, rfl, hm⟩
    obtain ⟨s1, s2, rfl⟩ := owns_form hm
    have hlt1 := lt_cell k1
    have k3 : w3.cell? ⟨w.heap.size + 1, 0, none⟩ = some (.slice none 0 0) := (hI.cell (p := ⟨w.heap.size + 1, 0, none⟩) hlt1).trans k1
    have f3 : w3.frozen? ⟨w.heap.size + 1, 0, none⟩ = false := (hI.frozen (p := ⟨w.heap.size + 1, 0, none⟩) hlt1).trans f1
    have HX3 := Lib.hid (HX2.out.trans (hI.mono HX2.out.size))
    have HM := Lib.hid hm
    clear hI hm htd k1 f1
    go_wp2
    have k2 := World.cell?_setCell_same w3 ⟨w.heap.size + 1, 0, none⟩ (.slice s1 (t.clean.flat ⟨#[]⟩ (-1) 0).length s2) k3
    refine bodyPost_ret (v := .tuple #[.agg #[.slice s1 (t.clean.flat ⟨#[]⟩ (-1) 0).length s2], .bool true]) (by simp [results, Tryz.results21, go_sem, k2]) rfl ?_
    rw [HP.out]
    exact ⟨HX3.out.setCell (p := ⟨w.heap.size + 1, 0, none⟩) (by simp) _, _, rfl, owns_base (ownsRow_setCell_below HM.out hlt1 _) HX2.out.size⟩
end Go.Proofs.YtbldchemgkfdcaaGreatDoor
