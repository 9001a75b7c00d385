/- impl.SubOf. -/
import Derived.Test.YtbldchemgkfdcaaGreatDoorValue
import Derived.Test.YtbldchemgkfdcaaGreatDoorLaw2
namespace Go.Proofs.YtbldchemgkfdcaaGreatDoor
open Go.RowKit

def subOf (l : List N) (k : Int) : Option T := if (valOf l).isSome && within k 0 ((l.length : Int) - 1) then (pv (2 * l.length) l k.toNat (upk l k.toNat)).map (·.1) else none
/-- in a good value each node leads to one ahead of it, and a tree can be read from each -/
def SubsOk (l : List N) : Prop := (valOf l).isSome = true → ∀ j (hj : j < l.length), (∃ t e, pv (2 * l.length) l j (upk l j) = some (t, e)) ∧ (0 < j → ∃ q : Nat, l[j].up = (q : Int) ∧ q < l.length)

theorem subsOk (l : List N) : SubsOk l := by
  intro h j hj
  obtain ⟨t, ht⟩ := Option.isSome_iff_exists.1 h
  have hs := valOf_shape ht
  obtain ⟨t2, e, hp, _⟩ := shape_reads hs j hj
  refine ⟨⟨t2, e, hp⟩, fun h0 => ?_⟩
  obtain ⟨_, q, hq, hqj, _⟩ := okS_parts ((shape_parts hs).2.1 j hj) hj (by omega)
  exact ⟨q, hq, by omega⟩

set_option maxRecDepth 100000 in
set_option maxHeartbeats 2000000 in
theorem subOf_c (l : List N) (v : Value) (k : Int) (w : World) (S : Nat → Prop) (B : Nat) (hsub : SubsOk l) (hf : Fits l) (h : Nods w S v l) (hS : ∀ b, S b → b < w.heap.size) (hB : B ≤ w.heap.size) (ht : Tb B w) :
    Calls Tryz.prog 11 #[.agg #[v], .int .i64 k] w (ToldPost w (subOf l k)) := by
  have hl := hf.1
  have HB0 := Lib.hid (((Below.refl w.heap.size w).alloc (Nat.le_refl _) (.cells #[v] 28)).alloc (by simp) (.cells #[.slice none 0 0] 28))
  have HGV := Lib.hid (goodValue_c l v ((w.alloc (.cells #[v] 28)).alloc (.cells #[.slice none 0 0] 28)) S B hf (Row.frame h (fun b _ hlt => (blk_old _ _ (by simp; omega)).trans (blk_old w _ hlt)) (by simp; omega)) (fun b hb => by have := hS b hb; simp; omega) (by simp; omega) (ht.on (HB0.out.mono hB)))
  obtain ⟨a, c, rfl⟩ := Row.form h
  have HR := Lib.hid h; have HS := Lib.hid hS; have HF := Lib.hid hf; have HT := Lib.hid ht; have HSub := Lib.hid hsub
  clear h hS ht hf hsub
  have hbk : ((w.alloc (.cells #[.slice a l.length c] 28)).alloc (.cells #[.slice none 0 0] 28)).heap[w.heap.size]? = some (.cells #[.slice a l.length c] 28) := (blk_old _ _ (by simp)).trans (blk_new w _)
  have hbk2 : ((w.alloc (.cells #[.slice a l.length c] 28)).alloc (.cells #[.slice none 0 0] 28)).heap[w.heap.size + 1]? = some (.cells #[.slice none 0 0] 28) := by have := blk_new (w.alloc (.cells #[.slice a l.length c] 28)) (.cells #[.slice none 0 0] 28); simpa using this
  have hk1 : ((w.alloc (.cells #[.slice a l.length c] 28)).alloc (.cells #[.slice none 0 0] 28)).cell? ⟨w.heap.size, 0, none⟩ = some (.slice a l.length c) := cell_blk hbk 0
  have hk2 : ((w.alloc (.cells #[.slice a l.length c] 28)).alloc (.cells #[.slice none 0 0] 28)).cell? ⟨w.heap.size + 1, 0, none⟩ = some (.slice none 0 0) := cell_blk hbk2 0
  have hk3 := fro_blk hbk2 0
  have HK1 := Lib.hid hk1; have HK2 := Lib.hid hk2; have HK3 := Lib.hid hk3
  clear hbk hbk2 hk1 hk2 hk3
  cases hg : (valOf l).isSome
  · have HV : Hid (subOf l k = none) := by unfold Hid subOf; rw [hg]; rfl
    rw [hg] at HGV
    go_enter Tryz.func11, Tryz.ntmps11
    go_wp2_with (first | (go_at_call 37; refine HGV.out.mono ?_; rintro e w1 ⟨rfl, hI⟩; have k0 := (hI.cell (p := ⟨w.heap.size + 1, 0, none⟩) (by simp)).trans HK2.out; have f0 := (hI.frozen (p := ⟨w.heap.size + 1, 0, none⟩) (by simp)).trans HK3.out; have k1 := (hI.cell (p := ⟨w.heap.size, 0, none⟩) (by simp; omega)).trans HK1.out; obtain ⟨hc1, hf1⟩ := bcell (HB0.out.trans (hI.mono (by simp; omega))); have HX := Lib.hid (HB0.out.trans (hI.mono (by simp; omega))); have HI := Lib.hid hI; clear hI hf1) | (go_at_call 38; refine (within_c _ _ _ _).mono ?_; rintro e w' ⟨rfl, rfl⟩))
    have k2 := World.cell?_setCell_same w1 ⟨w.heap.size + 1, 0, none⟩ (.slice none 0 0) k0
    refine bodyPost_ret (v := .tuple #[.agg #[.slice none 0 0], .bool false]) (by simp [results, Tryz.results11, go_sem, k2]) rfl ?_
    rw [HV.out]
    exact ⟨HX.out.setCell (p := ⟨w.heap.size + 1, 0, none⟩) (by simp) _, rfl⟩
  · rw [hg] at HGV
    cases hw : within k 0 ((l.length : Int) - 1)
    · have HV : Hid (subOf l k = none) := by unfold Hid subOf; rw [hw, Bool.and_false]; rfl
      go_enter Tryz.func11, Tryz.ntmps11
      go_wp2_with (first | (go_at_call 37; refine HGV.out.mono ?_; rintro e w1 ⟨rfl, hI⟩; have k0 := (hI.cell (p := ⟨w.heap.size + 1, 0, none⟩) (by simp)).trans HK2.out; have f0 := (hI.frozen (p := ⟨w.heap.size + 1, 0, none⟩) (by simp)).trans HK3.out; have k1 := (hI.cell (p := ⟨w.heap.size, 0, none⟩) (by simp; omega)).trans HK1.out; obtain ⟨hc1, hf1⟩ := bcell (HB0.out.trans (hI.mono (by simp; omega))); have HX := Lib.hid (HB0.out.trans (hI.mono (by simp; omega))); have HI := Lib.hid hI; clear hI hf1) | (go_at_call 38; refine (within_c _ _ _ _).mono ?_; rintro e w' ⟨rfl, rfl⟩))
      have k2 := World.cell?_setCell_same w1 ⟨w.heap.size + 1, 0, none⟩ (.slice none 0 0) k0
      refine bodyPost_ret (v := .tuple #[.agg #[.slice none 0 0], .bool false]) (by simp [results, Tryz.results11, go_sem, k2]) rfl ?_
      rw [HV.out]
      exact ⟨HX.out.setCell (p := ⟨w.heap.size + 1, 0, none⟩) (by simp) _, rfl⟩
    · have hk : 0 ≤ k ∧ k < l.length := by simp only [within, Bool.and_eq_true, decide_eq_true_eq] at hw; omega
      obtain ⟨j, rfl⟩ := Int.eq_ofNat_of_zero_le hk.1
      have hj : j < l.length := by omega
      obtain ⟨⟨t, e', hpv⟩, hup⟩ := HSub.out hg j hj
      have HV : Hid (subOf l (j : Int) = some t) := by unfold Hid subOf; rw [hg, hw, Int.toNat_natCast, hpv]; rfl
      have hok := (pv_ok (2 * l.length)).1 _ _ _ _ _ hpv
      have hle := (pv_le (2 * l.length)).1 _ _ _ _ _ hpv
      have hcn : t.cnt ≤ 1099511627776 := by omega
      have HPv := Lib.hid hpv
      have HWn := Lib.hid hok.1
      clear hok hpv
      have vfc : ∀ (w1 : World), Below (w.heap.size + 2) ((w.alloc (.cells #[.slice a l.length c] 28)).alloc (.cells #[.slice none 0 0] 28)) w1 → Below w.heap.size w w1 →
          Calls Tryz.prog 39 #[.slice a l.length c, .int .i64 (j : Int), .int .i64 (upk l j)] w1 (VFPost w1 (pv (2 * l.length) l j (upk l j))) := fun w1 h1 h2 =>
        valFrom_c (2 * l.length) l j (upk l j) _ w1 S hj hl (by omega) HF.out.2 (Row.frame HR.out (fun b hb _ => h2.block b (HS.out b hb)) h2.size) (fun b hb => by have := HS.out b hb; have := h2.size; omega)
      have VFC := Lib.hid vfc
      clear vfc
      by_cases hj0 : 0 < j
      · obtain ⟨q, hq, hql⟩ := hup hj0
        obtain ⟨g, off, hgo, hSg, x0, x1, x2, x3, x4⟩ := Nods.at HR.out hj
        subst hgo
        obtain ⟨g', off', hgo, _, z0, z1, z2, z3, z4⟩ := Nods.at HR.out hql
        simp only [Option.some.injEq, Addr.mk.injEq, and_true] at hgo
        obtain ⟨rfl, rfl⟩ := hgo
        have hgb := HS.out g hSg
        rw [hq] at x4
        have HU : Hid (upk l j = l[q].kind) := by
          unfold Hid upk
          rw [if_neg (by omega), List.getElem?_eq_getElem hj]
          simp only [hq, Int.toNat_natCast, List.getElem?_eq_getElem hql]
        have hql' : (q : Int) < (l.length : Int) := by omega
        rw [HU.out] at VFC HPv
        clear hq hup
        go_enter Tryz.func11, Tryz.ntmps11
        go_wp2_with (first | (go_at_call 37; refine HGV.out.mono ?_; rintro e w1 ⟨rfl, hI⟩; have k0 := (hI.cell (p := ⟨w.heap.size + 1, 0, none⟩) (by simp)).trans HK2.out; have f0 := (hI.frozen (p := ⟨w.heap.size + 1, 0, none⟩) (by simp)).trans HK3.out; have k1 := (hI.cell (p := ⟨w.heap.size, 0, none⟩) (by simp; omega)).trans HK1.out; obtain ⟨hc1, hf1⟩ := bcell (HB0.out.trans (hI.mono (by simp; omega))); have HX := Lib.hid (HB0.out.trans (hI.mono (by simp; omega))); have HI := Lib.hid hI; clear hI hf1) | (go_at_call 38; refine (within_c _ _ _ _).mono ?_; rintro e w' ⟨rfl, rfl⟩))
        go_region
        go_wp2_with (first | (go_at_call 39; go_must (refine (VFC.out w1.drew (HI.out.mono (by simp)).drew HX.out.drew).mono ?_; rw [HPv.out]; rintro e w2 ⟨hI2, u, rfl, hu⟩; obtain ⟨bu, rfl, _⟩ := hu.ptr; have HX2 := Lib.hid (HX.out.drew.trans (hI2.mono HX.out.size)); have k2 : w2.cell? ⟨w.heap.size + 1, 0, none⟩ = some (.slice none 0 0) := (hI2.cell (p := ⟨w.heap.size + 1, 0, none⟩) (lt_cell k0)).trans k0; have f2 : w2.frozen? ⟨w.heap.size + 1, 0, none⟩ = false := (hI2.frozen (p := ⟨w.heap.size + 1, 0, none⟩) (lt_cell k0)).trans f0; have HU2 := Lib.hid hu; have HI2 := Lib.hid hI2; clear hu hI2)) | (go_at_call 40; refine (value_c t _ _ _ HWn.out hcn (IsVal.lt HU2.out) (fun b hb => hb.2)).mono ?_; rintro e w3 ⟨sv, rfl, hm, hI3⟩; obtain ⟨s1, s2, rfl⟩ := owns_form hm; have HX3 := Lib.hid (HX2.out.trans (hI3.mono HX2.out.size)); have k3 : w3.cell? ⟨w.heap.size + 1, 0, none⟩ = some (.slice none 0 0) := (hI3.cell (p := ⟨w.heap.size + 1, 0, none⟩) (lt_cell k2)).trans k2; have f3 : w3.frozen? ⟨w.heap.size + 1, 0, none⟩ = false := (hI3.frozen (p := ⟨w.heap.size + 1, 0, none⟩) (lt_cell k2)).trans f2; have HM := Lib.hid hm; have hz2 := lt_cell k2; clear hm hI3))
        have k4 := World.cell?_setCell_same w3 ⟨w.heap.size + 1, 0, none⟩ (.slice s1 (t.flat ⟨#[]⟩ (-1) 0).length s2) k3
        refine bodyPost_ret (v := .tuple #[.agg #[.slice s1 (t.flat ⟨#[]⟩ (-1) 0).length s2], .bool true]) (by simp [results, Tryz.results11, go_sem, k4]) rfl ?_
        rw [HV.out]
        exact ⟨HX3.out.setCell (p := ⟨w.heap.size + 1, 0, none⟩) (by simp) _, _, rfl, owns_base (ownsRow_setCell_below HM.out hz2 _) HX2.out.size⟩
      · have h0 : j = 0 := by omega
        subst h0
        have HU : Hid (upk l 0 = 0) := rfl
        rw [HU.out] at VFC HPv
        rw [Int.natCast_zero] at VFC HV hw ⊢
        clear hup
        go_enter Tryz.func11, Tryz.ntmps11
        go_wp2_with (first | (go_at_call 37; refine HGV.out.mono ?_; rintro e w1 ⟨rfl, hI⟩; have k0 := (hI.cell (p := ⟨w.heap.size + 1, 0, none⟩) (by simp)).trans HK2.out; have f0 := (hI.frozen (p := ⟨w.heap.size + 1, 0, none⟩) (by simp)).trans HK3.out; have k1 := (hI.cell (p := ⟨w.heap.size, 0, none⟩) (by simp; omega)).trans HK1.out; obtain ⟨hc1, hf1⟩ := bcell (HB0.out.trans (hI.mono (by simp; omega))); have HX := Lib.hid (HB0.out.trans (hI.mono (by simp; omega))); have HI := Lib.hid hI; clear hI hf1) | (go_at_call 38; refine (within_c _ _ _ _).mono ?_; rintro e w' ⟨rfl, rfl⟩) | (go_at_call 39; refine (VFC.out w1 (HI.out.mono (by simp)) HX.out).mono ?_; rw [HPv.out]; rintro e w2 ⟨hI2, u, rfl, hu⟩; obtain ⟨bu, rfl, _⟩ := hu.ptr; have HX2 := Lib.hid (HX.out.trans (hI2.mono HX.out.size)); have k2 : w2.cell? ⟨w.heap.size + 1, 0, none⟩ = some (.slice none 0 0) := (hI2.cell (p := ⟨w.heap.size + 1, 0, none⟩) (lt_cell k0)).trans k0; have f2 : w2.frozen? ⟨w.heap.size + 1, 0, none⟩ = false := (hI2.frozen (p := ⟨w.heap.size + 1, 0, none⟩) (lt_cell k0)).trans f0; have HU2 := Lib.hid hu; have HI2 := Lib.hid hI2; clear hu hI2) | (go_at_call 40; refine (value_c t _ _ _ HWn.out hcn (IsVal.lt HU2.out) (fun b hb => hb.2)).mono ?_; rintro e w3 ⟨sv, rfl, hm, hI3⟩; obtain ⟨s1, s2, rfl⟩ := owns_form hm; have HX3 := Lib.hid (HX2.out.trans (hI3.mono HX2.out.size)); have k3 : w3.cell? ⟨w.heap.size + 1, 0, none⟩ = some (.slice none 0 0) := (hI3.cell (p := ⟨w.heap.size + 1, 0, none⟩) (lt_cell k2)).trans k2; have f3 : w3.frozen? ⟨w.heap.size + 1, 0, none⟩ = false := (hI3.frozen (p := ⟨w.heap.size + 1, 0, none⟩) (lt_cell k2)).trans f2; have HM := Lib.hid hm; have hz2 := lt_cell k2; clear hm hI3))
        have k4 := World.cell?_setCell_same w3 ⟨w.heap.size + 1, 0, none⟩ (.slice s1 (t.flat ⟨#[]⟩ (-1) 0).length s2) k3
        refine bodyPost_ret (v := .tuple #[.agg #[.slice s1 (t.flat ⟨#[]⟩ (-1) 0).length s2], .bool true]) (by simp [results, Tryz.results11, go_sem, k4]) rfl ?_
        rw [HV.out]
        exact ⟨HX3.out.setCell (p := ⟨w.heap.size + 1, 0, none⟩) (by simp) _, _, rfl, owns_base (ownsRow_setCell_below HM.out hz2 _) HX2.out.size⟩
end Go.Proofs.YtbldchemgkfdcaaGreatDoor
