/- spec.GoodValue, spec.SubOf. -/
import Derived.Test.YtbldchemgkfdcaaGreatDoorShapeC
import Derived.Test.YtbldchemgkfdcaaGreatDoorLaw2
import Derived.Test.YtbldchemgkfdcaaGreatDoorSubOf
namespace Go.Proofs.YtbldchemgkfdcaaGreatDoor
open Go.RowKit

theorem Row.lt' {w : World} {S : Nat → Prop} {sz n : Nat} {v : Value} {cs : List Value} (h : Row w S sz v n cs) : Row w (fun b => S b ∧ b < w.heap.size) sz v n cs := h.mono (fun _ hb hl => ⟨hb, hl⟩)
theorem IsV.lt {w : World} {S : Nat → Prop} {t : T} {v : List Value} (h : IsV w S t v) : IsV w (fun b => S b ∧ b < w.heap.size) t v := IsV.mono (fun _ hb hl => ⟨hb, hl⟩) h
theorem goodValueS_c (l : List N) (v : Value) (w : World) (S : Nat → Prop) (hl : l.length ≤ 1073741824) (hsz : ∀ x ∈ l, x.text.size ≤ 1099511627776 ∧ x.name.size ≤ 1099511627776) (h : Nods w S v l) (hS : ∀ b, S b → b < w.heap.size) :
    Calls Tryz.prog 32 #[.agg #[v]] w fun e w' => e = .returned (.bool (valOf l).isSome) ∧ Below w.heap.size w w' := by
  have HB0 := Lib.hid ((Below.refl w.heap.size w).alloc (Nat.le_refl _) (.cells #[v] 28))
  have HSC := Lib.hid (l1Shape_c l v (w.alloc (.cells #[v] 28)) S hl hsz (Row.frame h (Below.fr HB0.out hS) HB0.out.size) (fun b hb => by have := hS b hb; simp; omega))
  obtain ⟨a, c, rfl⟩ := Row.form h
  have HR := Lib.hid h; have HS := Lib.hid hS
  have HBk := Lib.hid (blk_new w (.cells #[.slice a l.length c] 28))
  clear h hS hsz
  cases hs : shape l
  · rw [hs] at HSC
    have HV : Hid ((valOf l).isSome = false) := by
      unfold Hid
      cases hv : valOf l with
      | none => rfl
      | some t => have := valOf_shape hv; rw [hs] at this; cases this
    go_enter Tryz.func32, Tryz.ntmps32
    go_wp2_with (go_at_call 63; refine HSC.out.mono ?_; rintro e w1 ⟨rfl, hB⟩)
    go_ret
    exact ⟨by rw [HV.out]; rfl, HB0.out.trans (hB.mono (by simp))⟩
  · rw [hs] at HSC
    obtain ⟨_, hSS, h1, h80⟩ := shape_parts hs
    obtain ⟨t, hp, hT, hb, hvo⟩ := shape_valOf hs
    have hk := hT.kok hSS
    have hc : t.cnt ≤ 80 := by have := ((pv_ok _).1 _ _ _ _ _ hp).2.2; omega
    have hv : (valOf l).isSome = decide (t.txt.length ≤ 300) := by rw [hvo]; by_cases h3 : t.txt.length ≤ 300 <;> simp [h3]
    have HV := Lib.hid hv
    clear hv hvo hp hSS
    have htl := T.txt_len t hb
    obtain ⟨ts, hts⟩ : ∃ ts : ByteArray, ts = ⟨⟨t.txt⟩⟩ := ⟨_, rfl⟩
    have htss : ts.size = t.txt.length := by rw [hts]; rfl
    have HT := Lib.hid (fun (w1 : World) (hB : Below (w.heap.size + 1) (w.alloc (.cells #[.slice a l.length c] 28)) w1) =>
      l1Text_c _ t l 0 (.slice a l.length c) w1 S (Nat.le_refl _) (by omega) hT hb hk (by omega) (Row.frame HR.out (Below.fr (HB0.out.trans (hB.mono (by omega))) HS.out) (HB0.out.trans (hB.mono (by omega))).size) (fun b hb => by have := HS.out b hb; have := (HB0.out.trans (hB.mono (Nat.le_succ _))).size; omega))
    rw [← hts] at HT
    have hlen : ts.size ≤ 10340 := by omega
    rw [← htss] at HV
    clear hts htss htl hT
    go_enter Tryz.func32, Tryz.ntmps32
    go_wp2_with (first | (go_at_call 63; refine HSC.out.mono ?_; rintro e w1 ⟨rfl, hB⟩; have HB := Lib.hid hB; have k0 : w1.cell? ⟨w.heap.size, 0, none⟩ = some (.slice a l.length c) := (hB.cell (p := ⟨w.heap.size, 0, none⟩) (by simp)).trans (cell_blk HBk.out 0); clear hB) | (go_at_call 64; refine (HT.out w1 (HB.out.mono (by simp))).mono ?_; rintro e w2 ⟨rfl, hB2⟩))
    go_ret
    refine ⟨?_, HB0.out.trans ((HB.out.trans (hB2.mono HB.out.size)).mono (by simp))⟩
    rw [HV.out]
    simp
    omega

set_option maxRecDepth 100000 in
set_option maxHeartbeats 2000000 in
theorem specSubOf_c (l : List N) (v : Value) (k : Int) (w : World) (S : Nat → Prop) (hf : Fits l) (hl : l.length ≤ 1073741824) (h : Nods w S v l) (hS : ∀ b, S b → b < w.heap.size) :
    Calls Tryz.prog 9 #[.agg #[v], .int .i64 k] w (ToldPost w (subOf l k)) := by
  have HB0 := Lib.hid (((Below.refl w.heap.size w).alloc (Nat.le_refl _) (.cells #[v] 28)).alloc (by simp) (.cells #[.slice none 0 0] 28))
  have HGV := Lib.hid (goodValueS_c l v ((w.alloc (.cells #[v] 28)).alloc (.cells #[.slice none 0 0] 28)) S hl hf.2 (Row.frame h (Below.fr HB0.out hS) HB0.out.size) (fun b hb => by have := hS b hb; simp; omega))
  obtain ⟨a, c, rfl⟩ := Row.form h
  have HR := Lib.hid h; have HS := Lib.hid hS
  clear h hS hf
  have hbk : ((w.alloc (.cells #[.slice a l.length c] 28)).alloc (.cells #[.slice none 0 0] 28)).heap[w.heap.size]? = some (.cells #[.slice a l.length c] 28) := (blk_old _ _ (by simp)).trans (blk_new w _)
  have hbk2 : ((w.alloc (.cells #[.slice a l.length c] 28)).alloc (.cells #[.slice none 0 0] 28)).heap[w.heap.size + 1]? = some (.cells #[.slice none 0 0] 28) := by have := blk_new (w.alloc (.cells #[.slice a l.length c] 28)) (.cells #[.slice none 0 0] 28); simpa using this
  have HK1 := Lib.hid (cell_blk hbk 0); have HK2 := Lib.hid (cell_blk hbk2 0); have HK3 := Lib.hid (fro_blk hbk2 0)
  clear hbk hbk2
  cases hg : (valOf l).isSome
  · have HV : Hid (subOf l k = none) := by unfold Hid subOf; rw [hg]; rfl
    rw [hg] at HGV
    go_enter Tryz.func9, Tryz.ntmps9
    go_wp2_with (go_at_call 32; refine HGV.out.mono ?_; rintro e w1 ⟨rfl, hI⟩; have k0 : w1.cell? ⟨w.heap.size + 1, 0, none⟩ = some (.slice none 0 0) := (hI.cell (p := ⟨w.heap.size + 1, 0, none⟩) (by simp)).trans HK2.out; have f0 : w1.frozen? ⟨w.heap.size + 1, 0, none⟩ = false := (hI.frozen (p := ⟨w.heap.size + 1, 0, none⟩) (by simp)).trans HK3.out; have k1 : w1.cell? ⟨w.heap.size, 0, none⟩ = some (.slice a l.length c) := (hI.cell (p := ⟨w.heap.size, 0, none⟩) (by simp; omega)).trans HK1.out; have HX := Lib.hid (HB0.out.trans (hI.mono (by simp; omega))); clear hI)
    have k2 := World.cell?_setCell_same w1 ⟨w.heap.size + 1, 0, none⟩ (.slice none 0 0) k0
    refine bodyPost_ret (v := .tuple #[.agg #[.slice none 0 0], .bool false]) (by simp [results, Tryz.results9, go_sem, k2]) rfl ?_
    rw [HV.out]
    exact ⟨HX.out.setCell (p := ⟨w.heap.size + 1, 0, none⟩) (by simp) _, rfl⟩
  · rw [hg] at HGV
    have hw63 : IntKind.i64.wrap ((l.length : Int) - 1) = (l.length : Int) - 1 := by rw [IntKind.wrap_i64]; omega
    cases hw : within k 0 ((l.length : Int) - 1)
    · have HV : Hid (subOf l k = none) := by unfold Hid subOf; rw [hw, Bool.and_false]; rfl
      go_enter Tryz.func9, Tryz.ntmps9
      go_wp2_with (first | (go_at_call 32; refine HGV.out.mono ?_; rintro e w1 ⟨rfl, hI⟩; have k0 : w1.cell? ⟨w.heap.size + 1, 0, none⟩ = some (.slice none 0 0) := (hI.cell (p := ⟨w.heap.size + 1, 0, none⟩) (by simp)).trans HK2.out; have f0 : w1.frozen? ⟨w.heap.size + 1, 0, none⟩ = false := (hI.frozen (p := ⟨w.heap.size + 1, 0, none⟩) (by simp)).trans HK3.out; have k1 : w1.cell? ⟨w.heap.size, 0, none⟩ = some (.slice a l.length c) := (hI.cell (p := ⟨w.heap.size, 0, none⟩) (by simp; omega)).trans HK1.out; have HX := Lib.hid (HB0.out.trans (hI.mono (by simp; omega))); clear hI) | (go_at_call 33; refine (l1In_c _ _ _ _).mono ?_; rintro e w' ⟨rfl, rfl⟩))
      have k2 := World.cell?_setCell_same w1 ⟨w.heap.size + 1, 0, none⟩ (.slice none 0 0) k0
      refine bodyPost_ret (v := .tuple #[.agg #[.slice none 0 0], .bool false]) (by simp [results, Tryz.results9, go_sem, k2]) rfl ?_
      rw [HV.out]
      exact ⟨HX.out.setCell (p := ⟨w.heap.size + 1, 0, none⟩) (by simp) _, rfl⟩
    · have hk : 0 ≤ k ∧ k < l.length := by simp only [within, Bool.and_eq_true, decide_eq_true_eq] at hw; omega
      obtain ⟨j, rfl⟩ := Int.eq_ofNat_of_zero_le hk.1
      have hj : j < l.length := by omega
      obtain ⟨t0, ht0⟩ := Option.isSome_iff_exists.1 hg
      obtain ⟨t, e', hpv, hT, hwn, hb, hk7, hc⟩ := shape_reads (valOf_shape ht0) j hj
      have HV : Hid (subOf l (j : Int) = some t) := by unfold Hid subOf; rw [hg, hw, Int.toNat_natCast, hpv]; rfl
      have HTr := Lib.hid (fun (w1 : World) (hB : Below w.heap.size w w1) => l1Tree_c _ t l j (.slice a l.length c) w1 S (Nat.le_refl _) (by omega) hT hl (Row.frame HR.out (Below.fr hB HS.out) hB.size) (fun b hb => by have := HS.out b hb; have := hB.size; omega))
      have HWn := Lib.hid hwn
      clear hpv hT hwn hb hk7 ht0
      go_enter Tryz.func9, Tryz.ntmps9
      go_wp2_with (first | (go_at_call 32; refine HGV.out.mono ?_; rintro e w1 ⟨rfl, hI⟩; have k0 : w1.cell? ⟨w.heap.size + 1, 0, none⟩ = some (.slice none 0 0) := (hI.cell (p := ⟨w.heap.size + 1, 0, none⟩) (by simp)).trans HK2.out; have f0 : w1.frozen? ⟨w.heap.size + 1, 0, none⟩ = false := (hI.frozen (p := ⟨w.heap.size + 1, 0, none⟩) (by simp)).trans HK3.out; have k1 : w1.cell? ⟨w.heap.size, 0, none⟩ = some (.slice a l.length c) := (hI.cell (p := ⟨w.heap.size, 0, none⟩) (by simp; omega)).trans HK1.out; have HX := Lib.hid (HB0.out.trans (hI.mono (by simp; omega))); clear hI) | (go_at_call 33; refine (l1In_c _ _ _ _).mono ?_; rintro e w' ⟨rfl, rfl⟩) | (go_at_call 35; refine (HTr.out w1 HX.out).mono ?_; rintro e w2 ⟨an2, cn2, ak2, ck2, rfl, hv2, hI2⟩; have HX2 := Lib.hid (HX.out.trans (hI2.mono HX.out.size)); have k2 : w2.cell? ⟨w.heap.size + 1, 0, none⟩ = some (.slice none 0 0) := (hI2.cell (p := ⟨w.heap.size + 1, 0, none⟩) (lt_cell k0)).trans k0; have f2 : w2.frozen? ⟨w.heap.size + 1, 0, none⟩ = false := (hI2.frozen (p := ⟨w.heap.size + 1, 0, none⟩) (lt_cell k0)).trans f0; have HV2 := Lib.hid hv2; clear hv2 hI2) | (go_at_call 34; refine (l1Of_c t an2 ak2 cn2 ck2 _ _ HWn.out (by omega) (IsV.lt HV2.out) (fun b hb => hb.2)).mono ?_; rintro e w3 ⟨sv, rfl, hm, hI3⟩; obtain ⟨s1, s2, rfl⟩ := owns_form hm; have HX3 := Lib.hid (HX2.out.trans (hI3.mono HX2.out.size)); have k3 : w3.cell? ⟨w.heap.size + 1, 0, none⟩ = some (.slice none 0 0) := (hI3.cell (p := ⟨w.heap.size + 1, 0, none⟩) (lt_cell k2)).trans k2; have f3 : w3.frozen? ⟨w.heap.size + 1, 0, none⟩ = false := (hI3.frozen (p := ⟨w.heap.size + 1, 0, none⟩) (lt_cell k2)).trans f2; have HM := Lib.hid hm; have hz2 := lt_cell k2; clear hm hI3))
      have k4 := World.cell?_setCell_same w3 ⟨w.heap.size + 1, 0, none⟩ (.slice s1 (t.flat ⟨#[]⟩ (-1) 0).length s2) k3
      refine bodyPost_ret (v := .tuple #[.agg #[.slice s1 (t.flat ⟨#[]⟩ (-1) 0).length s2], .bool true]) (by simp [results, Tryz.results9, go_sem, k4]) rfl ?_
      rw [HV.out]
      exact ⟨HX3.out.setCell (p := ⟨w.heap.size + 1, 0, none⟩) (by simp) _, _, rfl, owns_base (ownsRow_setCell_below HM.out hz2 _) HX2.out.size⟩
end Go.Proofs.YtbldchemgkfdcaaGreatDoor
