/- laws.FnExactCleanOf: the walk. -/
import Derived.Test.YtbldchemgkfdcaaGreatDoorLawKit
import Derived.Test.YtbldchemgkfdcaaGreatDoorCleanOf
import Derived.Test.YtbldchemgkfdcaaGreatDoorSpecCleanOf
namespace Go.Proofs.YtbldchemgkfdcaaGreatDoor
open Go.RowKit

theorem resClean_len (l : List N) : (resL (cleanOf l)).length ≤ 1048576 := by
  unfold resL cleanOf
  cases h : valOf l with
  | none => simp
  | some t =>
    have h1 := (valOf_tree h).2.2
    have h2 := t.clean_cnt
    simp only [Option.map_some, T.flat_len]; omega

set_option maxRecDepth 100000 in
set_option maxHeartbeats 2000000 in
theorem fnClean_c (l : List N) (v : Value) (w : World) (S : Nat → Prop) (B : Nat) (hl : l.length ≤ 140737488355328) (hsz : ∀ x ∈ l, x.text.size ≤ 140737488355328 ∧ x.name.size ≤ 140737488355328) (h : Nods w S v l) (hS : ∀ b, S b → b < w.heap.size) (hB : B ≤ w.heap.size) (ht : Tb B w) :
    Calls Tryz.prog 5 #[.agg #[v]] w fun e w' => e = .returned (.bool true) ∧ Below w.heap.size w w' := by
  have HB0 := Lib.hid ((Below.refl w.heap.size w).alloc (Nat.le_refl _) (.cells #[v] 24))
  have hf0 := Row.form h
  have HR := Lib.hid h; have HS := Lib.hid hS
  have HSz := Lib.hid (szValue_c l v 1048576 (w.alloc (.cells #[v] 24)) S (by omega) (by omega) hl hsz (Row.frame h (Below.fr HB0.out hS) HB0.out.size) (fun b hb => by have := hS b hb; simp; omega))
  have HTo := Lib.hid (fun (w1 : World) (hb : Below w.heap.size w w1) (hl : l.length ≤ 1073741824) => toValue_c l v w1 S hl (Row.frame h (Below.fr hb hS) hb.size) (fun b hb' => by have := hS b hb'; have := hb.size; omega))
  have hcb : ∀ w1 : World, Below (w.heap.size + 1) (w.alloc (.cells #[v] 24)) w1 → w1.cell? ⟨w.heap.size, 0, none⟩ = some v := fun w1 hb => (hb.cell (p := ⟨w.heap.size, 0, none⟩) (by simp)).trans (cell_blk (blk_new w _) 0)
  have HCB := Lib.hid hcb
  obtain ⟨a0, q0, rfl⟩ := hf0
  clear h hS hcb
  by_cases hneg : szNs l 1048576 < 0
  · rw [if_pos hneg] at HSz
    have HN := Lib.hid hneg
    clear hneg hsz
    go_enter Tryz.func5, Tryz.ntmps5
    go_wp2_with fail
    refine HSz.out.mono ?_
    rintro e w1 ⟨rfl, hI⟩
    go_wp2
    go_ret
    exact ⟨rfl, HB0.out.trans (hI.mono (by simp))⟩
  · rw [if_neg hneg] at HSz
    obtain ⟨hl1, hsz1⟩ := szNs_bounds l 1048576 hneg
    obtain ⟨z, hz⟩ : ∃ z, szNs l 1048576 = z := ⟨_, rfl⟩
    rw [hz] at HSz hneg
    have hzd : decide (z < 0) = false := by simpa using hneg
    have HF : Hid (Fits l) := ⟨by omega, fun x hx => by have := hsz1 x hx; omega⟩
    have hrl := resClean_len l
    obtain ⟨r, hr⟩ : ∃ r, cleanOf l = r := ⟨_, rfl⟩
    rw [hr] at hrl
    have HSpec := Lib.hid (fun (w1 : World) (sv : Value) (B1 : Nat) (hm : Made w1 B1 sv l) => by have := (specCleanOf_c l sv w1 _ HF.out (by omega) hm.nods (fun b hb => hb.2)).mono (fun e w' (hp : ToldPost w1 (cleanOf l) e w') => hp.uni); rw [hr] at this; exact this)
    have HImpl := Lib.hid (fun (w1 : World) (sv : Value) (B1 : Nat) (hm : Made w1 B1 sv l) (hb : Below w.heap.size w w1) => by have := (implCleanOf_c l sv w1 _ B HF.out hm.nods (fun b hb => hb.2) (Nat.le_trans hB hb.size) (ht.on (hb.mono hB))).mono (fun e w' (hp : ToldPost w1 (cleanOf l) e w') => hp.uni); rw [hr] at this; exact this)
    obtain ⟨bo, hbo⟩ : ∃ b, r.isSome = b := ⟨_, rfl⟩
    obtain ⟨lr, hlr⟩ : ∃ x, resL r = x := ⟨_, rfl⟩
    rw [hlr] at hrl HSpec HImpl
    rw [hbo] at HSpec HImpl
    clear hsz1 hsz hz hneg hr hbo hlr
    go_enter Tryz.func5, Tryz.ntmps5
    go_wp2_with fail
    refine HSz.out.mono ?_
    rintro e w1 ⟨rfl, hI⟩
    have HX := Lib.hid (HB0.out.trans (hI.mono (by simp)))
    have c1 := HCB.out w1 (hI.mono (by simp))
    have HC := Lib.hid (hI.mono (show w.heap.size + 1 ≤ (w.alloc (.cells #[.slice a0 l.length q0] 24)).heap.size by simp))
    clear hI
    go_wp2_with fail
    refine (HTo.out w1 HX.out (by omega)).mono ?_
    rintro e w2 ⟨sva, rfl, hm, hI⟩
    have HMa := Lib.hid hm
    have HX2 := Lib.hid (HX.out.trans (hI.mono HX.out.size))
    have HC2 := Lib.hid (HC.out.trans (hI.mono (by have := HC.out.size; simpa using this)))
    obtain ⟨xa, ya, rfl⟩ := owns_form hm
    clear hm hI c1
    go_wp2_with fail
    refine (HSpec.out w2 _ _ HMa.out).mono ?_
    rintro e w3 ⟨sv0, rfl, hm, hI⟩
    have HX3 := Lib.hid (HX2.out.trans (hI.mono HX2.out.size))
    have HC3 := Lib.hid (HC2.out.trans (hI.mono (by have := HC2.out.size; simpa using this)))
    have HM0 := Lib.hid hm
    obtain ⟨xs0, ys0, rfl⟩ := owns_form hm
    have hz3 : w.heap.size + 1 ≤ w3.heap.size := by have := HC3.out.size; simpa using this
    have c3 := HCB.out _ (HC3.out.alloc hz3 (.cells #[.slice xs0 lr.length ys0] 28))
    have HX3' := Lib.hid (HX3.out.alloc HX3.out.size (.cells #[.slice xs0 lr.length ys0] 28))
    have HC3' := Lib.hid (HC3.out.alloc hz3 (.cells #[.slice xs0 lr.length ys0] 28))
    have HM0' := Lib.hid (Row.call hm.nods ((Below.refl _ _).alloc (Nat.le_refl _) (.cells #[.slice xs0 lr.length ys0] 28)))
    have hw3 : (w3.alloc (.cells #[.slice xs0 lr.length ys0] 28)).cell? ⟨w3.heap.size, 0, none⟩ = some (.slice xs0 lr.length ys0) := cell_blk (blk_new w3 _) 0
    have HW3 := Lib.hid hw3
    clear hm hI HMa HM0 hw3
    go_wp2_with fail
    refine (HTo.out _ HX3'.out (by omega)).mono ?_
    rintro e w4 ⟨svx, rfl, hm, hI⟩
    have hz4 : w3.heap.size + 1 ≤ w4.heap.size := by have := hI.size; simpa using this
    have HX4 := Lib.hid (HX3'.out.trans (hI.mono (by simp; omega)))
    have HC4 := Lib.hid (HC3'.out.trans (hI.mono (by simp; omega)))
    have HM04 := Lib.hid (Row.call HM0'.out hI)
    have HW4 := Lib.hid ((hI.cell (p := ⟨w3.heap.size, 0, none⟩) (by simp)).trans HW3.out)
    have HMx := Lib.hid hm
    obtain ⟨xsx, ysx, rfl⟩ := owns_form hm
    have HA4 := Lib.hid ((Below.refl w4.heap.size w4).alloc (Nat.le_refl _) (.cells #[.slice xsx l.length ysx] 28))
    have hx4 : (w4.alloc (.cells #[.slice xsx l.length ysx] 28)).cell? ⟨w4.heap.size, 0, none⟩ = some (.slice xsx l.length ysx) := cell_blk (blk_new w4 _) 0
    have HX4' := Lib.hid hx4
    clear hm hI c3 HX3' HC3' HM0' hx4
    go_wp2_with fail
    refine (HImpl.out _ _ _ (HMx.out.call HA4.out) (HX4.out.alloc HX4.out.size _)).mono ?_
    rintro e w5 ⟨svg, rfl, hm, hI⟩
    have hz5 : w4.heap.size + 1 ≤ w5.heap.size := by have := hI.size; simpa using this
    have HMg := Lib.hid hm
    obtain ⟨xsg, ysg, rfl⟩ := owns_form hm
    have hA5 := (Below.refl w5.heap.size w5).alloc (Nat.le_refl _) (.cells #[.slice xsg lr.length ysg] 28)
    have hI5 := hI.trans (hA5.mono hI.size)
    have HE : Hid (LEnv w (w5.alloc (.cells #[.slice xsg lr.length ysg] 28)) w.heap.size w3.heap.size w4.heap.size w5.heap.size (.slice a0 l.length q0) (.slice xs0 lr.length ys0) (.slice xsx l.length ysx) (.slice xsg lr.length ysg) lr) :=
      ⟨((HX4.out.alloc HX4.out.size _).trans (hI5.mono (by have := HX4.out.size; simp; omega))), HCB.out _ ((HC4.out.alloc (by omega) _).trans (hI5.mono (by simp; omega))),
        (hI5.cell (p := ⟨w3.heap.size, 0, none⟩) (by simp; omega)).trans ((HA4.out.cell (p := ⟨w3.heap.size, 0, none⟩) (by simp; omega)).trans HW4.out), (hI5.cell (p := ⟨w4.heap.size, 0, none⟩) (by simp)).trans HX4'.out, cell_blk (blk_new w5 _) 0,
        (Row.call (Row.call HM04.out HA4.out) hI5).mono (fun b hb _ => hb.2), Nat.le_refl _, by omega, by omega, by omega, by simp⟩
    have HMx5 := Lib.hid (((HMx.out.call HA4.out).call hI5))
    have HMg5 := Lib.hid (HMg.out.call hA5)
    have HOx := Lib.hid (HMx.out.lt); have HOg := Lib.hid (HMg.out.lt)
    clear hm hI hA5 hI5 HMx HMg HM04 HX4' HA4 HW4 HC4 HX4 HX3 HC3 HX2 HC2 HX HC HW3
    have c0 := HE.out.c0; have c1 := HE.out.cw; have c2 := HE.out.cx; have c3 := HE.out.cg
    go_wp2_with fail
    refine (eqValue_c lr _ _ _ _ _ (by omega) HMg5.out.nods HE.out.r0).mono ?_
    rintro e w6 ⟨rfl, hI⟩
    have HE6 := Lib.hid (HE.out.call hI)
    have HMx6 := Lib.hid (HMx5.out.call hI); have HMg6 := Lib.hid (HMg5.out.call hI)
    clear hI c0 c1 c2 c3 HE HMx5 HMg5
    have c0 := HE6.out.c0; have c2 := HE6.out.cx
    have hb6 := HE6.out.h4
    go_wp2_with fail
    have hx6 : w4.heap.size < w6.heap.size := by have := HE6.out.h3; omega
    have h06 : w.heap.size < w6.heap.size := by have := HE6.out.h1; have := HE6.out.h2; omega
    have HT7 := Lib.hid (HTo.out w6.drew HE6.out.below.drew (by omega))
    have HMx6' := Lib.hid ((HMx6.out.call (Below.refl _ _).drew).nods)
    go_region_held3 (fun w' => w'.cell? ⟨w4.heap.size, 0, none⟩ = some (.slice xsx l.length ysx) ∧ w'.cell? ⟨w.heap.size, 0, none⟩ = some (.slice a0 l.length q0))
      (first | go_keep | exact ⟨(hT7.cell (p := ⟨w4.heap.size, 0, none⟩) hx6).trans c2, (hT7.cell (p := ⟨w.heap.size, 0, none⟩) h06).trans c0⟩ | exact ⟨((hT7.trans (hE7.mono hT7.size)).cell (p := ⟨w4.heap.size, 0, none⟩) hx6).trans c2, ((hT7.trans (hE7.mono hT7.size)).cell (p := ⟨w.heap.size, 0, none⟩) h06).trans c0⟩)
      ((first | (go_at_call 10; refine HT7.out.mono ?_; rintro e w7 ⟨svt, rfl, hmt, hT7⟩) | (go_at_call 12; refine (eqValue_c l _ _ _ _ _ (by omega) (Row.call HMx6'.out hT7) hmt.nods).mono ?_; rintro e w8 ⟨rfl, hE7⟩)))
    have HI8 := Lib.hid (show Below w6.heap.size w6 w8 from (Below.refl _ _).drew.trans ((show Below w6.heap.size w6.drew w7 from hT7).trans (hE7.mono hT7.size)))
    have HE8 := Lib.hid (HE6.out.call HI8.out)
    have HMx8 := Lib.hid (HMx6.out.call HI8.out); have HMg8 := Lib.hid (HMg6.out.call HI8.out)
    obtain ⟨K1, hK1⟩ : ∃ K, 1 + l.length * 5 = K := ⟨_, rfl⟩
    obtain ⟨K2, hK2⟩ : ∃ K, 1 + lr.length * 5 = K := ⟨_, rfl⟩
    have HMk1 := Lib.hid (markValue_c l _ _ 1 w8 (by omega) (by omega) HMx8.out)
    rw [hK1] at HMk1
    have hK1n : decide ((K1 : Int) < 0) = false := by simp
    have hK2n : decide ((K2 : Int) < 0) = false := by simp
    clear hT7 hE7 hmt c0 c2 HE6 HMx6 HMg6 HT7 HMx6' HI8 hK1
    have c0 := HE8.out.c0; have c2 := HE8.out.cx
    go_wp2_with fail
    refine HMk1.out.mono ?_
    rintro e w9 ⟨rfl, _, hG⟩
    have HE9 := Lib.hid (HE8.out.mark hG (fun g hg => by have := HOx.out g hg; simp at this; omega))
    have HMg9 := Lib.hid (HMg8.out.kept hG (fun g hg e => by have h1 := HOx.out g e; have h2 := HOg.out g hg; simp at h1 h2; omega))
    clear hG c0 c2 HE8 HMg8 HMx8 HMk1
    have c1 := HE9.out.cw; have c3 := HE9.out.cg
    go_wp2_with fail
    refine (eqValue_c lr _ _ _ _ _ (by omega) HMg9.out.nods HE9.out.r0).mono ?_
    rintro e w10 ⟨rfl, hI⟩
    have HE10 := Lib.hid (HE9.out.call hI)
    have HMg10 := Lib.hid (HMg9.out.call hI)
    have HMk2 := Lib.hid (markValue_c lr _ _ 1 w10 (by omega) (by omega) HMg10.out)
    rw [hK2] at HMk2
    clear hI c1 c3 HE9 HMg9 HMg10
    have c3 := HE10.out.cg
    go_wp2_with fail
    refine HMk2.out.mono ?_
    rintro e w11 ⟨rfl, hMk, hG⟩
    have HE11 := Lib.hid (HE10.out.mark hG (fun g hg => by have h2 := HOg.out g hg; simp at h2; omega))
    have HMk11 := Lib.hid hMk
    have HHd := Lib.hid (fun (w' : World) (hb : Below w11.heap.size w11 w') => by have := heldValue_c lr.length _ _ 1 w' (by omega) (by omega) (hMk.below hb); rw [hK2] at this; exact this)
    clear hG hMk c3 HE10 HMk2
    have c3 := HE11.out.cg
    go_wp2_with fail
    refine (HHd.out _ (Below.refl _ _)).mono ?_
    rintro e w12 ⟨rfl, hI⟩
    have HE12 := Lib.hid (HE11.out.call hI)
    have HI12 := Lib.hid hI
    clear hI c3
    have c0 := HE12.out.c0
    go_wp2_with fail
    refine (HTo.out w12 HE12.out.below (by omega)).mono ?_
    rintro e w13 ⟨svy, rfl, hm, hI⟩
    have HE13 := Lib.hid (HE12.out.call hI)
    have HI13 := Lib.hid (HI12.out.trans (hI.mono HI12.out.size))
    have HMy := Lib.hid hm
    obtain ⟨xsy, ysy, rfl⟩ := owns_form hm
    clear hI hm c0 HE12 HI12
    go_wp2_with fail
    refine (HImpl.out w13 _ _ HMy.out HE13.out.below).mono ?_
    rintro e w14 ⟨svh, rfl, hm, hI⟩
    have hA := (Below.refl w14.heap.size w14).alloc (Nat.le_refl _) (.cells #[svh] 28)
    have hIA := hI.trans (hA.mono hI.size)
    have HE14 := Lib.hid (HE13.out.call hIA)
    have HI14 := Lib.hid (HI13.out.trans (hIA.mono HI13.out.size))
    have HMh := Lib.hid (hm.call hA)
    obtain ⟨xsh, ysh, rfl⟩ := owns_form hm
    have c1 := HE14.out.cw
    have c4 : (w14.alloc (.cells #[.slice xsh lr.length ysh] 28)).cell? ⟨w14.heap.size, 0, none⟩ = some (.slice xsh lr.length ysh) := cell_blk (blk_new w14 _) 0
    clear hI hm hA hIA HE13 HI13 HMy
    go_wp2_with fail
    refine (eqValue_c lr _ _ _ _ _ (by omega) HMh.out.nods HE14.out.r0).mono ?_
    rintro e w15 ⟨rfl, hI⟩
    have HE15 := Lib.hid (HE14.out.call hI)
    have HI15 := Lib.hid (HI14.out.trans (hI.mono HI14.out.size))
    clear hI c1 c4 HE14 HI14 HMh
    have c3 := HE15.out.cg
    go_wp2_with fail
    refine (HHd.out _ HI15.out).mono ?_
    rintro e w16 ⟨rfl, hI⟩
    have HX := Lib.hid (HE15.out.below.trans (hI.mono HE15.out.below.size))
    clear hI c3 HE15 HI15
    go_wp2
    go_ret
    exact ⟨rfl, HX.out⟩
end Go.Proofs.YtbldchemgkfdcaaGreatDoor
