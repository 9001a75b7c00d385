/- laws.FnExactPathsIn: the walk. -/
import Derived.Test.YtbldchemgkfdcaaGreatDoorLawKit
import Derived.Test.YtbldchemgkfdcaaGreatDoorPathsIn
import Derived.Test.YtbldchemgkfdcaaGreatDoorSpecPaths
namespace Go.Proofs.YtbldchemgkfdcaaGreatDoor
open Go.RowKit

theorem resPaths_len (l : List N) : ((pathsIn l).getD []).length ≤ 80 := by
  unfold pathsIn
  cases h : valOf l with
  | none => simp
  | some t =>
    simp only
    split
    · simp
    · have := (valOf_tree h).2.2
      simp [T.paths_len]; omega
theorem MadeS.kept {w w' : World} {B : Nat} {v : Value} {l : List ByteArray} {row : Option Nat} (h : MadeS w B v l) (hg : w.grownBy w' row) (hne : ∀ g, v.ownBlock = some g → row ≠ some g) : MadeS w' B v l := by
  refine World.ownsRow.kept h hg ?_
  cases hv : v.ownBlock with
  | none => exact .inl rfl
  | some g => exact .inr (fun e => hne g hv e.symm)

/-- while a law runs: the argument's box b0, the argument's copy's bx; all that the expected answer holds lies ahead of bs -/
structure PEnv (ws w : World) (b0 bs bx : Nat) (v sv0 svx : Value) (l0 : List ByteArray) : Prop where
  below : Below ws.heap.size ws w
  c0 : w.cell? ⟨b0, 0, none⟩ = some v
  cx : w.cell? ⟨bx, 0, none⟩ = some svx
  r0 : Strs w (fun b => b < bs) sv0 l0
  h0 : ws.heap.size ≤ b0
  h1 : b0 < bs
  h2 : bs ≤ bx
  h4 : bx < w.heap.size
section
variable {ws w w' : World} {b0 bs bx : Nat} {v sv0 svx : Value} {l0 : List ByteArray}
theorem PEnv.call (h : PEnv ws w b0 bs bx v sv0 svx l0) (hb : Below w.heap.size w w') : PEnv ws w' b0 bs bx v sv0 svx l0 := by
  have h1 := h.h1; have h2 := h.h2; have h4 := h.h4; have h5 := hb.size
  exact ⟨h.below.trans (hb.mono h.below.size), (hb.cell (p := ⟨b0, 0, none⟩) (by simp; omega)).trans h.c0, (hb.cell (p := ⟨bx, 0, none⟩) (by simp; omega)).trans h.cx,
    Row.call h.r0 hb, h.h0, h1, h2, by omega⟩
theorem PEnv.mark (h : PEnv ws w b0 bs bx v sv0 svx l0) {row : Option Nat} (hg : w.grownBy w' row) (hr : ∀ g, row = some g → bs ≤ g ∧ g ≠ bx) : PEnv ws w' b0 bs bx v sv0 svx l0 := by
  have h0 := h.h0; have h1 := h.h1; have h2 := h.h2; have h4 := h.h4; have h5 := hg.size
  have hk : ∀ k, k < bs ∨ k = bx → some k ≠ row := fun k hk e => by have := hr k e.symm; omega
  exact ⟨h.below.grown hg h.below.size (fun k hk => by have := hr k hk; omega), hg.cell h.c0 (hk _ (.inl (by simp; omega))), hg.cell h.cx (hk _ (.inr rfl)),
    Row.frame h.r0 (fun b hb hlt => hg.block b hlt (hk b (.inl hb))) h5, h0, h1, h2, by omega⟩
end

set_option maxRecDepth 100000 in
set_option maxHeartbeats 2000000 in
theorem fnPaths_c (l : List N) (v : Value) (w : World) (S : Nat → Prop) (B : Nat) (hl : l.length ≤ 140737488355328) (hsz : ∀ x ∈ l, x.text.size ≤ 140737488355328 ∧ x.name.size ≤ 140737488355328) (h : Nods w S v l) (hS : ∀ b, S b → b < w.heap.size) (hB : B ≤ w.heap.size) (ht : Tb B w) :
    Calls Tryz.prog 4 #[.agg #[v]] w fun e w' => e = .returned (.bool true) ∧ Below w.heap.size w w' := by
  have HB0 := Lib.hid ((Below.refl w.heap.size w).alloc (Nat.le_refl _) (.cells #[v] 24))
  have hf0 := Row.form h
  have HR := Lib.hid h; have HS := Lib.hid hS
  have HSz := Lib.hid (szValue_c l v 1048576 (w.alloc (.cells #[v] 24)) S (by omega) (by omega) hl hsz (Row.frame h (Below.fr HB0.out hS) HB0.out.size) (fun b hb => by have := hS b hb; simp; omega))
  have HTo := Lib.hid (fun (w1 : World) (hb : Below w.heap.size w w1) (hl : l.length ≤ 1073741824) => toValue_c l v w1 S hl (Row.frame h (Below.fr hb hS) hb.size) (fun b hb' => by have := hS b hb'; have := hb.size; omega))
  have hcb : ∀ w1 : World, Below (w.heap.size + 1) (w.alloc (.cells #[v] 24)) w1 → w1.cell? ⟨w.heap.size, 0, none⟩ = some v := fun w1 hb => (hb.cell (p := ⟨w.heap.size, 0, none⟩) (by simp)).trans (cell_blk (blk_new w _) 0)
  have HCB := Lib.hid hcb
  obtain ⟨a0, q0, rfl⟩ := hf0
  clear h hS hcb
  by_cases hneg : szNs l 1048576 < 0
  · rw [if_pos hneg] at HSz
    have HN := Lib.hid hneg
    clear hneg hsz
    go_enter Tryz.func4, Tryz.ntmps4
    go_wp2_with fail
    refine HSz.out.mono ?_
    rintro e w1 ⟨rfl, hI⟩
    go_wp2
    go_ret
    exact ⟨rfl, HB0.out.trans (hI.mono (by simp))⟩
  · rw [if_neg hneg] at HSz
    obtain ⟨hl1, hsz1⟩ := szNs_bounds l 1048576 hneg
    obtain ⟨z, hz⟩ : ∃ z, szNs l 1048576 = z := ⟨_, rfl⟩
    rw [hz] at HSz hneg
    have hzd : decide (z < 0) = false := by simpa using hneg
    have HF : Hid (Fits l) := ⟨by omega, fun x hx => by have := hsz1 x hx; omega⟩
    have hrl := resPaths_len l
    obtain ⟨r, hr⟩ : ∃ r, pathsIn l = r := ⟨_, rfl⟩
    rw [hr] at hrl
    have HSpec := Lib.hid (fun (w1 : World) (sv : Value) (B1 : Nat) (hm : Made w1 B1 sv l) => by have := specPathsIn_c l sv w1 _ HF.out (by omega) hm.nods (fun b hb => hb.2); unfold StrsPost at this; rw [hr] at this; exact this)
    have HImpl := Lib.hid (fun (w1 : World) (sv : Value) (B1 : Nat) (hm : Made w1 B1 sv l) (hb : Below w.heap.size w w1) => by have := implPathsIn_c l sv w1 _ B HF.out hm.nods (fun b hb => hb.2) (Nat.le_trans hB hb.size) (ht.on (hb.mono hB)); unfold StrsPost at this; rw [hr] at this; exact this)
    obtain ⟨bo, hbo⟩ : ∃ b, r.isSome = b := ⟨_, rfl⟩
    obtain ⟨lr, hlr⟩ : ∃ x, r.getD [] = x := ⟨_, rfl⟩
    rw [hlr] at hrl HSpec HImpl
    rw [hbo] at HSpec HImpl
    clear hsz1 hsz hz hneg hr hbo hlr
    go_enter Tryz.func4, Tryz.ntmps4
    go_wp2_with fail
    refine HSz.out.mono ?_
    rintro e w1 ⟨rfl, hI⟩
    have HX := Lib.hid (HB0.out.trans (hI.mono (by simp)))
    have c1 := HCB.out w1 (hI.mono (by simp))
    have HC := Lib.hid (hI.mono (show w.heap.size + 1 ≤ (w.alloc (.cells #[.slice a0 l.length q0] 24)).heap.size by simp))
    clear hI
    go_wp2_with fail
    refine (HTo.out w1 HX.out (by omega)).mono ?_
    rintro e w2 ⟨sva, rfl, hm, hI⟩
    have HMa := Lib.hid hm
    have HX2 := Lib.hid (HX.out.trans (hI.mono HX.out.size))
    have HC2 := Lib.hid (HC.out.trans (hI.mono (by have := HC.out.size; simpa using this)))
    obtain ⟨xa, ya, rfl⟩ := owns_form hm
    clear hm hI c1
    go_wp2_with fail
    refine (HSpec.out w2 _ _ HMa.out).mono ?_
    rintro e w3 ⟨sv0, rfl, hm, hI⟩
    have HX3 := Lib.hid (HX2.out.trans (hI.mono HX2.out.size))
    have HC3 := Lib.hid (HC2.out.trans (hI.mono (by have := HC2.out.size; simpa using this)))
    have HM0 := Lib.hid hm.strs
    obtain ⟨xs0, ys0, rfl⟩ := owns_form hm
    have hz3 : w.heap.size + 1 ≤ w3.heap.size := by have := HC3.out.size; simpa using this
    have c3 := HCB.out _ HC3.out
    clear hm hI HMa
    go_wp2_with fail
    refine (HTo.out _ HX3.out (by omega)).mono ?_
    rintro e w4 ⟨svx, rfl, hm, hI⟩
    have hz4 : w3.heap.size ≤ w4.heap.size := hI.size
    have HX4 := Lib.hid (HX3.out.trans (hI.mono HX3.out.size))
    have HC4 := Lib.hid (HC3.out.trans (hI.mono (by omega)))
    have HM04 := Lib.hid (Row.call HM0.out hI)
    have HMx := Lib.hid hm
    obtain ⟨xsx, ysx, rfl⟩ := owns_form hm
    have HA4 := Lib.hid ((Below.refl w4.heap.size w4).alloc (Nat.le_refl _) (.cells #[.slice xsx l.length ysx] 28))
    have hx4 : (w4.alloc (.cells #[.slice xsx l.length ysx] 28)).cell? ⟨w4.heap.size, 0, none⟩ = some (.slice xsx l.length ysx) := cell_blk (blk_new w4 _) 0
    have HE4 : Hid (PEnv w (w4.alloc (.cells #[.slice xsx l.length ysx] 28)) w.heap.size w3.heap.size w4.heap.size (.slice a0 l.length q0) (.slice xs0 lr.length ys0) (.slice xsx l.length ysx) lr) :=
      ⟨HX4.out.alloc HX4.out.size _, HCB.out _ (HC4.out.alloc (by omega) _), hx4, (Row.call HM04.out HA4.out).mono (fun b hb _ => hb.2), Nat.le_refl _, by omega, hz4, by simp⟩
    clear hm hI c3 hx4
    go_wp2_with fail
    refine (HImpl.out _ _ _ (HMx.out.call HA4.out) HE4.out.below).mono ?_
    rintro e w5 ⟨svg, rfl, hm, hI⟩
    have HMg := Lib.hid hm
    obtain ⟨xsg, ysg, rfl⟩ := owns_form hm
    have HE := Lib.hid (HE4.out.call hI)
    have HMx5 := Lib.hid ((HMx.out.call HA4.out).call hI)
    have HOx := Lib.hid (HMx.out.lt); have HOg := Lib.hid (World.ownsRow.lt HMg.out)
    have hz5 : w4.heap.size + 1 ≤ w5.heap.size := by have := hI.size; simpa using this
    clear hm hI HMx HM04 HA4 HC4 HX4 HX3 HC3 HX2 HC2 HX HC HM0 HE4
    go_wp2_with fail
    refine (eqStringS_c lr _ _ _ _ _ (by omega) HMg.out.strs HE.out.r0).mono ?_
    rintro e w6 ⟨rfl, hI⟩
    have HE6 := Lib.hid (HE.out.call hI)
    have HMx6 := Lib.hid (HMx5.out.call hI); have HMg6 := Lib.hid (HMg.out.call hI)
    clear hI HE HMx5 HMg
    have c0 := HE6.out.c0; have c2 := HE6.out.cx
    have hb6 := HE6.out.h4
    go_wp2_with fail
    have h06 : w.heap.size < w6.heap.size := by have := HE6.out.h1; have := HE6.out.h2; omega
    have HT7 := Lib.hid (HTo.out w6.drew HE6.out.below.drew (by omega))
    have HMx6' := Lib.hid ((HMx6.out.call (Below.refl _ _).drew).nods)
    go_region_held3 (fun w' => w'.cell? ⟨w4.heap.size, 0, none⟩ = some (.slice xsx l.length ysx) ∧ w'.cell? ⟨w.heap.size, 0, none⟩ = some (.slice a0 l.length q0))
      (first | go_keep | exact ⟨(hT7.cell (p := ⟨w4.heap.size, 0, none⟩) hb6).trans c2, (hT7.cell (p := ⟨w.heap.size, 0, none⟩) h06).trans c0⟩ | exact ⟨((hT7.trans (hE7.mono hT7.size)).cell (p := ⟨w4.heap.size, 0, none⟩) hb6).trans c2, ((hT7.trans (hE7.mono hT7.size)).cell (p := ⟨w.heap.size, 0, none⟩) h06).trans c0⟩)
      ((first | (go_at_call 10; refine HT7.out.mono ?_; rintro e w7 ⟨svt, rfl, hmt, hT7⟩) | (go_at_call 12; refine (eqValue_c l _ _ _ _ _ (by omega) (Row.call HMx6'.out hT7) hmt.nods).mono ?_; rintro e w8 ⟨rfl, hE7⟩)))
    have HI8 := Lib.hid (show Below w6.heap.size w6 w8 from (Below.refl _ _).drew.trans ((show Below w6.heap.size w6.drew w7 from hT7).trans (hE7.mono hT7.size)))
    have HE8 := Lib.hid (HE6.out.call HI8.out)
    have HMx8 := Lib.hid (HMx6.out.call HI8.out); have HMg8 := Lib.hid (HMg6.out.call HI8.out)
    obtain ⟨K1, hK1⟩ : ∃ K, 1 + l.length * 5 = K := ⟨_, rfl⟩
    obtain ⟨K2, hK2⟩ : ∃ K, 1 + lr.length = K := ⟨_, rfl⟩
    have HMk1 := Lib.hid (markValue_c l _ _ 1 w8 (by omega) (by omega) HMx8.out)
    rw [hK1] at HMk1
    have hK1n : decide ((K1 : Int) < 0) = false := by simp
    have hK2n : decide ((K2 : Int) < 0) = false := by simp
    clear hT7 hE7 hmt c0 c2 HE6 HMx6 HMg6 HT7 HMx6' HI8 hK1
    have c2 := HE8.out.cx
    go_wp2_with fail
    refine HMk1.out.mono ?_
    rintro e w9 ⟨rfl, _, hG⟩
    have HE9 := Lib.hid (HE8.out.mark hG (fun g hg => by have := HOx.out g hg; omega))
    have HMg9 := Lib.hid (HMg8.out.kept hG (fun g hg e => by have h1 := HOx.out g e; have h2 := HOg.out g hg; simp at h2; omega))
    clear hG c2 HE8 HMg8 HMx8 HMk1
    go_wp2_with fail
    refine (eqStringS_c lr _ _ _ _ _ (by omega) HMg9.out.strs HE9.out.r0).mono ?_
    rintro e w10 ⟨rfl, hI⟩
    have HE10 := Lib.hid (HE9.out.call hI)
    have HMg10 := Lib.hid (HMg9.out.call hI)
    have HMk2 := Lib.hid (markStrs_c lr _ _ 1 w10 (by omega) (by omega) HMg10.out)
    rw [hK2] at HMk2
    clear hI HE9 HMg9 HMg10
    go_wp2_with fail
    refine HMk2.out.mono ?_
    rintro e w11 ⟨rfl, hMk, hG⟩
    have HE11 := Lib.hid (HE10.out.mark hG (fun g hg => by have h2 := HOg.out g hg; simp at h2; omega))
    have HHd := Lib.hid (fun (w' : World) (hb : Below w11.heap.size w11 w') => by have := heldStrs_c lr.length _ _ 1 w' (by omega) (by omega) (hMk.below hb); rw [hK2] at this; exact this)
    clear hG hMk HE10 HMk2
    go_wp2_with fail
    refine (HHd.out _ (Below.refl _ _)).mono ?_
    rintro e w12 ⟨rfl, hI⟩
    have HE12 := Lib.hid (HE11.out.call hI)
    have HI12 := Lib.hid hI
    clear hI
    have c0 := HE12.out.c0
    go_wp2_with fail
    refine (HTo.out w12 HE12.out.below (by omega)).mono ?_
    rintro e w13 ⟨svy, rfl, hm, hI⟩
    have HE13 := Lib.hid (HE12.out.call hI)
    have HI13 := Lib.hid (HI12.out.trans (hI.mono HI12.out.size))
    have HMy := Lib.hid hm
    obtain ⟨xsy, ysy, rfl⟩ := owns_form hm
    clear hI hm c0 HE12 HI12
    go_wp2_with fail
    refine (HImpl.out w13 _ _ HMy.out HE13.out.below).mono ?_
    rintro e w14 ⟨svh, rfl, hm, hI⟩
    have HE14 := Lib.hid (HE13.out.call hI)
    have HI14 := Lib.hid (HI13.out.trans (hI.mono HI13.out.size))
    have HMh := Lib.hid hm
    obtain ⟨xsh, ysh, rfl⟩ := owns_form hm
    clear hI hm HE13 HI13 HMy
    go_wp2_with fail
    refine (eqStringS_c lr _ _ _ _ _ (by omega) HMh.out.strs HE14.out.r0).mono ?_
    rintro e w15 ⟨rfl, hI⟩
    have HE15 := Lib.hid (HE14.out.call hI)
    have HI15 := Lib.hid (HI14.out.trans (hI.mono HI14.out.size))
    clear hI HE14 HI14 HMh
    go_wp2_with fail
    refine (HHd.out _ HI15.out).mono ?_
    rintro e w16 ⟨rfl, hI⟩
    have HX := Lib.hid (HE15.out.below.trans (hI.mono HE15.out.below.size))
    clear hI HE15 HI15
    go_wp2
    go_ret
    exact ⟨rfl, HX.out⟩
end Go.Proofs.YtbldchemgkfdcaaGreatDoor
