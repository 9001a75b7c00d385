/- spec.PathsIn. -/
import Derived.Test.YtbldchemgkfdcaaGreatDoorPathsIn
import Derived.Test.YtbldchemgkfdcaaGreatDoorL3Paths
import Derived.Test.YtbldchemgkfdcaaGreatDoorSpecSub
namespace Go.Proofs.YtbldchemgkfdcaaGreatDoor
open Go.RowKit

theorem valOf_TR {l : List N} {t : T} (h : valOf l = some t) : TR l 0 t := by
  obtain ⟨t', hp, hT, hb, hv⟩ := shape_valOf (valOf_shape h)
  rw [h] at hv
  split at hv
  · cases hv; exact hT
  · cases hv
theorem drop_any {l : List ByteArray} {k : Nat} (h : k < l.length) : (l.drop k).any longP = (longP l[k] || (l.drop (k + 1)).any longP) := by
  rw [List.drop_eq_getElem_cons h, List.any_cons]

set_option maxRecDepth 100000 in
set_option maxHeartbeats 2000000 in
theorem specPathsIn_c (l : List N) (v : Value) (w : World) (S : Nat → Prop) (hf : Fits l) (hl : l.length ≤ 1073741824) (h : Nods w S v l) (hS : ∀ b, S b → b < w.heap.size) :
    Calls Tryz.prog 15 #[.agg #[v]] w (StrsPost w (pathsIn l)) := by
  have HB0 := Lib.hid ((Below.refl w.heap.size w).alloc (Nat.le_refl _) (.cells #[v] 28))
  have HGV := Lib.hid (goodValueS_c l v (w.alloc (.cells #[v] 28)) S hl hf.2 (Row.frame h (Below.fr HB0.out hS) HB0.out.size) (fun b hb => by have := hS b hb; simp; omega))
  obtain ⟨a, c, rfl⟩ := Row.form h
  have HR := Lib.hid h; have HS := Lib.hid hS
  have HBk := Lib.hid (blk_new w (.cells #[.slice a l.length c] 28))
  clear h hS hf
  rcases hr : valOf l with _ | t
  · have HP : Hid (pathsIn l = none) := by unfold Hid pathsIn; rw [hr]
    rw [hr] at HGV
    clear hr
    go_enter Tryz.func15, Tryz.ntmps15
    go_wp2_with fail
    refine HGV.out.mono ?_
    rintro e w1 ⟨rfl, hI⟩
    go_wp2
    go_ret2
    rw [HP.out]
    exact ⟨_, rfl, World.ownsRow_nil _ _ _ _, HB0.out.trans (hI.mono (by simp))⟩
  · have hsh := valOf_tree hr
    have hcnt : t.cnt ≤ 80 := hsh.2.2
    have HW := Lib.hid hsh.1; have HBd := Lib.hid hsh.2.1
    have hT := valOf_TR hr
    have HTr := Lib.hid (fun (w1 : World) (hB : Below w.heap.size w w1) => l1Tree_c _ t l 0 (.slice a l.length c) w1 S (Nat.le_refl _) (by omega) hT hl (Row.frame HR.out (Below.fr hB HS.out) hB.size) (fun b hb => by have := HS.out b hb; have := hB.size; omega))
    obtain ⟨ps, hps⟩ : ∃ ps, (t.paths []).map (fun x => (⟨⟨x⟩⟩ : ByteArray)) = ps := ⟨_, rfl⟩
    have HP : Hid (pathsIn l = if ps.any longP then none else some ps) := by unfold Hid pathsIn; rw [hr]; simp only; rw [hps]
    have HPs : Hid ((t.paths []).map strv = ps.map Value.string) := by unfold Hid; rw [← hps, List.map_map]; rfl
    have hpl : ps.length = t.cnt := by rw [← hps, List.length_map, T.paths_len]
    rw [hr] at HGV
    have HPl := Lib.hid hpl
    have hpl' : ps.length ≤ 80 := by omega
    clear hr hsh hps hpl hT
    obtain ⟨b, hb⟩ : ∃ b, ps.any longP = b := ⟨_, rfl⟩
    have HAny := Lib.hid hb
    rw [hb] at HP
    clear hb
    go_enter Tryz.func15, Tryz.ntmps15
    go_wp2_with fail
    refine HGV.out.mono ?_
    rintro e w1 ⟨rfl, hI⟩
    have HX := Lib.hid (HB0.out.trans (hI.mono (by simp)))
    have k0 : w1.cell? ⟨w.heap.size, 0, none⟩ = some (.slice a l.length c) := (hI.cell (p := ⟨w.heap.size, 0, none⟩) (by simp)).trans (cell_blk HBk.out 0)
    clear hI
    go_wp2_with fail
    refine (HTr.out w1 HX.out).mono ?_
    rintro e w2 ⟨an2, cn2, ak2, ck2, rfl, hv2, hI2⟩
    have HX2 := Lib.hid (HX.out.trans (hI2.mono HX.out.size))
    have HV2 := Lib.hid (IsV.lt hv2)
    clear hv2 hI2 k0
    have hl3 := l3Paths_c t.cnt t an2 ak2 cn2 ck2 w2 _ (.slice none 0 0) [] (.slice none 0 0) 0 w2.heap.size [] (Nat.le_refl _) (by omega) (by simp; omega) (by simp [l3T]; omega) HW.out HBd.out HV2.out (fun b hb => hb.2) (Nat.le_refl _) (World.ownsRow_nil _ _ _ _) (fun b hb => by simp [Value.ownBlock] at hb) (World.ownsRow_nil _ _ _ _)
    go_wp2_with fail
    refine hl3.mono ?_
    rintro e w3 ⟨out', rfl, ho, hI, _⟩
    rw [Nat.zero_add, List.nil_append, ← HPl.out, show l3T [] = [] from rfl, HPs.out] at ho
    have HM := Lib.hid (show MadeS w3 w2.heap.size out' ps from ho)
    have HX3 := Lib.hid (HX2.out.trans (hI.mono HX2.out.size))
    obtain ⟨xs, ys, rfl⟩ := owns_form ho
    have HR3 := Lib.hid HM.out.strs
    clear ho hI hl3
    go_wp2
    go_loop [15] (fun i => ∃ k : Nat, k ≤ ps.length ∧ i = .int .i64 k ∧ Hid ((ps.drop k).any longP = b)) (fun i => ps.length - (intOf i).toNat)
    case atStart => exact ⟨0, Nat.zero_le _, rfl, HAny.out⟩
    case round =>
      obtain ⟨k, hk, rfl, HA⟩ := hrel
      by_cases hlt : k < ps.length
      · obtain ⟨g, off, hak, hSg, hcell⟩ := HR3.out.at hlt
        subst hak
        have HG := Lib.hid (show ps.getD k ⟨#[]⟩ = ps[k] by simp [hlt])
        rw [HG.out] at hcell
        have HD := Lib.hid (drop_any hlt)
        cases hlg : longP ps[k]
        · have hlg' := long_false hlg
          rw [hlg, Bool.false_or] at HD
          go_wp2
          go_round
          case rel => exact ⟨k + 1, hlt, by go_num, HD.out.symm.trans HA.out⟩
          case measure => simp [intOf]; omega
        · have hlg' := long_true hlg
          rw [hlg, Bool.true_or] at HD
          go_wp2
          go_ret2
          rw [HP.out, ← HA.out, HD.out]
          exact ⟨_, rfl, World.ownsRow_nil _ _ _ _, HX3.out⟩
      · have hb : b = false := by rw [← HA.out, List.drop_of_length_le (by omega)]; rfl
        go_wp2
        go_ret2
        rw [HP.out, hb]
        exact ⟨_, rfl, owns_base HM.out HX2.out.size, HX3.out⟩
end Go.Proofs.YtbldchemgkfdcaaGreatDoor
