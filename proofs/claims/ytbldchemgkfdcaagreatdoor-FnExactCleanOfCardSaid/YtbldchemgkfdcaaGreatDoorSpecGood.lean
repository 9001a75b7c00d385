/- spec.GoodValue. -/
import Derived.Test.YtbldchemgkfdcaaGreatDoorShapeC
import Derived.Test.YtbldchemgkfdcaaGreatDoorLaw2
import Derived.Test.YtbldchemgkfdcaaGreatDoorFlat
namespace Go.Proofs.YtbldchemgkfdcaaGreatDoor
open Go.RowKit

theorem Row.lt' {w : World} {S : Nat → Prop} {sz n : Nat} {v : Value} {cs : List Value} (h : Row w S sz v n cs) : Row w (fun b => S b ∧ b < w.heap.size) sz v n cs := h.mono (fun _ hb hl => ⟨hb, hl⟩)
theorem IsV.lt {w : World} {S : Nat → Prop} {t : T} {v : List Value} (h : IsV w S t v) : IsV w (fun b => S b ∧ b < w.heap.size) t v := IsV.mono (fun _ hb hl => ⟨hb, hl⟩) h
theorem goodValueS_c (l : List N) (v : Value) (w : World) (S : Nat → Prop) (hl : l.length ≤ 1073741824) (hsz : ∀ x ∈ l, x.text.size ≤ 1099511627776 ∧ x.name.size ≤ 1099511627776) (h : Nods w S v l) (hS : ∀ b, S b → b < w.heap.size) :
    Calls Tryz.prog 32 #[.agg #[v]] w fun e w' => e = .returned (.bool (valOf l).isSome) ∧ Below w.heap.size w w' := by
  have HB0 := Lib.hid ((Below.refl w.heap.size w).alloc (Nat.le_refl _) (.cells #[v] 28))
  have HSC := Lib.hid (l1Shape_c l v (w.alloc (.cells #[v] 28)) S hl hsz (Row.frame h (Below.fr HB0.out hS) HB0.out.size) (fun b hb => by have := hS b hb; simp; omega))
  obtain ⟨a, c, rfl⟩ := Row.form h
  have HR := Lib.hid h; have HS := Lib.hid hS
  have HBk := Lib.hid (blk_new w (.cells #[.slice a l.length c] 28))
  clear h hS hsz
  cases hs : shape l
  · rw [hs] at HSC
    have HV : Hid ((valOf l).isSome = false) := by
      unfold Hid
      cases hv : valOf l with
      | none => rfl
      | some t => have := valOf_shape hv; rw [hs] at this; cases this
    go_enter Tryz.func32, Tryz.ntmps32
    go_wp2_with (go_at_call 63; refine HSC.out.mono ?_; rintro e w1 ⟨rfl, hB⟩)
    go_ret
    exact ⟨by rw [HV.out]; rfl, HB0.out.trans (hB.mono (by simp))⟩
  · rw [hs] at HSC
    obtain ⟨_, hSS, h1, h80⟩ := shape_parts hs
    obtain ⟨t, hp, hT, hb, hvo⟩ := shape_valOf hs
    have hk := hT.kok hSS
    have hc : t.cnt ≤ 80 := by have := ((pv_ok _).1 _ _ _ _ _ hp).2.2; omega
    have hv : (valOf l).isSome = decide (t.txt.length ≤ 300) := by rw [hvo]; by_cases h3 : t.txt.length ≤ 300 <;> simp [h3]
    have HV := Lib.hid hv
    clear hv hvo hp hSS
    have htl := T.txt_len t hb
    obtain ⟨ts, hts⟩ : ∃ ts : ByteArray, ts = ⟨⟨t.txt⟩⟩ := ⟨_, rfl⟩
    have htss : ts.size = t.txt.length := by rw [hts]; rfl
    have HT := Lib.hid (fun (w1 : World) (hB : Below (w.heap.size + 1) (w.alloc (.cells #[.slice a l.length c] 28)) w1) =>
      l1Text_c _ t l 0 (.slice a l.length c) w1 S (Nat.le_refl _) (by omega) hT hb hk (by omega) (Row.frame HR.out (Below.fr (HB0.out.trans (hB.mono (by omega))) HS.out) (HB0.out.trans (hB.mono (by omega))).size) (fun b hb => by have := HS.out b hb; have := (HB0.out.trans (hB.mono (Nat.le_succ _))).size; omega))
    rw [← hts] at HT
    have hlen : ts.size ≤ 10340 := by omega
    rw [← htss] at HV
    clear hts htss htl hT
    go_enter Tryz.func32, Tryz.ntmps32
    go_wp2_with (first | (go_at_call 63; refine HSC.out.mono ?_; rintro e w1 ⟨rfl, hB⟩; have HB := Lib.hid hB; have k0 : w1.cell? ⟨w.heap.size, 0, none⟩ = some (.slice a l.length c) := (hB.cell (p := ⟨w.heap.size, 0, none⟩) (by simp)).trans (cell_blk HBk.out 0); clear hB) | (go_at_call 64; refine (HT.out w1 (HB.out.mono (by simp))).mono ?_; rintro e w2 ⟨rfl, hB2⟩))
    go_ret
    refine ⟨?_, HB0.out.trans ((HB.out.trans (hB2.mono HB.out.size)).mono (by simp))⟩
    rw [HV.out]
    simp
    omega
end Go.Proofs.YtbldchemgkfdcaaGreatDoor
