/- impl.valOf, GoodValue, value, told. -/
import Derived.Test.YtbldchemgkfdcaaGreatDoorGood
namespace Go.Proofs.YtbldchemgkfdcaaGreatDoor
open Go.RowKit

def VOPost (w : World) (r : Option T) (e : Ending) (w' : World) : Prop :=
  Below w.heap.size w w' ∧ match r with
  | none => e = .returned (.pointer none)
  | some t => ∃ v, e = .returned v ∧ IsVal w' (fun b => w.heap.size ≤ b) t v

def Fits (l : List N) : Prop := l.length ≤ 1099511627776 ∧ ∀ x ∈ l, x.text.size ≤ 1099511627776 ∧ x.name.size ≤ 1099511627776

theorem Row.len {w : World} {S : Nat → Prop} {sz n : Nat} {v : Value} {cs : List Value} (h : Row w S sz v n cs) : cs.length = n * sz := h.1
theorem Row.call {w w' : World} {S : Nat → Prop} {sz n : Nat} {v : Value} {cs : List Value} (h : Row w S sz v n cs) (hb : Below w.heap.size w w') : Row w' S sz v n cs := h.frame (fun b _ hlt => hb.block b hlt) hb.size
theorem IsVal.call {w w' : World} {S : Nat → Prop} {t : T} {v : Value} (h : IsVal w S t v) (hb : Below w.heap.size w w') : IsVal w' S t v := h.frame (fun b _ hlt => hb.block b hlt) hb.size
theorem IsVal.lt {w : World} {S : Nat → Prop} {t : T} {v : Value} (h : IsVal w S t v) : IsVal w (fun b => S b ∧ b < w.heap.size) t v := h.mono (fun _ h1 h2 => ⟨h1, h2⟩)

set_option maxRecDepth 100000 in
set_option maxHeartbeats 2000000 in
theorem valOf_c (l : List N) (v : Value) (w : World) (S : Nat → Prop) (B : Nat) (hf : Fits l) (h : Nods w S v l) (hS : ∀ b, S b → b < w.heap.size) (hB : B ≤ w.heap.size) (ht : Tb B w) :
    Calls Tryz.prog 45 #[.agg #[v]] w (VOPost w (valOf l)) := by
  obtain ⟨a, c, rfl⟩ := Row.form h
  have HR := Lib.hid h; have HS := Lib.hid hS; have HF := Lib.hid hf; have HT := Lib.hid ht
  have hl := hf.1
  have HB0 := Lib.hid ((Below.refl w.heap.size w).alloc (Nat.le_refl _) (.cells #[.slice a l.length c] 28))
  clear h hS hf ht
  cases hw : within l.length 1 80
  · have HV := Lib.hid (valOf_no_len l hw)
    go_enter Tryz.func45, Tryz.ntmps45
    go_wp2_with (go_at_call 38; refine (within_c _ _ _ _).mono ?_; rintro e w' ⟨rfl, rfl⟩)
    go_ret
    rw [HV.out]
    exact ⟨HB0.out, rfl⟩
  · have hlen : 0 < l.length := by
      simp only [within, Bool.and_eq_true, decide_eq_true_eq] at hw; omega
    obtain ⟨g, off, hgo, hSg, x0, x1, x2, x3, x4⟩ := Nods.at HR.out hlen
    subst hgo
    have hgb := HS.out g hSg
    simp only [Nat.zero_mul, Nat.add_zero] at x0 x1 x2 x3 x4
    cases hu : l[0].up == -1
    · have HV := Lib.hid (valOf_no_up l hlen hu)
      have hu' : (l[0].up != -1) = true := by rw [bne, hu]; rfl
      go_enter Tryz.func45, Tryz.ntmps45
      go_wp2_with (go_at_call 38; refine (within_c _ _ _ _).mono ?_; rintro e w' ⟨rfl, rfl⟩)
      go_ret
      rw [HV.out]
      exact ⟨HB0.out, rfl⟩
    · have HV := Lib.hid (valOf_pv l hlen hw hu)
      have hu' : (l[0].up != -1) = false := by rw [bne, hu]; rfl
      have hvf := valFrom_c (2 * l.length) l 0 0 (.slice (some ⟨g, off, none⟩) l.length c) (w.alloc (.cells #[.slice (some ⟨g, off, none⟩) l.length c] 28)) S hlen hl (by omega) HF.out.2
        (Row.frame HR.out (fun b _ hlt => blk_old w _ hlt) (by simp)) (fun b hb => by have := HS.out b hb; simp; omega)
      rcases hpv : pv (2 * l.length) l 0 0 with _ | ⟨t, e'⟩
      · rw [hpv] at hvf HV
        have HVF := Lib.hid hvf
        clear hvf hpv
        go_enter Tryz.func45, Tryz.ntmps45
        go_wp2_with (first
          | (go_at_call 38; refine (within_c _ _ _ _).mono ?_; rintro e w' ⟨rfl, rfl⟩)
          | (go_at_call 39; refine HVF.out.mono ?_; rintro e w1 ⟨hI, rfl⟩; obtain ⟨hc1, hf1⟩ := bcell hI; have HI := Lib.hid hI; clear hf1 hI))
        go_ret
        rw [HV.out]
        exact ⟨HB0.out.trans (HI.out.mono (by simp)), rfl⟩
      · have hok := (pv_ok (2 * l.length)).1 _ _ _ _ _ hpv
        have hle := (pv_le (2 * l.length)).1 _ _ _ _ _ hpv
        rw [hpv] at hvf HV
        have HVF := Lib.hid hvf
        have hsd := T.sized_of t hok.1 hok.2.1 (by omega)
        have hcn : t.cnt ≤ 1099511627776 := by omega
        have hwn := Lib.hid hok.1
        have HSd := Lib.hid hsd
        clear hvf hpv hok hsd
        cases he : e' == l.length
        · have he' : ((e' : Int) != (l.length : Int)) = true := by simp at he ⊢; omega
          have HV2 : Hid (valOf l = none) := by rw [HV.out]; simp only [he]; rfl
          go_enter Tryz.func45, Tryz.ntmps45
          go_wp2_with (first
            | (go_at_call 38; refine (within_c _ _ _ _).mono ?_; rintro e w' ⟨rfl, rfl⟩)
            | (go_at_call 39; refine HVF.out.mono ?_; rintro e w1 ⟨hI, u, rfl, hu1⟩; obtain ⟨hc1, hf1⟩ := bcell hI; obtain ⟨bu, rfl, _⟩ := hu1.ptr; have HI := Lib.hid hI; have HU := Lib.hid hu1; clear hf1 hI hu1))
          go_ret
          rw [HV2.out]
          exact ⟨HB0.out.trans (HI.out.mono (by simp)), rfl⟩
        · have he' : ((e' : Int) != (l.length : Int)) = false := by simp at he ⊢; omega
          cases hg : t.good
          all_goals
            go_enter Tryz.func45, Tryz.ntmps45
            go_wp2_with (first
              | (go_at_call 38; refine (within_c _ _ _ _).mono ?_; rintro e w' ⟨rfl, rfl⟩)
              | (go_at_call 39; refine HVF.out.mono ?_; rintro e w1 ⟨hI, u, rfl, hu1⟩; obtain ⟨hc1, hf1⟩ := bcell hI; obtain ⟨bu, rfl, _⟩ := hu1.ptr; have HI := Lib.hid hI; have HU := Lib.hid hu1; have HX := Lib.hid (HB0.out.trans (hI.mono (by simp))); clear hf1 hI hu1)
              | (go_at_call 74; refine (good_c t _ w1 _ B hwn.out HSd.out hcn (IsVal.lt HU.out) (fun b hb => hb.2) (Nat.le_trans hB HX.out.size) (HT.out.on (HX.out.mono hB))).mono ?_; rintro e w2 ⟨rfl, hG⟩))
          · go_ret
            have HV2 : valOf l = none := by rw [HV.out]; simp only [he, hg]; rfl
            rw [HV2]
            exact ⟨HX.out.trans (hG.mono HX.out.size), rfl⟩
          · go_ret
            have HV2 : valOf l = some t := by rw [HV.out]; simp only [he, hg]; rfl
            rw [HV2]
            exact ⟨HX.out.trans (hG.mono HX.out.size), _, rfl, (HU.out.call hG).mono (fun b hb _ => by simp at hb; omega)⟩
end Go.Proofs.YtbldchemgkfdcaaGreatDoor
