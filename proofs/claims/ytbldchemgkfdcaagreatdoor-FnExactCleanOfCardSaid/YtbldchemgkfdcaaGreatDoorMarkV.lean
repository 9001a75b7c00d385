/- laws: markValue, heldValue. -/
import Derived.Test.YtbldchemgkfdcaaGreatDoorMark
namespace Go.Proofs.YtbldchemgkfdcaaGreatDoor
open Go.RowKit

/-- the n nodes behind v, in blocks from B on, are marked from kk on -/
def Marked (w : World) (B : Nat) (v : Value) (n kk : Nat) : Prop := (v = .slice none 0 0 ∧ n = 0) ∨ ∃ g c, v = .slice (some ⟨g, 0, none⟩) n c ∧ B ≤ g ∧ g < w.heap.size ∧ ∀ i, i < n * 5 → w.cell? ⟨g, i, none⟩ = some (mCell kk i)
theorem Marked.below {w w' : World} {B n kk : Nat} {v : Value} (h : Marked w B v n kk) (hb : Below w.heap.size w w') : Marked w' B v n kk := by
  rcases h with h | ⟨g, c, hv, hB, hg, hc⟩
  · exact .inl h
  · exact .inr ⟨g, c, hv, hB, by have := hb.size; omega, fun i hi => (hb.cell (p := ⟨g, i, none⟩) hg).trans (hc i hi)⟩

theorem markNodeS_nil (kk : Nat) (w : World) :
    Calls Tryz.prog 42 #[.slice none 0 0, .int .i64 kk] w fun e w' => e = .returned (.int .i64 (kk : Int)) ∧ w = w' := by
  go_enter Tryz.func42, Tryz.ntmps42
  go_wp2
  refine wp_loop_rounds 1 ?_
  rw [rounds_succ]
  go_wp2
  go_ret
  exact ⟨rfl, rfl⟩
theorem heldNodeS_nil (kk : Nat) (w : World) :
    Calls Tryz.prog 43 #[.slice none 0 0, .int .i64 kk] w fun e w' => e = .returned (.int .i64 (kk : Int)) ∧ w = w' := by
  go_enter Tryz.func43, Tryz.ntmps43
  go_wp2
  refine wp_loop_rounds 1 ?_
  rw [rounds_succ]
  go_wp2
  go_ret
  exact ⟨rfl, rfl⟩

theorem markNodes_c (l : List N) (v : Value) (B kk : Nat) (w : World) (h0 : 0 < kk) (h1 : kk + l.length * 5 ≤ 1099511627776) (h : Made w B v l) :
    Calls Tryz.prog 42 #[v, .int .i64 kk] w fun e w' => e = .returned (.int .i64 ((kk + l.length * 5 : Nat) : Int)) ∧ Marked w' B v l.length kk ∧ w.grownBy w' v.ownBlock := by
  obtain ⟨hl, h⟩ := h
  rcases h with ⟨rfl, hn⟩ | ⟨g, cap, cur, rfl, hB, hg, hnc, hm, hsz, ht⟩
  · rw [hn]
    refine (markNodeS_nil kk w).mono ?_
    rintro e w' ⟨rfl, rfl⟩
    exact ⟨by simp, .inl ⟨rfl, rfl⟩, ⟨rfl, rfl, rfl, Nat.le_refl _, fun _ _ _ => rfl⟩⟩
  · have hR : w.rowIs g 63 (cap * 5) (fun i => (cur[i]?).getD default) := ⟨cur, hg, hsz, fun i hi => by rw [Array.getElem?_eq_getElem (by omega)]; simp [show i < cur.size by omega]⟩
    refine (markNodeS_c g l.length cap kk (cap * 5) _ w h0 h1 (by omega) hR).mono ?_
    rintro e w' ⟨rfl, hR', hG⟩
    exact ⟨rfl, .inr ⟨g, cap, rfl, hB, hR'.lt, fun i hi => (hR'.cell (by omega)).trans (by simp only [if_pos hi])⟩, hG⟩

theorem heldNodes_c (n : Nat) (v : Value) (B kk : Nat) (w : World) (h0 : 0 < kk) (h1 : kk + n * 5 ≤ 1099511627776) (h : Marked w B v n kk) :
    Calls Tryz.prog 43 #[v, .int .i64 kk] w fun e w' => e = .returned (.int .i64 ((kk + n * 5 : Nat) : Int)) ∧ Below w.heap.size w w' := by
  rcases h with ⟨rfl, rfl⟩ | ⟨g, c, rfl, hB, hg, hc⟩
  · refine (heldNodeS_nil kk w).mono ?_
    rintro e w' ⟨rfl, rfl⟩
    exact ⟨by simp, Below.refl _ _⟩
  · exact heldNodeS_c g n c kk w h0 h1 hg hc

set_option maxRecDepth 100000 in
theorem markValue_c (l : List N) (v : Value) (B kk : Nat) (w : World) (h0 : 0 < kk) (h1 : kk + l.length * 5 ≤ 1099511627776) (h : Made w B v l) :
    Calls Tryz.prog 13 #[.agg #[v], .int .i64 kk] w fun e w' => e = .returned (.int .i64 ((kk + l.length * 5 : Nat) : Int)) ∧ Marked w' B v l.length kk ∧ w.grownBy w' v.ownBlock := by
  have HM := Lib.hid (markNodes_c l v B kk (w.alloc (.cells #[v] 28)) h0 h1 (h.alloc _))
  have HL := Lib.hid h.lt
  obtain ⟨a, c, rfl⟩ := owns_form h
  clear h
  go_enter Tryz.func13, Tryz.ntmps13
  go_wp2_with (go_at_call 42; refine HM.out.mono ?_; rintro e w1 ⟨rfl, hm, hg⟩)
  go_ret
  exact ⟨rfl, hm, ⟨hg.os, hg.tape, hg.output, by have := hg.size; simp at this; omega, fun k hk hn => (hg.block k (by simp; omega) hn).trans (blk_old w _ hk)⟩⟩

set_option maxRecDepth 100000 in
theorem heldValue_c (n : Nat) (v : Value) (B kk : Nat) (w : World) (h0 : 0 < kk) (h1 : kk + n * 5 ≤ 1099511627776) (h : Marked w B v n kk) :
    Calls Tryz.prog 14 #[.agg #[v], .int .i64 kk] w fun e w' => e = .returned (.int .i64 ((kk + n * 5 : Nat) : Int)) ∧ Below w.heap.size w w' := by
  have HB0 := Lib.hid ((Below.refl w.heap.size w).alloc (Nat.le_refl _) (.cells #[v] 28))
  have HM := Lib.hid (heldNodes_c n v B kk (w.alloc (.cells #[v] 28)) h0 h1 (h.below HB0.out))
  obtain ⟨K, hK⟩ : ∃ K, K = kk + n * 5 := ⟨_, rfl⟩
  rw [← hK] at HM h1 ⊢
  have hf : ∃ a c, v = .slice a n c := by rcases h with ⟨rfl, rfl⟩ | ⟨g, c, rfl, _⟩ <;> exact ⟨_, _, rfl⟩
  obtain ⟨a, c, rfl⟩ := hf
  have hneg : decide ((K : Int) < 0) = false := by simp
  clear h hK
  go_enter Tryz.func14, Tryz.ntmps14
  go_wp2_with (go_at_call 43; refine HM.out.mono ?_; rintro e w1 ⟨rfl, hI⟩)
  go_ret
  exact ⟨rfl, HB0.out.trans (hI.mono (by simp))⟩
end Go.Proofs.YtbldchemgkfdcaaGreatDoor
