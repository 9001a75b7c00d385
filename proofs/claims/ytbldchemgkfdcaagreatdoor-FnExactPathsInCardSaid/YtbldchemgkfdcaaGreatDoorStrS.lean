/- laws: eqStringS, markStringS, heldStringS. -/
import Derived.Test.YtbldchemgkfdcaaGreatDoorMarkV
import Derived.Deep.QuietTactic
import Derived.BigQuiet
namespace Go.Proofs.YtbldchemgkfdcaaGreatDoor
open Go.RowKit

set_option maxRecDepth 100000 in
set_option maxHeartbeats 1000000 in
theorem eqStringS_c (l : List ByteArray) (v v' : Value) (w : World) (S S' : Nat → Prop) (hl : l.length ≤ 1099511627776) (h : Strs w S v l) (h' : Strs w S' v' l) :
    Calls Tryz.prog 17 #[v, v'] w fun e w' => e = .returned (.bool true) ∧ Below w.heap.size w w' := by
  obtain ⟨a, c, rfl⟩ := Row.form h
  obtain ⟨a', c', rfl⟩ := Row.form h'
  have HR := Lib.hid h; have HR' := Lib.hid h'
  clear h h'
  go_enter Tryz.func17, Tryz.ntmps17
  go_wp2
  go_loopg [5] l.length (fun gh i wr => ∃ k n : Nat, k ≤ l.length ∧ gh = l.length - k ∧ i = .int .i64 k ∧ wr = w.drewN n)
  case atStart => exact ⟨0, 0, Nat.zero_le _, rfl, rfl, rfl⟩
  case round =>
    obtain ⟨k, n, hk, rfl, rfl, rfl⟩ := hrel
    by_cases hlt : k < l.length
    · obtain ⟨g, off, hak, _, x0⟩ := HR.out.at hlt
      obtain ⟨g', off', hak', _, z0⟩ := HR'.out.at hlt
      subst hak; subst hak'
      have hk1 : (k : Int) < (l.length : Int) := by omega
      have hk0 : (0 : Int) ≤ (k : Int) := by omega
      obtain ⟨s, hs⟩ : ∃ s, l.getD k ⟨#[]⟩ = s := ⟨_, rfl⟩
      rw [hs] at x0 z0
      clear hs
      go_wp2_with fail
      go_quiet (fail)
      go_wp2
      go_roundg (l.length - (k + 1))
      case measure => omega
      case rel => exact ⟨k + 1, _, hlt, rfl, by go_num, rfl⟩
    · obtain rfl : k = l.length := by omega
      go_wp2
      go_ret
      exact ⟨rfl, ⟨rfl, rfl, rfl, Nat.le_refl _, fun _ _ => rfl⟩⟩

/-- cell i of texts that are marked from kk on -/
def mStr (kk i : Nat) : Value := .string (markT (kk + i))
set_option maxRecDepth 100000 in
set_option maxHeartbeats 1000000 in
theorem markStringS_c (g n c kk m : Nat) (f : Nat → Value) (w : World) (h0 : 0 < kk) (h1 : kk + n ≤ 1099511627776) (hnm : n ≤ m) (hR : w.rowIs g 9 m f) :
    Calls Tryz.prog 18 #[.slice (some ⟨g, 0, none⟩) n c, .int .i64 kk] w fun e w' => e = .returned (.int .i64 ((kk + n : Nat) : Int)) ∧ w'.rowIs g 9 m (fun i => if i < n then mStr kk i else f i) ∧ w.grownBy w' (some g) := by
  have HR := Lib.hid hR
  have hgw := hR.lt
  clear hR
  go_enter Tryz.func18, Tryz.ntmps18
  go_wp2
  go_loopg [1, 5] n (fun gh kv i wr => ∃ (k K : Nat), k ≤ n ∧ gh = n - k ∧ i = .int .i64 k ∧ kv = .int .i64 K ∧ K ≤ 1099511627776 ∧ Hid (K = kk + k) ∧ Hid (wr.rowIs g 9 m (fun i => if i < k then mStr kk i else f i)) ∧ Hid (w.grownBy wr (some g)))
  case atStart => exact ⟨0, kk, Nat.zero_le _, rfl, rfl, rfl, by omega, by simp [Hid], by simpa [Hid] using HR.out, ⟨rfl, rfl, rfl, Nat.le_refl _, fun _ _ _ => rfl⟩⟩
  case round =>
    obtain ⟨k, K, hk, rfl, rfl, rfl, hKb, HK, HRw, HG⟩ := hrel
    have hsr := HG.out.size
    by_cases hlt : k < n
    · have hK5 : K + 1 ≤ 1099511627776 := by have := HK.out; omega
      have hK0 : 0 < K := by have := HK.out; omega
      go_wp2_with fail
      refine (markText_c K _ (by omega) (by omega)).mono ?_
      rintro e w1 ⟨rfl, hB⟩
      have HR1 := Lib.hid (HRw.out.of_block (hB.block g (by omega)))
      have HG1 := Lib.hid (grown_below HG.out hB)
      obtain ⟨u2, q2⟩ : ∃ u, w1.cell? ⟨g, k, none⟩ = some u := ⟨_, HR1.out.cell (by omega)⟩
      have f2 := HR1.out.frozen k
      clear hB
      go_wp2
      go_roundg (n - (k + 1))
      case measure => omega
      case rel => exact ⟨k + 1, K + 1, hlt, rfl, by go_num, by go_num, hK5, by have := HK.out; unfold Hid; omega, (HR1.out.set k (.string (markT K))).congr (fun i _ => by
        have := HK.out
        by_cases e : i = k
        · subst e; simp [mStr, this]
        · simp only [if_neg e]; by_cases h : i < k
          · rw [if_pos h, if_pos (by omega)]
          · rw [if_neg h, if_neg (by omega)]), grown_setCell HG1.out⟩
    · obtain rfl : k = n := by omega
      go_wp2
      go_ret
      exact ⟨by rw [HK.out]; rfl, HRw.out, HG.out⟩
theorem markStringS_nil (kk : Nat) (w : World) :
    Calls Tryz.prog 18 #[.slice none 0 0, .int .i64 kk] w fun e w' => e = .returned (.int .i64 (kk : Int)) ∧ w = w' := by
  go_enter Tryz.func18, Tryz.ntmps18
  go_wp2
  refine wp_loop_rounds 1 ?_
  rw [rounds_succ]
  go_wp2
  go_ret
  exact ⟨rfl, rfl⟩
theorem heldStringS_nil (kk : Nat) (w : World) :
    Calls Tryz.prog 19 #[.slice none 0 0, .int .i64 kk] w fun e w' => e = .returned (.int .i64 (kk : Int)) ∧ w = w' := by
  go_enter Tryz.func19, Tryz.ntmps19
  go_wp2
  refine wp_loop_rounds 1 ?_
  rw [rounds_succ]
  go_wp2
  go_ret
  exact ⟨rfl, rfl⟩

set_option maxRecDepth 100000 in
set_option maxHeartbeats 1000000 in
theorem heldStringS_c (g n c kk : Nat) (w : World) (h0 : 0 < kk) (h1 : kk + n ≤ 1099511627776) (hgw : g < w.heap.size) (hR : ∀ i, i < n → w.cell? ⟨g, i, none⟩ = some (mStr kk i)) :
    Calls Tryz.prog 19 #[.slice (some ⟨g, 0, none⟩) n c, .int .i64 kk] w fun e w' => e = .returned (.int .i64 ((kk + n : Nat) : Int)) ∧ Below w.heap.size w w' := by
  have HR := Lib.hid hR
  clear hR
  go_enter Tryz.func19, Tryz.ntmps19
  go_wp2
  go_loopg [1, 5] n (fun gh kv i wr => ∃ (k K : Nat), k ≤ n ∧ gh = n - k ∧ i = .int .i64 k ∧ kv = .int .i64 K ∧ K ≤ 1099511627776 ∧ Hid (K = kk + k) ∧ Hid (Below w.heap.size w wr))
  case atStart => exact ⟨0, kk, Nat.zero_le _, rfl, rfl, rfl, by omega, by simp [Hid], Below.refl _ _⟩
  case round =>
    obtain ⟨k, K, hk, rfl, rfl, rfl, hKb, HK, HBr⟩ := hrel
    have hsr := HBr.out.size
    by_cases hlt : k < n
    · have hK5 : K + 1 ≤ 1099511627776 := by have := HK.out; omega
      have hK0 : 0 < K := by have := HK.out; omega
      have hlti : (k : Int) < (n : Int) := by omega
      have hk0 : (0 : Int) ≤ (k : Int) := by omega
      have m0 : mStr kk k = .string (markT K) := by have e := HK.out; unfold mStr; rw [e]
      have y0 := (HBr.out.cell (p := ⟨g, k, none⟩) hgw).trans ((HR.out k hlt).trans (congrArg some m0))
      clear m0
      have hgr : g < wr.heap.size := by omega
      go_wp2_with fail
      go_region_held3 (fun w' => w'.cell? ⟨g, k, none⟩ = some (.string (markT K))) (first | go_keep | exact (hB1.cell (p := ⟨g, k, none⟩) hgr).trans y0) ((go_at_call 49; refine (markText_c K _ (by omega) (by omega)).mono ?_; rintro e w1 ⟨rfl, hB1⟩))
      have HB1 := Lib.hid ((HBr.out.drew).trans (hB1.mono (show w.heap.size ≤ wr.drew.heap.size from hsr)))
      clear hB1 y0
      go_wp2
      go_roundg (n - (k + 1))
      case measure => omega
      case rel => exact ⟨k + 1, K + 1, hlt, rfl, by go_num, by go_num, hK5, by have := HK.out; unfold Hid; omega, HB1⟩
    · obtain rfl : k = n := by omega
      go_wp2
      go_ret
      exact ⟨by rw [HK.out]; rfl, HBr.out⟩

/-- texts in a row of the call's own -/
def MadeS (w : World) (B : Nat) (v : Value) (l : List ByteArray) : Prop := w.ownsRow B 9 1 v l.length (l.map Value.string)
/-- the n texts behind v, in blocks from B on, are marked from kk on -/
def MarkedS (w : World) (B : Nat) (v : Value) (n kk : Nat) : Prop := (v = .slice none 0 0 ∧ n = 0) ∨ ∃ g c, v = .slice (some ⟨g, 0, none⟩) n c ∧ B ≤ g ∧ g < w.heap.size ∧ ∀ i, i < n → w.cell? ⟨g, i, none⟩ = some (mStr kk i)
theorem MarkedS.below {w w' : World} {B n kk : Nat} {v : Value} (h : MarkedS w B v n kk) (hb : Below w.heap.size w w') : MarkedS w' B v n kk := by
  rcases h with h | ⟨g, c, hv, hB, hg, hc⟩
  · exact .inl h
  · exact .inr ⟨g, c, hv, hB, by have := hb.size; omega, fun i hi => (hb.cell (p := ⟨g, i, none⟩) hg).trans (hc i hi)⟩
theorem markStrs_c (l : List ByteArray) (v : Value) (B kk : Nat) (w : World) (h0 : 0 < kk) (h1 : kk + l.length ≤ 1099511627776) (h : MadeS w B v l) :
    Calls Tryz.prog 18 #[v, .int .i64 kk] w fun e w' => e = .returned (.int .i64 ((kk + l.length : Nat) : Int)) ∧ MarkedS w' B v l.length kk ∧ w.grownBy w' v.ownBlock := by
  obtain ⟨hl, h⟩ := h
  rcases h with ⟨rfl, hn⟩ | ⟨g, cap, cur, rfl, hB, hg, hnc, hm, hsz, ht⟩
  · rw [hn]
    refine (markStringS_nil kk w).mono ?_
    rintro e w' ⟨rfl, rfl⟩
    exact ⟨by simp, .inl ⟨rfl, rfl⟩, ⟨rfl, rfl, rfl, Nat.le_refl _, fun _ _ _ => rfl⟩⟩
  · have hR : w.rowIs g 9 cap (fun i => (cur[i]?).getD default) := ⟨cur, hg, by omega, fun i hi => by rw [Array.getElem?_eq_getElem (by omega)]; simp [show i < cur.size by omega]⟩
    refine (markStringS_c g l.length cap kk cap _ w h0 h1 (by omega) hR).mono ?_
    rintro e w' ⟨rfl, hR', hG⟩
    exact ⟨rfl, .inr ⟨g, cap, rfl, hB, hR'.lt, fun i hi => (hR'.cell (by omega)).trans (by simp only [if_pos hi])⟩, hG⟩
theorem heldStrs_c (n : Nat) (v : Value) (B kk : Nat) (w : World) (h0 : 0 < kk) (h1 : kk + n ≤ 1099511627776) (h : MarkedS w B v n kk) :
    Calls Tryz.prog 19 #[v, .int .i64 kk] w fun e w' => e = .returned (.int .i64 ((kk + n : Nat) : Int)) ∧ Below w.heap.size w w' := by
  rcases h with ⟨rfl, rfl⟩ | ⟨g, c, rfl, hB, hg, hc⟩
  · refine (heldStringS_nil kk w).mono ?_
    rintro e w' ⟨rfl, rfl⟩
    exact ⟨by simp, Below.refl _ _⟩
  · exact heldStringS_c g n c kk w h0 h1 hg hc
end Go.Proofs.YtbldchemgkfdcaaGreatDoor
