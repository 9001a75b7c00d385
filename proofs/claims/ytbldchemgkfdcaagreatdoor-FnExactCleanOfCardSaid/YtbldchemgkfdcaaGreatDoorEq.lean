/- laws: eqNode, eqNodeS, eqValue, at equal values. -/
import Derived.Test.YtbldchemgkfdcaaGreatDoorValue
namespace Go.Proofs.YtbldchemgkfdcaaGreatDoor
open Go.RowKit

set_option maxRecDepth 100000 in
theorem eqNode_c (x : N) (w : World) :
    Calls Tryz.prog 71 #[.agg #[.int .i64 x.kind, .int .i64 x.num, .string x.text, .string x.name, .int .i64 x.up], .agg #[.int .i64 x.kind, .int .i64 x.num, .string x.text, .string x.name, .int .i64 x.up]] w fun e w' => e = .returned (.bool true) ∧ Below w.heap.size w w' := by
  have HB := Lib.hid (((Below.refl w.heap.size w).alloc (Nat.le_refl _) (.cells #[.int .i64 x.kind, .int .i64 x.num, .string x.text, .string x.name, .int .i64 x.up] 63)).alloc (by simp) (.cells #[.int .i64 x.kind, .int .i64 x.num, .string x.text, .string x.name, .int .i64 x.up] 63))
  go_enter Tryz.func71, Tryz.ntmps71
  go_wp2
  go_ret
  exact ⟨rfl, HB.out⟩

set_option maxRecDepth 100000 in
set_option maxHeartbeats 1000000 in
theorem eqNodeS_c (l : List N) (v v' : Value) (w : World) (S S' : Nat → Prop) (hl : l.length ≤ 1099511627776) (h : Nods w S v l) (h' : Nods w S' v' l) :
    Calls Tryz.prog 41 #[v, v'] w fun e w' => e = .returned (.bool true) ∧ Below w.heap.size w w' := by
  obtain ⟨a, c, rfl⟩ := Row.form h
  obtain ⟨a', c', rfl⟩ := Row.form h'
  have HR := Lib.hid h; have HR' := Lib.hid h'
  clear h h'
  go_enter Tryz.func41, Tryz.ntmps41
  go_wp2
  go_loopg [5] l.length (fun gh i wr => ∃ k : Nat, k ≤ l.length ∧ gh = l.length - k ∧ i = .int .i64 k ∧ Hid (Below w.heap.size w wr))
  case atStart => exact ⟨0, Nat.zero_le _, rfl, rfl, Below.refl _ _⟩
  case round =>
    obtain ⟨k, hk, rfl, rfl, HBr⟩ := hrel
    have hsr := HBr.out.size
    by_cases hlt : k < l.length
    · obtain ⟨g, off, rfl, _, x0, x1, x2, x3, x4⟩ := Nods.at HR.out hlt
      obtain ⟨g', off', rfl, _, z0, z1, z2, z3, z4⟩ := Nods.at HR'.out hlt
      have hgb := lt_cell x0
      have hgb' := lt_cell z0
      have y0 := (HBr.out.cell (p := ⟨g, off + k * 5, none⟩) hgb).trans x0
      have y1 := (HBr.out.cell (p := ⟨g, off + k * 5 + 1, none⟩) hgb).trans x1
      have y2 := (HBr.out.cell (p := ⟨g, off + k * 5 + 2, none⟩) hgb).trans x2
      have y3 := (HBr.out.cell (p := ⟨g, off + k * 5 + 3, none⟩) hgb).trans x3
      have y4 := (HBr.out.cell (p := ⟨g, off + k * 5 + 4, none⟩) hgb).trans x4
      have u0 := (HBr.out.cell (p := ⟨g', off' + k * 5, none⟩) hgb').trans z0
      have u1 := (HBr.out.cell (p := ⟨g', off' + k * 5 + 1, none⟩) hgb').trans z1
      have u2 := (HBr.out.cell (p := ⟨g', off' + k * 5 + 2, none⟩) hgb').trans z2
      have u3 := (HBr.out.cell (p := ⟨g', off' + k * 5 + 3, none⟩) hgb').trans z3
      have u4 := (HBr.out.cell (p := ⟨g', off' + k * 5 + 4, none⟩) hgb').trans z4
      clear x0 x1 x2 x3 x4 z0 z1 z2 z3 z4
      obtain ⟨x, hx⟩ : ∃ x, l[k] = x := ⟨_, rfl⟩
      rw [hx] at y0 y1 y2 y3 y4 u0 u1 u2 u3 u4
      clear hx
      have hk1 : (k : Int) < (l.length : Int) := by omega
      go_wp2_with fail
      go_region_with (go_at_call 71; refine (eqNode_c x _).mono ?_; rintro e w1 ⟨rfl, hB⟩)
      all_goals
        go_wp2_with fail
        go_roundg (l.length - (k + 1))
        case measure => omega
        case rel => exact ⟨k + 1, hlt, rfl, by go_num, (HBr.out.drew).trans (hB.mono (by simp; omega))⟩
    · obtain rfl : k = l.length := by omega
      go_wp2
      go_ret
      exact ⟨rfl, HBr.out⟩

theorem eqValue_c (l : List N) (v v' : Value) (w : World) (S S' : Nat → Prop) (hl : l.length ≤ 1099511627776) (h : Nods w S v l) (h' : Nods w S' v' l) :
    Calls Tryz.prog 12 #[.agg #[v], .agg #[v']] w fun e w' => e = .returned (.bool true) ∧ Below w.heap.size w w' := by
  have HB := Lib.hid (((Below.refl w.heap.size w).alloc (Nat.le_refl _) (.cells #[v] 28)).alloc (by simp) (.cells #[v'] 28))
  have HC := Lib.hid (eqNodeS_c l v v' ((w.alloc (.cells #[v] 28)).alloc (.cells #[v'] 28)) (fun b => S b ∧ b < w.heap.size) (fun b => S' b ∧ b < w.heap.size) hl
    (Row.frame (h.mono (fun b hb hl => ⟨hb, hl⟩)) (fun b hb hlt => HB.out.block b hlt) HB.out.size) (Row.frame (h'.mono (fun b hb hl => ⟨hb, hl⟩)) (fun b hb hlt => HB.out.block b hlt) HB.out.size))
  obtain ⟨a, c, rfl⟩ := Row.form h
  obtain ⟨a', c', rfl⟩ := Row.form h'
  clear h h'
  go_enter Tryz.func12, Tryz.ntmps12
  go_wp2_with (go_at_call 41; refine HC.out.mono ?_; rintro e w1 ⟨rfl, hB⟩)
  go_ret
  exact ⟨rfl, HB.out.trans (hB.mono (by simp; omega))⟩
end Go.Proofs.YtbldchemgkfdcaaGreatDoor
