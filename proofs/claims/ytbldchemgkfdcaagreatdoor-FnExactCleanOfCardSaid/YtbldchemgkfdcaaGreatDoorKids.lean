/- spec.l1Kids. -/
import Derived.Test.YtbldchemgkfdcaaGreatDoorValue
import Derived.Test.YtbldchemgkfdcaaGreatDoorSpecA
import Derived.Test.YtbldchemgkfdcaaGreatDoorTree
namespace Go.Proofs.YtbldchemgkfdcaaGreatDoor
open Go.RowKit

theorem cell_old {b o : Nat} (w : World) (x : Obj) (h : b < w.heap.size) : (w.alloc x).cell? ⟨b, o, none⟩ = w.cell? ⟨b, o, none⟩ := World.cell?_of_block (a := ⟨b, o, none⟩) (blk_old w x h)
theorem info_int : (Tryz.prog.info? 3).map (fun i => (i.zero, i.size, i.bytes)) = some (some (.int .i64 0), 1, 8) := by kernel_rfl
def natCells (l : List Nat) : List Value := l.map (fun j : Nat => Value.int .i64 (j : Int))

set_option maxRecDepth 100000 in
set_option maxHeartbeats 1000000 in
theorem l1Kids_c (l : List N) (k : Nat) (v : Value) (w : World) (S : Nat → Prop) (hl : l.length ≤ 1099511627776) (hk : k < l.length) (h : Nods w S v l) (hS : ∀ b, S b → b < w.heap.size) :
    Calls Tryz.prog 66 #[.agg #[v], .int .i64 k] w fun e w' => ∃ sv, e = .returned sv ∧ w'.ownsRow w.heap.size 3 1 sv (kidsTo l k l.length).length (natCells (kidsTo l k l.length)) ∧ Below w.heap.size w w' := by
  obtain ⟨a, c, rfl⟩ := Row.form h
  have HB0 := Lib.hid ((Below.refl w.heap.size w).alloc (Nat.le_refl _) (.cells #[.slice a l.length c] 28))
  have HR := Lib.hid h; have HS := Lib.hid hS
  have c0 : (w.alloc (.cells #[.slice a l.length c] 28)).cell? ⟨w.heap.size, 0, none⟩ = some (.slice a l.length c) := cell_blk (blk_new w _) 0
  have HBk := Lib.hid (blk_new w (.cells #[.slice a l.length c] 28))
  clear h hS
  obtain ⟨i0, hi, hz0, hz1, hz2⟩ := info_parts info_int
  go_enter Tryz.func66, Tryz.ntmps66
  go_wp2
  go_loopg [5, 6] (l.length - (k + 1)) (fun gh out i wr => ∃ j : Nat, k < j ∧ j ≤ l.length ∧ gh = l.length - j ∧ i = .int .i64 j ∧ ∃ m a' q, m ≤ j ∧ out = .slice a' m q ∧ Hid (m = (kidsTo l k j).length) ∧
    Hid (wr.ownsRow (w.heap.size + 1) 3 1 (.slice a' m q) m (natCells (kidsTo l k j))) ∧ Hid (Below (w.heap.size + 1) (w.alloc (.cells #[.slice a l.length c] 28)) wr))
  case atStart => exact ⟨k + 1, by omega, hk, by omega, by go_num, 0, none, 0, Nat.zero_le _, rfl, by unfold Hid; rw [kidsTo_start]; rfl, by unfold Hid; rw [kidsTo_start]; exact World.ownsRow_nil _ _ _ _, Below.refl _ _⟩
  case round =>
    obtain ⟨j, hkj, hj, rfl, rfl, m, a', q, hm, rfl, HM, HO, HBr⟩ := hrel
    have hsz := HBr.out.size
    have c0' : wr.cell? ⟨w.heap.size, 0, none⟩ = some (.slice a l.length c) := (HBr.out.cell (p := ⟨w.heap.size, 0, none⟩) (by simp)).trans (cell_blk HBk.out 0)
    simp at hsz
    clear c0
    by_cases hlt : j < l.length
    · obtain ⟨g, off, rfl, hSg, x0, x1, x2, x3, x4⟩ := Nods.at HR.out hlt
      have hgb := HS.out g hSg
      have x4' : wr.cell? ⟨g, off + j * 5 + 4, none⟩ = some (.int .i64 l[j].up) := (HBr.out.cell (p := ⟨g, off + j * 5 + 4, none⟩) (by simp; omega)).trans ((cell_old _ _ hgb).trans x4)
      clear x0 x1 x2 x3 x4
      by_cases hup : l[j].up = (k : Int)
      · have HKJ := Lib.hid (isKid_true hlt hkj hup)
        rw [hup] at x4'
        go_wp2_with (at_builtin; go_must (refine wpList_append_own _ rfl _ _ 98 rfl (w.heap.size + 1) 3 i0 (.int .i64 0) 1 8 Tryz.underlying98 hi hz0 hz1 hz2 rfl (by decide) (.slice a' m q) m (natCells (kidsTo l k j)) rfl (HO.out.alloc _) ⟨wr.heap.size, 0, none⟩ 1 1 [.int .i64 j] rfl rfl ?c1 ?c2 ?c3 ?c4 ?c5 ?_))
        case c1 => intro j' u hu; exact cells_new hu
        case c2 => intro u hu; simp at hu; subst hu; rfl
        case c3 => unfold maxLen; omega
        case c4 => omega
        case c5 => simp; omega
        intro v' w2 hown' hgrow _
        obtain ⟨a2, q2, rfl⟩ := owns_form hown'
        have HB2 := Lib.hid (HBr.out.trans (((Below.refl wr.heap.size wr).alloc (Nat.le_refl _) _ |>.mono hsz).trans (below_owns (HO.out.alloc _) hgrow (by simp; omega))))
        have HO2 := Lib.hid hown'
        clear hown' hgrow
        go_wp2
        go_roundg (l.length - (j + 1))
        case measure => omega
        case rel => exact ⟨j + 1, by omega, hlt, rfl, by go_num, m + 1, a2, q2, by omega, rfl, by unfold Hid; rw [kidsTo_succ, HKJ.out, HM.out]; simp, by unfold Hid; rw [kidsTo_succ, HKJ.out]; simpa [natCells] using HO2.out, HB2⟩
      · have HKJ := Lib.hid (isKid_false hlt hup)
        have hup' : (l[j].up == (k : Int)) = false := by simpa using hup
        go_wp2
        go_roundg (l.length - (j + 1))
        case measure => omega
        case rel => exact ⟨j + 1, by omega, hlt, rfl, by go_num, m, a', q, by omega, rfl, by unfold Hid; rw [kidsTo_succ, HKJ.out, HM.out]; simp, by unfold Hid; rw [kidsTo_succ, HKJ.out]; simpa [natCells] using HO.out, HBr⟩
    · obtain rfl : j = l.length := by omega
      go_wp2
      go_ret
      refine ⟨_, rfl, ?_, HB0.out.trans (HBr.out.mono (by omega))⟩
      rw [← HM.out]
      exact owns_base HO.out (by omega)
end Go.Proofs.YtbldchemgkfdcaaGreatDoor
