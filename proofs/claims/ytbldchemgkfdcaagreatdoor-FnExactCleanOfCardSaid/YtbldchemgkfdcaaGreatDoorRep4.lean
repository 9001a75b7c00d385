/- (*strings.Replacer).Replace, the first time. -/
import Derived.Test.YtbldchemgkfdcaaGreatDoorRep3
namespace Go.Proofs.YtbldchemgkfdcaaGreatDoor
open Go.RowKit

theorem NewR.cells {B b : Nat} {o1 o2 a1 a2 c1 c2 : UInt8} {w : World} (h : NewR B b o1 o2 a1 a2 c1 c2 w) : w.cell? ⟨b, 0, none⟩ = some (.int .u32 0) ∧ w.cell? ⟨b, 1, none⟩ = some (.int .i32 0) ∧ w.frozen? ⟨b, 0, none⟩ = false ∧ w.frozen? ⟨b, 1, none⟩ = false := by
  obtain ⟨g, cap, hB, hb, _⟩ := h
  exact ⟨cell_blk hb 0, cell_blk hb 1, fro_blk hb 0, fro_blk hb 1⟩

set_option maxRecDepth 100000 in
set_option maxHeartbeats 1000000 in
theorem do_c (B b : Nat) (o1 o2 a1 a2 c1 c2 : UInt8) (hne : o1 ≠ o2) (w : World) (_hBw : B ≤ w.heap.size) (h : NewR B b o1 o2 a1 a2 c1 c2 w) :
    Calls Tryz.prog 116 #[.pointer (some ⟨b, 0, none⟩), .func (.func 117) #[.pointer (some ⟨b, 0, none⟩)] #[]] w fun e w' => e = .returned (.tuple #[]) ∧ (∃ p, OldR w.heap.size b p 1 0 o1 o2 [a1, a2] [c1, c2] w') ∧ w.grownBy w' (some b) := by
  obtain ⟨k0, k1, f0, f1⟩ := h.cells
  obtain ⟨g, cap, hB, hb, hgb, h0, h1, h2, h3⟩ := h
  have e1 := heap_setCell_same w b 1 _ _ (.int .i32 1) hb
  have ho := fun j => World.cell?_setCell_other w ⟨b, 1, none⟩ ⟨g, j, none⟩ (.int .i32 1) (by intro h; simp only [Addr.mk.injEq] at h; exact hgb h.1.symm)
  have gs : w.grownBy (w.setCell ⟨b, 1, none⟩ (.int .i32 1)) (some b) := ⟨rfl, rfl, rfl, by simp, fun k _ hk => heap_setCell_other w _ k _ (fun e => hk (by rw [e]))⟩
  refine (sy_do b _ w (fun w1 => (∃ p, OldR w.heap.size b p 0 1 o1 o2 [a1, a2] [c1, c2] w1) ∧ w.grownBy w1 (some b)) k0 k1 f1 ((buildOnce_c b g cap 0 1 o1 o2 a1 a2 c1 c2 hne (w.setCell ⟨b, 1, none⟩ (.int .i32 1)) e1 ((ho 0).trans h0) ((ho 1).trans h1) ((ho 2).trans h2) ((ho 3).trans h3)).mono ?_)).mono ?_
  · rintro e w1 ⟨rfl, ⟨p, hO⟩, hg⟩
    have hsz : (w.setCell ⟨b, 1, none⟩ (.int .i32 1)).heap.size = w.heap.size := by simp
    rw [hsz] at hO
    exact ⟨rfl, cell_blk hO.1 0, cell_blk hO.1 1, fro_blk hO.1 0, fro_blk hO.1 1, ⟨p, hO⟩, ⟨hg.os.trans gs.os, hg.tape.trans gs.tape, hg.output.trans gs.output, Nat.le_trans gs.size hg.size, fun k hk hn => (hg.block k (by rw [hsz]; exact hk) hn).trans (gs.block k hk hn)⟩⟩
  · rintro e w' ⟨rfl, w1, ⟨⟨p, hO⟩, hg⟩, _, _, rfl⟩
    have g1 : w1.grownBy ((w1.drew.setCell ⟨b, 0, none⟩ (.int .u32 1)).setCell ⟨b, 1, none⟩ (.int .i32 0)) (some b) :=
      ⟨rfl, rfl, rfl, by simp, fun k _ hk => (heap_setCell_other _ _ k _ (fun e => hk (by rw [e]))).trans (heap_setCell_other w1.drew _ k _ (fun e => hk (by rw [e])))⟩
    refine ⟨rfl, ⟨p, ?_, hO.2.of g1 hO.1⟩, ⟨hg.os, hg.tape, hg.output, Nat.le_trans hg.size g1.size, fun k hk hn => (g1.block k (Nat.lt_of_lt_of_le hk hg.size) hn).trans (hg.block k hk hn)⟩⟩
    have q1 := heap_setCell_same w1.drew b 0 _ _ (.int .u32 1) hO.1
    exact heap_setCell_same _ b 1 _ _ (.int .i32 0) q1

set_option maxRecDepth 100000 in
set_option maxHeartbeats 1000000 in
theorem replace_c (B b : Nat) (s : ByteArray) (o1 o2 a1 a2 c1 c2 : UInt8) (hne : o1 ≠ o2) (w : World) (hBw : B ≤ w.heap.size) (hs : s.size ≤ 1099511627776) (h : NewR B b o1 o2 a1 a2 c1 c2 w) :
    Calls Tryz.prog 102 #[.pointer (some ⟨b, 0, none⟩), .string s] w fun e w' => e = .returned (.string ⟨⟨repl o1 o2 [a1, a2] [c1, c2] s.data.toList⟩⟩) ∧ Below B w w' := by
  have HD := Lib.hid (do_c B b o1 o2 a1 a2 c1 c2 hne w hBw h)
  have hB := h.choose_spec.choose_spec.1
  obtain ⟨k0, k1, f0, f1⟩ := h.cells
  have hmf : ∀ (fn : Fn) (first cap : Array Value) (w : World), (Instr.makeFunc fn first cap).run Tryz.prog w = .ok (.func fn first cap) w := fun _ _ _ _ => rfl
  clear h
  go_enter Tryz.func102, Tryz.ntmps102
  go_wp2_with (first | (go_at_call 116; refine HD.out.mono ?_; rintro e w1 ⟨rfl, ⟨p, hO⟩, hg⟩; have j3 := cell_blk hO.1 3; simp only [List.getElem?_toArray, List.getElem?_cons_zero, List.getElem?_cons_succ] at j3; have HO := Lib.hid hO; have HG := Lib.hid hg; clear hO hg) | (go_at_call 203; refine (bsr_replace_c _ p s o1 o2 a1 a2 c1 c2 hne _ hs HO.out.2).mono ?_; rintro e w2 ⟨rfl, hI⟩))
  go_ret
  exact ⟨rfl, (((Below.refl B w).grown HG.out hBw (fun k hk => by simp only [Option.some.injEq] at hk; omega))).trans (hI.mono (Nat.le_trans hBw HG.out.size))⟩
end Go.Proofs.YtbldchemgkfdcaaGreatDoor
