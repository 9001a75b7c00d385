/- laws: toNodeS, toValue. -/
import Derived.Test.YtbldchemgkfdcaaGreatDoorSz
import Derived.Deep.OwnRows
namespace Go.Proofs.YtbldchemgkfdcaaGreatDoor
open Go.RowKit

theorem run_make_any {P : Program} (t e : TypeId) (z : Value) (size bytes : Nat) (ht : P.underlying t = some (.slice e)) (hinfo : (P.info? e).map (fun i => (i.zero, i.size, i.bytes)) = some (some z, size, bytes))
    (kl kc : IntKind) (n : Nat) (hbytes : bytes * n ≤ 281474976710656) (h63 : n ≤ 9223372036854775807) (w : World) :
    (Instr.makeSlice t (.int kl (n : Int)) (.int kc (n : Int))).run P w = .ok (.slice (some ⟨w.heap.size, 0, none⟩) n n) (w.alloc (.cells (madeCells z.cells (n * size)) e)) := by
  obtain ⟨i, hi, hzz⟩ := Option.map_eq_some_iff.1 hinfo
  simp only [Prod.mk.injEq] at hzz
  obtain ⟨hz, hs, hb⟩ := hzz
  have hb' : (i.bytes : Int) * (n : Int) ≤ 281474976710656 := by
    rw [hb]
    have h : ((bytes * n : Nat) : Int) ≤ 281474976710656 := by omega
    rwa [Int.natCast_mul] at h
  have hr := run_make (P := P) w t e i z ht hi hz kl kc n n (by omega) (Int.le_refl _) hb' (by omega)
  simp only [Int.toNat_natCast, hs] at hr
  exact hr

theorem info_node' : (Tryz.prog.info? 63).map (fun i => (i.zero, i.size, i.bytes)) = some (some (.agg #[(.int .i64 0), (.int .i64 0), (.string ⟨#[]⟩), (.string ⟨#[]⟩), (.int .i64 0)]), 5, 56) := by kernel_rfl
/-- cell i of the row that is filled as far as node k -/
def fNode (l : List N) (k i : Nat) : Value := if i < k * 5 then ((l.flatMap N.cells)[i]?).getD (.int .i64 0) else (#[Value.int .i64 0, .int .i64 0, .string ⟨#[]⟩, .string ⟨#[]⟩, .int .i64 0][i % 5]?).getD (.int .i64 0)

theorem cells_len (l : List N) : (l.flatMap N.cells).length = l.length * 5 := by
  induction l with
  | nil => rfl
  | cons x l ih =>
    rw [List.flatMap_cons, List.length_append, ih, List.length_cons]
    show 5 + l.length * 5 = _
    omega
theorem cells_at : ∀ (l : List N) (k j : Nat) (hk : k < l.length), j < 5 → (l.flatMap N.cells)[k * 5 + j]? = (l[k]).cells[j]?
  | x :: l, 0, j, _, hj => by simp only [List.flatMap_cons, Nat.zero_mul, Nat.zero_add, List.getElem_cons_zero]; rw [List.getElem?_append_left (by simpa [N.cells] using hj)]
  | x :: l, k + 1, j, hk, hj => by
    simp only [List.flatMap_cons, List.getElem_cons_succ]
    rw [List.getElem?_append_right (by simp [N.cells]; omega), ← cells_at l k j (by simpa using hk) hj]
    congr 1; simp [N.cells]; omega
theorem fNode_step (l : List N) (k : Nat) (hk : k < l.length) (i : Nat) : (if i = k * 5 + 4 then Value.int .i64 l[k].up else if i = k * 5 + 3 then .string l[k].name else if i = k * 5 + 2 then .string l[k].text else if i = k * 5 + 1 then .int .i64 l[k].num else if i = k * 5 then .int .i64 l[k].kind else fNode l k i) = fNode l (k + 1) i := by
  have key : ∀ j, j < 5 → fNode l (k + 1) (k * 5 + j) = ((l[k]).cells[j]?).getD (.int .i64 0) := fun j hj => by
    unfold fNode; rw [if_pos (by omega), cells_at l k j hk hj]
  by_cases h4 : i = k * 5 + 4
  · subst h4; rw [if_pos rfl, key 4 (by omega)]; rfl
  rw [if_neg h4]
  by_cases h3 : i = k * 5 + 3
  · subst h3; rw [if_pos rfl, key 3 (by omega)]; rfl
  rw [if_neg h3]
  by_cases h2 : i = k * 5 + 2
  · subst h2; rw [if_pos rfl, key 2 (by omega)]; rfl
  rw [if_neg h2]
  by_cases h1 : i = k * 5 + 1
  · subst h1; rw [if_pos rfl, key 1 (by omega)]; rfl
  rw [if_neg h1]
  by_cases h0 : i = k * 5
  · subst h0; rw [if_pos rfl, show k * 5 = k * 5 + 0 from rfl, key 0 (by omega)]; rfl
  rw [if_neg h0]
  unfold fNode
  by_cases h : i < k * 5
  · rw [if_pos h, if_pos (by omega)]
  · rw [if_neg h, if_neg (by omega)]

set_option maxRecDepth 100000 in
set_option maxHeartbeats 1000000 in
theorem toNodeS_c (l : List N) (v : Value) (w : World) (S : Nat → Prop) (hl : l.length ≤ 1073741824) (h : Nods w S v l) (hS : ∀ b, S b → b < w.heap.size) :
    Calls Tryz.prog 36 #[v] w fun e w' => ∃ sv, e = .returned sv ∧ Made w' w.heap.size sv l ∧ sv = .slice (some ⟨w.heap.size, 0, none⟩) l.length l.length ∧ Below w.heap.size w w' := by
  obtain ⟨a, c, rfl⟩ := Row.form h
  have HR := Lib.hid h; have HS := Lib.hid hS
  clear h hS
  have m1 := run_make_any (P := Tryz.prog) 26 63 _ 5 56 Tryz.underlying26 info_node' .i64 .i64 l.length (by omega) (by omega)
  go_enter Tryz.func36, Tryz.ntmps36
  go_wp2
  go_loopg [4] l.length (fun gh i wr => ∃ k : Nat, k ≤ l.length ∧ gh = l.length - k ∧ i = .int .i64 k ∧ Hid (wr.rowIs w.heap.size 63 (l.length * 5) (fNode l k)) ∧ Hid (Below w.heap.size w wr))
  case atStart =>
    refine ⟨0, Nat.zero_le _, rfl, rfl, ⟨_, blk_new w _, size_madeCells _ _, fun i hi => ?_⟩, (Below.refl _ _).alloc (Nat.le_refl _) _⟩
    have : i % 5 < 5 := Nat.mod_lt _ (by decide)
    simp [madeCells, hi, fNode]
    rw [List.getElem?_eq_getElem (by simpa using this)]; rfl
  case round =>
    obtain ⟨k, hk, rfl, rfl, HRw, HBr⟩ := hrel
    have hlr := HRw.out.lt
    clear m1
    by_cases hlt : k < l.length
    · obtain ⟨g, off, rfl, hSg, x0, x1, x2, x3, x4⟩ := Nods.at HR.out hlt
      have hgb := HS.out g hSg
      have y0 := (HBr.out.cell (p := ⟨g, off + k * 5, none⟩) hgb).trans x0
      have y1 := (HBr.out.cell (p := ⟨g, off + k * 5 + 1, none⟩) hgb).trans x1
      have y2 := (HBr.out.cell (p := ⟨g, off + k * 5 + 2, none⟩) hgb).trans x2
      have y3 := (HBr.out.cell (p := ⟨g, off + k * 5 + 3, none⟩) hgb).trans x3
      have y4 := (HBr.out.cell (p := ⟨g, off + k * 5 + 4, none⟩) hgb).trans x4
      clear x0 x1 x2 x3 x4
      have q0 := HRw.out.cell (i := k * 5) (by omega)
      have q1 := HRw.out.cell (i := k * 5 + 1) (by omega)
      have q2 := HRw.out.cell (i := k * 5 + 2) (by omega)
      have q3 := HRw.out.cell (i := k * 5 + 3) (by omega)
      have q4 := HRw.out.cell (i := k * 5 + 4) (by omega)
      have f0 := HRw.out.frozen (k * 5)
      have f1 := HRw.out.frozen (k * 5 + 1)
      have f2 := HRw.out.frozen (k * 5 + 2)
      have f3 := HRw.out.frozen (k * 5 + 3)
      have f4 := HRw.out.frozen (k * 5 + 4)
      have HC := Lib.hid (toNode_c l[k] wr)
      go_wp2_with (go_at_call 67; refine HC.out.mono ?_; rintro e w1 ⟨rfl, hB⟩; have p0 := (hB.cell (p := ⟨w.heap.size, k * 5, none⟩) hlr).trans q0; have p1 := (hB.cell (p := ⟨w.heap.size, k * 5 + 1, none⟩) hlr).trans q1; have p2 := (hB.cell (p := ⟨w.heap.size, k * 5 + 2, none⟩) hlr).trans q2; have p3 := (hB.cell (p := ⟨w.heap.size, k * 5 + 3, none⟩) hlr).trans q3; have p4 := (hB.cell (p := ⟨w.heap.size, k * 5 + 4, none⟩) hlr).trans q4; have g0 := (hB.frozen (p := ⟨w.heap.size, k * 5, none⟩) hlr).trans f0; have g1 := (hB.frozen (p := ⟨w.heap.size, k * 5 + 1, none⟩) hlr).trans f1; have g2 := (hB.frozen (p := ⟨w.heap.size, k * 5 + 2, none⟩) hlr).trans f2; have g3 := (hB.frozen (p := ⟨w.heap.size, k * 5 + 3, none⟩) hlr).trans f3; have g4 := (hB.frozen (p := ⟨w.heap.size, k * 5 + 4, none⟩) hlr).trans f4)
      have HB2 := Lib.hid hB
      have HR1 := Lib.hid (HRw.out.of_block (hB.block _ hlr))
      go_roundg (l.length - (k + 1))
      case measure => omega
      case rel => exact ⟨k + 1, hlt, rfl, by go_num, ((((((HR1.out.set (k * 5) (.int .i64 l[k].kind)).set (k * 5 + 1) (.int .i64 l[k].num)).set (k * 5 + 2) (.string l[k].text)).set (k * 5 + 3) (.string l[k].name)).set (k * 5 + 4) (.int .i64 l[k].up)).congr (fun i _ => fNode_step l k hlt i)),
          (((((HBr.out.trans (HB2.out.mono (by omega))).setCell (p := ⟨w.heap.size, k * 5, none⟩) (Nat.le_refl _) _).setCell (p := ⟨w.heap.size, k * 5 + 1, none⟩) (Nat.le_refl _) _).setCell (p := ⟨w.heap.size, k * 5 + 2, none⟩) (Nat.le_refl _) _).setCell (p := ⟨w.heap.size, k * 5 + 3, none⟩) (Nat.le_refl _) _).setCell (p := ⟨w.heap.size, k * 5 + 4, none⟩) (Nat.le_refl _) _⟩
    · obtain rfl : k = l.length := by omega
      go_wp2
      go_ret
      refine ⟨_, rfl, ?_, rfl, HBr.out⟩
      obtain ⟨cs, hcs, hn, hc⟩ := HRw.out
      have hlen := cells_len l
      refine ⟨hlen, .inr ⟨w.heap.size, l.length, cs, rfl, Nat.le_refl _, hcs, Nat.le_refl _, by unfold maxLen; omega, hn, ?_⟩⟩
      rw [List.take_of_length_le (by simp; omega)]
      refine List.ext_getElem? fun i => ?_
      by_cases hi : i < l.length * 5
      · have := hc i hi
        unfold fNode at this
        have hi2 : i < (l.flatMap N.cells).length := by omega
        rw [if_pos hi, List.getElem?_eq_getElem hi2] at this
        rw [List.getElem?_eq_getElem hi2]
        simpa using this
      · rw [List.getElem?_eq_none (by simp; omega), List.getElem?_eq_none (by omega)]

set_option maxRecDepth 100000 in
theorem toValue_c (l : List N) (v : Value) (w : World) (S : Nat → Prop) (hl : l.length ≤ 1073741824) (h : Nods w S v l) (hS : ∀ b, S b → b < w.heap.size) :
    Calls Tryz.prog 10 #[.agg #[v]] w fun e w' => ∃ sv, e = .returned (.agg #[sv]) ∧ Made w' w.heap.size sv l ∧ Below w.heap.size w w' := by
  have HB0 := Lib.hid ((((Below.refl w.heap.size w).alloc (Nat.le_refl _) (.cells #[v] 24)).alloc (by simp) (.cells #[.slice none 0 0] 28)).alloc (by simp; omega) (.cells #[.slice none 0 0] 28))
  have HC := Lib.hid (toNodeS_c l v (((w.alloc (.cells #[v] 24)).alloc (.cells #[.slice none 0 0] 28)).alloc (.cells #[.slice none 0 0] 28)) S hl (Row.frame h (Below.fr HB0.out hS) HB0.out.size) (fun b hb => by have := hS b hb; simp; omega))
  obtain ⟨a, c, rfl⟩ := Row.form h
  clear h hS
  go_enter Tryz.func10, Tryz.ntmps10
  go_wp2_with (go_at_call 36; refine HC.out.mono ?_; rintro e w1 ⟨sv, rfl, hm, hsv, hB⟩; have HM := Lib.hid hm; have HB1 := Lib.hid hB; have b1 : w1.heap[w.heap.size + 1]? = some (.cells #[.slice none 0 0] 28) := (hB.block _ (by simp)).trans ((blk_old _ _ (by simp)).trans (by have := blk_new (w.alloc (.cells #[.slice a l.length c] 24)) (.cells #[.slice none 0 0] 28); simpa using this)); have b2 : w1.heap[w.heap.size + 1 + 1]? = some (.cells #[.slice none 0 0] 28) := (hB.block _ (by simp)).trans (by have := blk_new ((w.alloc (.cells #[.slice a l.length c] 24)).alloc (.cells #[.slice none 0 0] 28)) (.cells #[.slice none 0 0] 28); simpa using this); have c1 : w1.cell? ⟨w.heap.size + 1, 0, none⟩ = some (.slice none 0 0) := cell_blk b1 0; have f1 := fro_blk b1 0; have c2 : w1.cell? ⟨w.heap.size + 1 + 1, 0, none⟩ = some (.slice none 0 0) := cell_blk b2 0; have f2 := fro_blk b2 0; clear b1 b2 hm hB)
  have c1' : (w1.setCell ⟨w.heap.size + 1 + 1, 0, none⟩ (.slice (some ⟨w.heap.size + 1 + 1 + 1, 0, none⟩) l.length l.length)).cell? ⟨w.heap.size + 1, 0, none⟩ = some (.slice none 0 0) :=
    (World.cell?_of_block (a := ⟨w.heap.size + 1, 0, none⟩) (Below.heap_setCell _ _ _ _ (by simp))).trans c1
  have k2 := World.cell?_setCell_same _ ⟨w.heap.size + 1, 0, none⟩ (.slice (some ⟨w.heap.size + 1 + 1 + 1, 0, none⟩) l.length l.length) c1'
  refine bodyPost_ret (v := .agg #[.slice (some ⟨w.heap.size + 1 + 1 + 1, 0, none⟩) l.length l.length]) (by simp [results, Tryz.results10, go_sem, k2]) rfl ⟨_, rfl, ?_, ?_⟩
  · have hm3 : Made w1 (w.heap.size + 1 + 1 + 1) (.slice (some ⟨w.heap.size + 1 + 1 + 1, 0, none⟩) l.length l.length) l := by have := HM.out; rw [hsv] at this; simpa using this
    exact owns_base (ownsRow_setCell_below (ownsRow_setCell_below hm3 (a := ⟨w.heap.size + 1 + 1, 0, none⟩) (Nat.lt_succ_self _) _) (a := ⟨w.heap.size + 1, 0, none⟩) (show w.heap.size + 1 < w.heap.size + 1 + 1 + 1 by omega) _) (by omega)
  · exact ((HB0.out.trans (HB1.out.mono (by simp; omega))).setCell (p := ⟨w.heap.size + 1 + 1, 0, none⟩) (by simp; omega) _).setCell (p := ⟨w.heap.size + 1, 0, none⟩) (by simp) _
end Go.Proofs.YtbldchemgkfdcaaGreatDoor
