/- spec.l1Put: a part with a name behind all others. -/
import Derived.Test.YtbldchemgkfdcaaGreatDoorPut
namespace Go.Proofs.YtbldchemgkfdcaaGreatDoor
open Go.RowKit

theorem le_of_lt {a b : ByteArray} (h : ltP a b) : (Op.bytesLess a.toList b.toList || a.toList == b.toList) = true := by
  have : Op.bytesLess a.toList b.toList = true := h
  rw [this]; rfl

set_option linter.unusedSimpArgs false in
set_option maxRecDepth 100000 in
set_option maxHeartbeats 4000000 in
theorem l1Put_c (nn : List ByteArray) (ts : List T) (t' : T) (nm : ByteArray) (an ak : Option Addr) (cn ck : Nat) (an' ak' : Option Addr) (cn' ck' : Nat) (w : World) (S : Nat → Prop) (hl : nn.length = ts.length) (hb : ts.length ≤ 1099511627) (hlt : ∀ s ∈ nn, ltP s nm)
    (hnil : (an = none ∧ ak = none ∧ cn = 0 ∧ ck = 0 ∧ ts = []) ∨ ∃ gn gk, an = some ⟨gn, 0, none⟩ ∧ ak = some ⟨gk, 0, none⟩)
    (hv : IsV w S (.mk 7 0 ⟨#[]⟩ nn ts) [.int .i64 7, .int .i64 0, .string ⟨#[]⟩, .slice an nn.length cn, .slice ak ts.length ck])
    (hx : IsV w S t' [.int .i64 t'.kind, .int .i64 t'.num, .string t'.text, .slice an' t'.names.length cn', .slice ak' t'.kids.length ck']) (hS : ∀ b, S b → b < w.heap.size) :
    Calls Tryz.prog 78 #[.agg #[.int .i64 7, .int .i64 0, .string ⟨#[]⟩, .slice an nn.length cn, .slice ak ts.length ck], .string nm, .agg #[.int .i64 t'.kind, .int .i64 t'.num, .string t'.text, .slice an' t'.names.length cn', .slice ak' t'.kids.length ck']] w fun e w' =>
      ∃ gn cn2 gk ck2, e = .returned (.agg #[.int .i64 7, .int .i64 0, .string ⟨#[]⟩, .slice (some ⟨gn, 0, none⟩) (nn ++ [nm]).length cn2, .slice (some ⟨gk, 0, none⟩) (ts ++ [t']).length ck2]) ∧
        IsV w' (fun b => S b ∨ w.heap.size ≤ b) (.mk 7 0 ⟨#[]⟩ (nn ++ [nm]) (ts ++ [t'])) [.int .i64 7, .int .i64 0, .string ⟨#[]⟩, .slice (some ⟨gn, 0, none⟩) (nn ++ [nm]).length cn2, .slice (some ⟨gk, 0, none⟩) (ts ++ [t']).length ck2] ∧ Below w.heap.size w w' := by
  rw [← hl] at hv hb ⊢
  obtain ⟨sn, sk, vs, heq, hnames, hrow, hkids⟩ := hv
  rw [← hl] at hrow
  simp only [List.cons.injEq, true_and, and_true] at heq
  obtain ⟨rfl, rfl⟩ := heq
  have HN := Lib.hid hnames; have HR := Lib.hid hrow; have HK := Lib.hid hkids; have HX := Lib.hid hx; have HS := Lib.hid hS; have HLt := Lib.hid hlt
  clear hnames hrow hkids hx hS hlt
  obtain ⟨iq, hiq, hq0, hq1, hq2⟩ := info_parts info_str
  obtain ⟨ip, hip, hp0, hp1, hp2⟩ := info_parts info_l1V
  have HNl := Lib.hid hnil; have HL := Lib.hid hl
  have hbn : nn.length ≤ 1099511627 := by omega
  clear hnil hl
  go_enter Tryz.func78, Tryz.ntmps78
  go_wp2
  go_loopg [7] nn.length (fun gh i wr => ∃ j : Nat, j ≤ nn.length ∧ gh = nn.length - j ∧ i = .int .i64 j ∧ Hid (wr.heap.size = w.heap.size + 3) ∧ Hid (Below w.heap.size w wr) ∧
    Hid (wr.heap[w.heap.size]? = some (.cells #[.int .i64 7, .int .i64 0, .string ⟨#[]⟩, .slice an nn.length cn, .slice ak nn.length ck] 59 (0, 0))) ∧
    Hid (wr.heap[w.heap.size + 1]? = some (.cells #[.int .i64 t'.kind, .int .i64 t'.num, .string t'.text, .slice an' t'.names.length cn', .slice ak' t'.kids.length ck'] 59 (0, 0))) ∧
    Hid (wr.heap[w.heap.size + 1 + 1]? = some (.cells #[.int .i64 0, .int .i64 0, .string ⟨#[]⟩, .slice none 0 0, .slice none 0 0] 59 (0, 0))))
  case atStart =>
    refine ⟨0, Nat.zero_le _, rfl, rfl, by simp [Hid], ((((Below.refl w.heap.size w).alloc (Nat.le_refl _) _).alloc (by simp) _).alloc (by simp; omega) _), ?_, ?_, ?_⟩
    · exact blkC rfl
    · exact blkB (by simp)
    · exact blkA (by simp)
  case round =>
    obtain ⟨j, hj, rfl, rfl, HSz, HB, HB0, HB1, HB2⟩ := hrel
    have hsz := HSz.out
    obtain ⟨d0, d1, d2, d3, d4⟩ := val_cells HB0.out
    by_cases hlt : j < nn.length
    · obtain ⟨g, off, hak, hSg, hcell⟩ := HN.out.at hlt
      subst hak
      have hgb := HS.out g hSg
      have hle := le_of_lt (HLt.out nn[j] (List.getElem_mem _))
      have hle' := hle
      have y := (HB.out.cell (p := ⟨g, off + j, none⟩) hgb).trans hcell
      rw [show nn.getD j ⟨#[]⟩ = nn[j] by simp [hlt]] at y
      go_wp2
      go_roundg (nn.length - (j + 1))
      case measure => omega
      case rel => exact ⟨j + 1, hlt, rfl, by go_num, HSz, HB, HB0, HB1, HB2⟩
    · obtain rfl : j = nn.length := by omega
      rcases HNl.out with ⟨rfl, rfl, rfl, rfl, rfl⟩ | ⟨gn, gk, rfl, rfl⟩
      · obtain rfl : nn = [] := List.eq_nil_of_length_eq_zero (by simpa using HL.out)
        go_upto_region 7 with fail
        have HPw7 : Hid (PU (wr.alloc (.cells #[.int .i64 7, .int .i64 0, .string ⟨#[]⟩, .slice none 0 0, .slice none 0 0] 59)) (w.heap.size + 3) 7 (.slice none 0 0) (.slice none 0 0) (.slice none 0 0) [] (.slice none 0 0) 0 []) := ⟨blkA hsz, World.ownsRow_nil _ _ _ _, World.ownsRow_nil _ _ _ _⟩
        have HBw7 : Hid (Below (w.heap.size + 3) wr (wr.alloc (.cells #[.int .i64 7, .int .i64 0, .string ⟨#[]⟩, .slice none 0 0, .slice none 0 0] 59))) := (Below.refl _ _).alloc (by omega) _
        obtain ⟨w7, hw7⟩ : ∃ w7, wr.alloc (.cells #[.int .i64 7, .int .i64 0, .string ⟨#[]⟩, .slice none 0 0, .slice none 0 0] 59) = w7 := ⟨_, rfl⟩
        rw [hw7] at HPw7 HBw7 ⊢
        clear hw7
        go_upto_region 7 with fail
        refine wp_region_N (fun w' => w'.cell? ⟨w.heap.size + 3, 4, none⟩ = some (.slice none 0 0) ∧ w'.cell? ⟨w.heap.size, 4, none⟩ = some (.slice none 0 0)) 8 (by kernel_rfl) ?_
        have hS0 : (fun w' => w'.cell? ⟨w.heap.size + 3, 4, none⟩ = some (.slice none 0 0) ∧ w'.cell? ⟨w.heap.size, 4, none⟩ = some (.slice none 0 0)) w7.drew := ⟨cell_blk HPw7.out.blk 4, (HBw7.out.cell (p := ⟨w.heap.size, 4, none⟩) (by simp)).trans (cell_blk HB0.out 4)⟩
        refine wpAnyN_pure (i := 0) (v := ?_) (some 34) rfl rfl (by kernel_rfl) (by kernel_rfl) (by kernel_rfl) (by decide) (fun _ _ _ h => h) (Or.inl ⟨by rfl, ?_⟩) (fun _ => hS0) ?_
        rotate_left
        · intro wz _; go_simp
          try with_reducible rfl
        simp only [Act.put, List.setIfInBounds_toArray, List.set_cons_zero, List.set_cons_succ]
        refine wpAnyN_take (i := 1) (v := ?_) (some 35) rfl rfl (by kernel_rfl) (by kernel_rfl) (by kernel_rfl) (by kernel_rfl) (by decide) (by kernel_rfl) (fun _ _ _ h => h) (Or.inl ⟨by rfl, ?_⟩) hS0 ?_
        rotate_left
        · intro wz hSw; obtain ⟨s1, s2⟩ := hSw; go_simp
          try with_reducible rfl
        simp only [Act.put, List.setIfInBounds_toArray, List.set_cons_zero, List.set_cons_succ]
        refine wpAnyN_pure (i := 2) (v := ?_) (some 36) rfl rfl (by kernel_rfl) (by kernel_rfl) (by kernel_rfl) (by decide) (fun _ _ _ h => h) (Or.inl ⟨by rfl, ?_⟩) (fun _ => hS0) ?_
        rotate_left
        · intro wz _; go_simp
          try with_reducible rfl
        simp only [Act.put, List.setIfInBounds_toArray, List.set_cons_zero, List.set_cons_succ]
        refine wpAnyN_take (i := 3) (v := ?_) (some 37) rfl rfl (by kernel_rfl) (by kernel_rfl) (by kernel_rfl) (by kernel_rfl) (by decide) (by kernel_rfl) (fun _ _ _ h => h) (Or.inl ⟨by rfl, ?_⟩) hS0 ?_
        rotate_left
        · intro wz hSw; obtain ⟨s1, s2⟩ := hSw; go_simp
          try with_reducible rfl
        simp only [Act.put, List.setIfInBounds_toArray, List.set_cons_zero, List.set_cons_succ]
        refine wpAnyN_pure (i := 4) (v := ?_) (some 38) rfl rfl (by kernel_rfl) (by kernel_rfl) (by kernel_rfl) (by decide) (fun _ _ _ h => h) (Or.inl ⟨by rfl, ?_⟩) (fun _ => hS0) ?_
        rotate_left
        · intro wz _; go_simp
          try with_reducible rfl
        simp only [Act.put, List.setIfInBounds_toArray, List.set_cons_zero, List.set_cons_succ]
        refine wpAnyN_pure (i := 5) (v := ?_) (some 39) rfl rfl (by kernel_rfl) (by kernel_rfl) (by kernel_rfl) (by decide) (fun _ _ _ h => h) (Or.inl ⟨by rfl, ?_⟩) (fun _ => hS0) ?_
        rotate_left
        · intro wz _; go_simp
          try with_reducible rfl
        simp only [Act.put, List.setIfInBounds_toArray, List.set_cons_zero, List.set_cons_succ]
        refine wpAnyN_one (i := 6) (by kernel_rfl) rfl (fun K hK => ?_)
        have hpd := HPw7.out.call (Below.refl _ _).drew
        refine step_append_gen rfl (.tmp 35) (.tmp 39) 57 rfl (w.heap.size + 3 + 1) 59 ip _ 5 80 Tryz.underlying57 hip hp0 hp1 hp2 rfl (by decide) (.slice none 0 0) 0 [] rfl hpd.ok (.slice none 0 0) 0 [] rfl (.inl ⟨rfl, rfl, rfl⟩) (by simp) (by unfold maxLen; omega) (by omega) (Nat.succ_le_of_lt hpd.lt) ?_
        intro vw8 w8 hown hgr
        simp only [Nat.zero_add, Nat.add_zero, List.nil_append, List.append_nil] at hown
        obtain ⟨xw8, yw8, rfl⟩ := owns_form hown
        have HPw8 := Lib.hid (hpd.appK hown hgr)
        have HBw8 := Lib.hid (HBw7.out.drew.trans (hpd.belowK hgr))
        clear hown hgr hpd
        refine hK.out _ w8 ⟨cell_blk HPw8.out.blk 4, (HBw8.out.cell (p := ⟨w.heap.size, 4, none⟩) (by simp)).trans (cell_blk HB0.out 4)⟩ ?_
        clear hK K hS0 HPw7 HBw7
        simp only [Act.put, List.setIfInBounds_toArray, List.set_cons_zero, List.set_cons_succ]
        refine wpAnyN_pure (i := 7) (v := ?_) (some 41) rfl rfl (by kernel_rfl) (by kernel_rfl) (by kernel_rfl) (by decide) (fun _ _ _ h => h) (Or.inl ⟨by rfl, ?_⟩) (fun _ => ⟨cell_blk HPw8.out.blk 4, (HBw8.out.cell (p := ⟨w.heap.size, 4, none⟩) (by simp)).trans (cell_blk HB0.out 4)⟩) ?_
        rotate_left
        · intro wz _; go_simp
          try with_reducible rfl
        simp only [Act.put, List.setIfInBounds_toArray, List.set_cons_zero, List.set_cons_succ]
        have k3 := cell_blk HPw8.out.blk 4; have f3 := fro_blk HPw8.out.blk 4
        simp only [List.getElem?_toArray, List.getElem?_cons_zero, List.getElem?_cons_succ] at k3
        refine wpAnyN_late (i := 8) (by kernel_rfl) (by kernel_rfl) rfl (fun K hK => ?_)
        go_simp
        refine hK.out _ (w8.setCell ⟨w.heap.size + 3, 4, none⟩ (.slice xw8 0 yw8)) ?_
        have HPw9 := Lib.hid (HPw8.out.set4 (.slice xw8 0 yw8))
        have HBw9 := Lib.hid (HBw8.out.setCell (p := ⟨w.heap.size + 3, 4, none⟩) (Nat.le_refl _) (.slice xw8 0 yw8))
        obtain ⟨w9, hw9⟩ : ∃ w9, w8.setCell ⟨w.heap.size + 3, 4, none⟩ (.slice xw8 0 yw8) = w9 := ⟨_, rfl⟩
        rw [hw9] at HPw9 HBw9 ⊢
        clear hw9 hK K HPw8 HBw8 k3 f3
        refine wpAnyN_done (by kernel_rfl) ?_ _
        have k3 := cell_blk HPw9.out.blk 4; have f3 := fro_blk HPw9.out.blk 4
        simp only [List.getElem?_toArray, List.getElem?_cons_zero, List.getElem?_cons_succ] at k3
        obtain ⟨x0, x1, x2, x3, x4⟩ := val_cells ((HBw9.out.block (w.heap.size + 1) (by omega)).trans HB1.out)
        have hpl := HPw9.out.lt
        go_wp2_with (at_builtin; go_loud (refine wpList_append_own _ rfl (.tmp 43) (.tmp 45) 57 rfl (w.heap.size + 3 + 1) 59 ip _ 5 80 Tryz.underlying57 hip hp0 hp1 hp2 rfl (by decide) (.slice xw8 0 yw8) 0 [] rfl (HPw9.out.ok.alloc _) ⟨w9.heap.size, 0, none⟩ 1 1 [.int .i64 t'.kind, .int .i64 t'.num, .string t'.text, .slice an' t'.names.length cn', .slice ak' t'.kids.length ck'] rfl rfl (by intro j u hu; exact cells_new hu) (by intro u hu; simp at hu; rcases hu with rfl | rfl | rfl | rfl | rfl <;> rfl) (by unfold maxLen; omega) (by omega) (by simp; omega) ?_))
        intro vw10 w10 hown hgr _
        obtain ⟨xw10, yw10, rfl⟩ := owns_form hown
        have hpd := HPw9.out.call ((Below.refl _ _).alloc (Nat.le_refl _) (.cells #[.int .i64 t'.kind, .int .i64 t'.num, .string t'.text, .slice an' t'.names.length cn', .slice ak' t'.kids.length ck'] 59))
        have HPw10 := Lib.hid (hpd.appK hown hgr)
        have HBw10 := Lib.hid ((HBw9.out.alloc (by omega) (.cells #[.int .i64 t'.kind, .int .i64 t'.num, .string t'.text, .slice an' t'.names.length cn', .slice ak' t'.kids.length ck'] 59)).trans (hpd.belowK hgr))
        clear hown hgr hpd k3 f3 hpl
        have k3 := cell_blk HPw10.out.blk 4; have f3 := fro_blk HPw10.out.blk 4
        simp only [List.getElem?_toArray, List.getElem?_cons_zero, List.getElem?_cons_succ] at k3
        clear x0 x1 x2 x3 x4
        go_upto_region 9 with fail
        have HPw11 := Lib.hid (HPw10.out.set4 (.slice xw10 1 yw10))
        have HBw11 := Lib.hid (HBw10.out.setCell (p := ⟨w.heap.size + 3, 4, none⟩) (Nat.le_refl _) (.slice xw10 1 yw10))
        obtain ⟨w11, hw11⟩ : ∃ w11, w10.setCell ⟨w.heap.size + 3, 4, none⟩ (.slice xw10 1 yw10) = w11 := ⟨_, rfl⟩
        rw [hw11] at HPw11 HBw11 ⊢
        clear hw11 HPw10 HBw10 k3 f3
        refine wp_region_N (fun w' => w'.cell? ⟨w.heap.size + 3, 4, none⟩ = some (.slice xw10 1 yw10) ∧ w'.cell? ⟨w.heap.size, 4, none⟩ = some (.slice none 0 0)) 8 (by kernel_rfl) ?_
        have hS0 : (fun w' => w'.cell? ⟨w.heap.size + 3, 4, none⟩ = some (.slice xw10 1 yw10) ∧ w'.cell? ⟨w.heap.size, 4, none⟩ = some (.slice none 0 0)) w11.drew := ⟨cell_blk HPw11.out.blk 4, (HBw11.out.cell (p := ⟨w.heap.size, 4, none⟩) (by simp)).trans (cell_blk HB0.out 4)⟩
        refine wpAnyN_pure (i := 0) (v := ?_) (some 48) rfl rfl (by kernel_rfl) (by kernel_rfl) (by kernel_rfl) (by decide) (fun _ _ _ h => h) (Or.inl ⟨by rfl, ?_⟩) (fun _ => hS0) ?_
        rotate_left
        · intro wz _; go_simp
          try with_reducible rfl
        simp only [Act.put, List.setIfInBounds_toArray, List.set_cons_zero, List.set_cons_succ]
        refine wpAnyN_take (i := 1) (v := ?_) (some 49) rfl rfl (by kernel_rfl) (by kernel_rfl) (by kernel_rfl) (by kernel_rfl) (by decide) (by kernel_rfl) (fun _ _ _ h => h) (Or.inl ⟨by rfl, ?_⟩) hS0 ?_
        rotate_left
        · intro wz hSw; obtain ⟨s1, s2⟩ := hSw; go_simp
          try with_reducible rfl
        simp only [Act.put, List.setIfInBounds_toArray, List.set_cons_zero, List.set_cons_succ]
        refine wpAnyN_pure (i := 2) (v := ?_) (some 50) rfl rfl (by kernel_rfl) (by kernel_rfl) (by kernel_rfl) (by decide) (fun _ _ _ h => h) (Or.inl ⟨by rfl, ?_⟩) (fun _ => hS0) ?_
        rotate_left
        · intro wz _; go_simp
          try with_reducible rfl
        simp only [Act.put, List.setIfInBounds_toArray, List.set_cons_zero, List.set_cons_succ]
        refine wpAnyN_take (i := 3) (v := ?_) (some 51) rfl rfl (by kernel_rfl) (by kernel_rfl) (by kernel_rfl) (by kernel_rfl) (by decide) (by kernel_rfl) (fun _ _ _ h => h) (Or.inl ⟨by rfl, ?_⟩) hS0 ?_
        rotate_left
        · intro wz hSw; obtain ⟨s1, s2⟩ := hSw; go_simp
          try with_reducible rfl
        simp only [Act.put, List.setIfInBounds_toArray, List.set_cons_zero, List.set_cons_succ]
        refine wpAnyN_pure (i := 4) (v := ?_) (some 52) rfl rfl (by kernel_rfl) (by kernel_rfl) (by kernel_rfl) (by decide) (fun _ _ _ h => h) (Or.inl ⟨by rfl, ?_⟩) (fun _ => hS0) ?_
        rotate_left
        · intro wz _; go_simp
          try with_reducible rfl
        simp only [Act.put, List.setIfInBounds_toArray, List.set_cons_zero, List.set_cons_succ]
        refine wpAnyN_pure (i := 5) (v := ?_) (some 53) rfl rfl (by kernel_rfl) (by kernel_rfl) (by kernel_rfl) (by decide) (fun _ _ _ h => h) (Or.inl ⟨by rfl, ?_⟩) (fun _ => hS0) ?_
        rotate_left
        · intro wz _; go_simp
          try with_reducible rfl
        simp only [Act.put, List.setIfInBounds_toArray, List.set_cons_zero, List.set_cons_succ]
        refine wpAnyN_one (i := 6) (by kernel_rfl) rfl (fun K hK => ?_)
        have hpd := HPw11.out.call (Below.refl _ _).drew
        refine step_append_gen rfl (.tmp 49) (.tmp 53) 57 rfl (w.heap.size + 3 + 1) 59 ip _ 5 80 Tryz.underlying57 hip hp0 hp1 hp2 rfl (by decide) (.slice xw10 1 yw10) 1 [.int .i64 t'.kind, .int .i64 t'.num, .string t'.text, .slice an' t'.names.length cn', .slice ak' t'.kids.length ck'] rfl hpd.ok (.slice none 0 0) 0 [] rfl (.inl ⟨rfl, rfl, rfl⟩) (by simp) (by unfold maxLen; omega) (by omega) (Nat.succ_le_of_lt hpd.lt) ?_
        intro vw12 w12 hown hgr
        simp only [Nat.zero_add, Nat.add_zero, List.nil_append, List.append_nil] at hown
        obtain ⟨xw12, yw12, rfl⟩ := owns_form hown
        have HPw12 := Lib.hid (hpd.appK hown hgr)
        have HBw12 := Lib.hid (HBw11.out.drew.trans (hpd.belowK hgr))
        clear hown hgr hpd
        refine hK.out _ w12 ⟨cell_blk HPw12.out.blk 4, (HBw12.out.cell (p := ⟨w.heap.size, 4, none⟩) (by simp)).trans (cell_blk HB0.out 4)⟩ ?_
        clear hK K hS0 HPw11 HBw11
        simp only [Act.put, List.setIfInBounds_toArray, List.set_cons_zero, List.set_cons_succ]
        refine wpAnyN_pure (i := 7) (v := ?_) (some 55) rfl rfl (by kernel_rfl) (by kernel_rfl) (by kernel_rfl) (by decide) (fun _ _ _ h => h) (Or.inl ⟨by rfl, ?_⟩) (fun _ => ⟨cell_blk HPw12.out.blk 4, (HBw12.out.cell (p := ⟨w.heap.size, 4, none⟩) (by simp)).trans (cell_blk HB0.out 4)⟩) ?_
        rotate_left
        · intro wz _; go_simp
          try with_reducible rfl
        simp only [Act.put, List.setIfInBounds_toArray, List.set_cons_zero, List.set_cons_succ]
        have k3 := cell_blk HPw12.out.blk 4; have f3 := fro_blk HPw12.out.blk 4
        simp only [List.getElem?_toArray, List.getElem?_cons_zero, List.getElem?_cons_succ] at k3
        refine wpAnyN_late (i := 8) (by kernel_rfl) (by kernel_rfl) rfl (fun K hK => ?_)
        go_simp
        refine hK.out _ (w12.setCell ⟨w.heap.size + 3, 4, none⟩ (.slice xw12 1 yw12)) ?_
        have HPw13 := Lib.hid (HPw12.out.set4 (.slice xw12 1 yw12))
        have HBw13 := Lib.hid (HBw12.out.setCell (p := ⟨w.heap.size + 3, 4, none⟩) (Nat.le_refl _) (.slice xw12 1 yw12))
        obtain ⟨w13, hw13⟩ : ∃ w13, w12.setCell ⟨w.heap.size + 3, 4, none⟩ (.slice xw12 1 yw12) = w13 := ⟨_, rfl⟩
        rw [hw13] at HPw13 HBw13 ⊢
        clear hw13 hK K HPw12 HBw12 k3 f3
        refine wpAnyN_done (by kernel_rfl) ?_ _
        have e0 := (HBw13.out.cell (p := ⟨w.heap.size, 0, none⟩) (by simp)).trans d0
        go_upto_region 11 with fail
        refine wp_region_N (fun w' => w'.cell? ⟨w.heap.size + 3, 3, none⟩ = some (.slice none 0 0) ∧ w'.cell? ⟨w.heap.size, 3, none⟩ = some (.slice none 0 0)) 8 (by kernel_rfl) ?_
        have hS0 : (fun w' => w'.cell? ⟨w.heap.size + 3, 3, none⟩ = some (.slice none 0 0) ∧ w'.cell? ⟨w.heap.size, 3, none⟩ = some (.slice none 0 0)) w13.drew := ⟨cell_blk HPw13.out.blk 3, (HBw13.out.cell (p := ⟨w.heap.size, 3, none⟩) (by simp)).trans (cell_blk HB0.out 3)⟩
        refine wpAnyN_pure (i := 0) (v := ?_) (some 59) rfl rfl (by kernel_rfl) (by kernel_rfl) (by kernel_rfl) (by decide) (fun _ _ _ h => h) (Or.inl ⟨by rfl, ?_⟩) (fun _ => hS0) ?_
        rotate_left
        · intro wz _; go_simp
          try with_reducible rfl
        simp only [Act.put, List.setIfInBounds_toArray, List.set_cons_zero, List.set_cons_succ]
        refine wpAnyN_take (i := 1) (v := ?_) (some 60) rfl rfl (by kernel_rfl) (by kernel_rfl) (by kernel_rfl) (by kernel_rfl) (by decide) (by kernel_rfl) (fun _ _ _ h => h) (Or.inl ⟨by rfl, ?_⟩) hS0 ?_
        rotate_left
        · intro wz hSw; obtain ⟨s1, s2⟩ := hSw; go_simp
          try with_reducible rfl
        simp only [Act.put, List.setIfInBounds_toArray, List.set_cons_zero, List.set_cons_succ]
        refine wpAnyN_pure (i := 2) (v := ?_) (some 61) rfl rfl (by kernel_rfl) (by kernel_rfl) (by kernel_rfl) (by decide) (fun _ _ _ h => h) (Or.inl ⟨by rfl, ?_⟩) (fun _ => hS0) ?_
        rotate_left
        · intro wz _; go_simp
          try with_reducible rfl
        simp only [Act.put, List.setIfInBounds_toArray, List.set_cons_zero, List.set_cons_succ]
        refine wpAnyN_take (i := 3) (v := ?_) (some 62) rfl rfl (by kernel_rfl) (by kernel_rfl) (by kernel_rfl) (by kernel_rfl) (by decide) (by kernel_rfl) (fun _ _ _ h => h) (Or.inl ⟨by rfl, ?_⟩) hS0 ?_
        rotate_left
        · intro wz hSw; obtain ⟨s1, s2⟩ := hSw; go_simp
          try with_reducible rfl
        simp only [Act.put, List.setIfInBounds_toArray, List.set_cons_zero, List.set_cons_succ]
        refine wpAnyN_pure (i := 4) (v := ?_) (some 63) rfl rfl (by kernel_rfl) (by kernel_rfl) (by kernel_rfl) (by decide) (fun _ _ _ h => h) (Or.inl ⟨by rfl, ?_⟩) (fun _ => hS0) ?_
        rotate_left
        · intro wz _; go_simp
          try with_reducible rfl
        simp only [Act.put, List.setIfInBounds_toArray, List.set_cons_zero, List.set_cons_succ]
        refine wpAnyN_pure (i := 5) (v := ?_) (some 64) rfl rfl (by kernel_rfl) (by kernel_rfl) (by kernel_rfl) (by decide) (fun _ _ _ h => h) (Or.inl ⟨by rfl, ?_⟩) (fun _ => hS0) ?_
        rotate_left
        · intro wz _; go_simp
          try with_reducible rfl
        simp only [Act.put, List.setIfInBounds_toArray, List.set_cons_zero, List.set_cons_succ]
        refine wpAnyN_one (i := 6) (by kernel_rfl) rfl (fun K hK => ?_)
        have hpd := HPw13.out.call (Below.refl _ _).drew
        refine step_append_gen rfl (.tmp 60) (.tmp 64) 35 rfl (w.heap.size + 3 + 1) 9 iq _ 1 16 Tryz.underlying35 hiq hq0 hq1 hq2 rfl (by decide) (.slice none 0 0) 0 [] rfl (by simpa using hpd.on) (.slice none 0 0) 0 ([]) rfl (.inl ⟨rfl, rfl, rfl⟩) (by simp) (by unfold maxLen; omega) (by omega) (Nat.succ_le_of_lt hpd.lt) ?_
        intro vw14 w14 hown hgr
        simp only [Nat.zero_add, Nat.add_zero, List.nil_append, List.append_nil] at hown
        obtain ⟨xw14, yw14, rfl⟩ := owns_form hown
        have HPw14 := Lib.hid (hpd.appN (nn' := []) (by simpa using hown) hgr)
        have HBw14 := Lib.hid (HBw13.out.drew.trans (hpd.belowN hgr))
        clear hown hgr hpd
        refine hK.out _ w14 ⟨cell_blk HPw14.out.blk 3, (HBw14.out.cell (p := ⟨w.heap.size, 3, none⟩) (by simp)).trans (cell_blk HB0.out 3)⟩ ?_
        clear hK K hS0 HPw13 HBw13
        simp only [Act.put, List.setIfInBounds_toArray, List.set_cons_zero, List.set_cons_succ]
        refine wpAnyN_pure (i := 7) (v := ?_) (some 66) rfl rfl (by kernel_rfl) (by kernel_rfl) (by kernel_rfl) (by decide) (fun _ _ _ h => h) (Or.inl ⟨by rfl, ?_⟩) (fun _ => ⟨cell_blk HPw14.out.blk 3, (HBw14.out.cell (p := ⟨w.heap.size, 3, none⟩) (by simp)).trans (cell_blk HB0.out 3)⟩) ?_
        rotate_left
        · intro wz _; go_simp
          try with_reducible rfl
        simp only [Act.put, List.setIfInBounds_toArray, List.set_cons_zero, List.set_cons_succ]
        have k3 := cell_blk HPw14.out.blk 3; have f3 := fro_blk HPw14.out.blk 3
        simp only [List.getElem?_toArray, List.getElem?_cons_zero, List.getElem?_cons_succ] at k3
        refine wpAnyN_late (i := 8) (by kernel_rfl) (by kernel_rfl) rfl (fun K hK => ?_)
        go_simp
        refine hK.out _ (w14.setCell ⟨w.heap.size + 3, 3, none⟩ (.slice xw14 0 yw14)) ?_
        have HPw15 := Lib.hid (HPw14.out.set3 (.slice xw14 0 yw14))
        have HBw15 := Lib.hid (HBw14.out.setCell (p := ⟨w.heap.size + 3, 3, none⟩) (Nat.le_refl _) (.slice xw14 0 yw14))
        obtain ⟨w15, hw15⟩ : ∃ w15, w14.setCell ⟨w.heap.size + 3, 3, none⟩ (.slice xw14 0 yw14) = w15 := ⟨_, rfl⟩
        rw [hw15] at HPw15 HBw15 ⊢
        clear hw15 hK K HPw14 HBw14 k3 f3
        refine wpAnyN_done (by kernel_rfl) ?_ _
        have k3 := cell_blk HPw15.out.blk 3; have f3 := fro_blk HPw15.out.blk 3
        simp only [List.getElem?_toArray, List.getElem?_cons_zero, List.getElem?_cons_succ] at k3
        have hpl := HPw15.out.lt
        go_wp2_with (at_builtin; go_loud (refine wpList_append_own _ rfl (.tmp 68) (.tmp 70) 35 rfl (w.heap.size + 3 + 1) 9 iq _ 1 16 Tryz.underlying35 hiq hq0 hq1 hq2 rfl (by decide) (.slice xw14 0 yw14) 0 ([]) rfl ((show w15.ownsRow _ _ 1 _ 0 ([]) by simpa using HPw15.out.on).alloc _) ⟨w15.heap.size, 0, none⟩ 1 1 [.string nm] rfl rfl (by intro j u hu; exact cells_new hu) (str_cells' [nm]) (by unfold maxLen; omega) (by omega) (by simp; omega) ?_))
        intro vw16 w16 hown hgr _
        obtain ⟨xw16, yw16, rfl⟩ := owns_form hown
        have hpd := HPw15.out.call ((Below.refl _ _).alloc (Nat.le_refl _) (.cells #[.string nm] 9))
        have HPw16 := Lib.hid (hpd.appN (nn' := [.string nm]) (by simpa using hown) hgr)
        have HBw16 := Lib.hid ((HBw15.out.alloc (by omega) (.cells #[.string nm] 9)).trans (hpd.belowN hgr))
        clear hown hgr hpd k3 f3 hpl
        have k3 := cell_blk HPw16.out.blk 3; have f3 := fro_blk HPw16.out.blk 3
        simp only [List.getElem?_toArray, List.getElem?_cons_zero, List.getElem?_cons_succ] at k3
        go_upto_region 13 with fail
        have HPw17 := Lib.hid (HPw16.out.set3 (.slice xw16 1 yw16))
        have HBw17 := Lib.hid (HBw16.out.setCell (p := ⟨w.heap.size + 3, 3, none⟩) (Nat.le_refl _) (.slice xw16 1 yw16))
        obtain ⟨w17, hw17⟩ : ∃ w17, w16.setCell ⟨w.heap.size + 3, 3, none⟩ (.slice xw16 1 yw16) = w17 := ⟨_, rfl⟩
        rw [hw17] at HPw17 HBw17 ⊢
        clear hw17 HPw16 HBw16 k3 f3
        refine wp_region_N (fun w' => w'.cell? ⟨w.heap.size + 3, 3, none⟩ = some (.slice xw16 1 yw16) ∧ w'.cell? ⟨w.heap.size, 3, none⟩ = some (.slice none 0 0)) 8 (by kernel_rfl) ?_
        have hS0 : (fun w' => w'.cell? ⟨w.heap.size + 3, 3, none⟩ = some (.slice xw16 1 yw16) ∧ w'.cell? ⟨w.heap.size, 3, none⟩ = some (.slice none 0 0)) w17.drew := ⟨cell_blk HPw17.out.blk 3, (HBw17.out.cell (p := ⟨w.heap.size, 3, none⟩) (by simp)).trans (cell_blk HB0.out 3)⟩
        refine wpAnyN_pure (i := 0) (v := ?_) (some 73) rfl rfl (by kernel_rfl) (by kernel_rfl) (by kernel_rfl) (by decide) (fun _ _ _ h => h) (Or.inl ⟨by rfl, ?_⟩) (fun _ => hS0) ?_
        rotate_left
        · intro wz _; go_simp
          try with_reducible rfl
        simp only [Act.put, List.setIfInBounds_toArray, List.set_cons_zero, List.set_cons_succ]
        refine wpAnyN_take (i := 1) (v := ?_) (some 74) rfl rfl (by kernel_rfl) (by kernel_rfl) (by kernel_rfl) (by kernel_rfl) (by decide) (by kernel_rfl) (fun _ _ _ h => h) (Or.inl ⟨by rfl, ?_⟩) hS0 ?_
        rotate_left
        · intro wz hSw; obtain ⟨s1, s2⟩ := hSw; go_simp
          try with_reducible rfl
        simp only [Act.put, List.setIfInBounds_toArray, List.set_cons_zero, List.set_cons_succ]
        refine wpAnyN_pure (i := 2) (v := ?_) (some 75) rfl rfl (by kernel_rfl) (by kernel_rfl) (by kernel_rfl) (by decide) (fun _ _ _ h => h) (Or.inl ⟨by rfl, ?_⟩) (fun _ => hS0) ?_
        rotate_left
        · intro wz _; go_simp
          try with_reducible rfl
        simp only [Act.put, List.setIfInBounds_toArray, List.set_cons_zero, List.set_cons_succ]
        refine wpAnyN_take (i := 3) (v := ?_) (some 76) rfl rfl (by kernel_rfl) (by kernel_rfl) (by kernel_rfl) (by kernel_rfl) (by decide) (by kernel_rfl) (fun _ _ _ h => h) (Or.inl ⟨by rfl, ?_⟩) hS0 ?_
        rotate_left
        · intro wz hSw; obtain ⟨s1, s2⟩ := hSw; go_simp
          try with_reducible rfl
        simp only [Act.put, List.setIfInBounds_toArray, List.set_cons_zero, List.set_cons_succ]
        refine wpAnyN_pure (i := 4) (v := ?_) (some 77) rfl rfl (by kernel_rfl) (by kernel_rfl) (by kernel_rfl) (by decide) (fun _ _ _ h => h) (Or.inl ⟨by rfl, ?_⟩) (fun _ => hS0) ?_
        rotate_left
        · intro wz _; go_simp
          try with_reducible rfl
        simp only [Act.put, List.setIfInBounds_toArray, List.set_cons_zero, List.set_cons_succ]
        refine wpAnyN_pure (i := 5) (v := ?_) (some 78) rfl rfl (by kernel_rfl) (by kernel_rfl) (by kernel_rfl) (by decide) (fun _ _ _ h => h) (Or.inl ⟨by rfl, ?_⟩) (fun _ => hS0) ?_
        rotate_left
        · intro wz _; go_simp
          try with_reducible rfl
        simp only [Act.put, List.setIfInBounds_toArray, List.set_cons_zero, List.set_cons_succ]
        refine wpAnyN_one (i := 6) (by kernel_rfl) rfl (fun K hK => ?_)
        have hpd := HPw17.out.call (Below.refl _ _).drew
        refine step_append_gen rfl (.tmp 74) (.tmp 78) 35 rfl (w.heap.size + 3 + 1) 9 iq _ 1 16 Tryz.underlying35 hiq hq0 hq1 hq2 rfl (by decide) (.slice xw16 1 yw16) 1 [.string nm] rfl (by simpa using hpd.on) (.slice none 0 0) 0 [] rfl (.inl ⟨rfl, rfl, rfl⟩) (by simp) (by unfold maxLen; omega) (by omega) (Nat.succ_le_of_lt hpd.lt) ?_
        intro vw18 w18 hown hgr
        simp only [Nat.zero_add, Nat.add_zero, List.nil_append, List.append_nil] at hown
        obtain ⟨xw18, yw18, rfl⟩ := owns_form hown
        have HPw18 := Lib.hid (hpd.appN (nn' := [.string nm]) (by simpa using hown) hgr)
        have HBw18 := Lib.hid (HBw17.out.drew.trans (hpd.belowN hgr))
        clear hown hgr hpd
        refine hK.out _ w18 ⟨cell_blk HPw18.out.blk 3, (HBw18.out.cell (p := ⟨w.heap.size, 3, none⟩) (by simp)).trans (cell_blk HB0.out 3)⟩ ?_
        clear hK K hS0 HPw17 HBw17
        simp only [Act.put, List.setIfInBounds_toArray, List.set_cons_zero, List.set_cons_succ]
        refine wpAnyN_pure (i := 7) (v := ?_) (some 80) rfl rfl (by kernel_rfl) (by kernel_rfl) (by kernel_rfl) (by decide) (fun _ _ _ h => h) (Or.inl ⟨by rfl, ?_⟩) (fun _ => ⟨cell_blk HPw18.out.blk 3, (HBw18.out.cell (p := ⟨w.heap.size, 3, none⟩) (by simp)).trans (cell_blk HB0.out 3)⟩) ?_
        rotate_left
        · intro wz _; go_simp
          try with_reducible rfl
        simp only [Act.put, List.setIfInBounds_toArray, List.set_cons_zero, List.set_cons_succ]
        have k3 := cell_blk HPw18.out.blk 3; have f3 := fro_blk HPw18.out.blk 3
        simp only [List.getElem?_toArray, List.getElem?_cons_zero, List.getElem?_cons_succ] at k3
        refine wpAnyN_late (i := 8) (by kernel_rfl) (by kernel_rfl) rfl (fun K hK => ?_)
        go_simp
        refine hK.out _ (w18.setCell ⟨w.heap.size + 3, 3, none⟩ (.slice xw18 1 yw18)) ?_
        have HPw19 := Lib.hid (HPw18.out.set3 (.slice xw18 1 yw18))
        have HBw19 := Lib.hid (HBw18.out.setCell (p := ⟨w.heap.size + 3, 3, none⟩) (Nat.le_refl _) (.slice xw18 1 yw18))
        obtain ⟨w19, hw19⟩ : ∃ w19, w18.setCell ⟨w.heap.size + 3, 3, none⟩ (.slice xw18 1 yw18) = w19 := ⟨_, rfl⟩
        rw [hw19] at HPw19 HBw19 ⊢
        clear hw19 hK K HPw18 HBw18 k3 f3
        refine wpAnyN_done (by kernel_rfl) ?_ _
        obtain ⟨k0, k1, k2, k3, k4⟩ := val_cells HPw19.out.blk
        have hbr := (HBw19.out.block (w.heap.size + 1 + 1) (by omega)).trans HB2.out
        obtain ⟨r0, r1, r2, r3, r4⟩ := val_cells hbr
        have q0 := fro_blk hbr 0; have q1 := fro_blk hbr 1; have q2 := fro_blk hbr 2; have q3 := fro_blk hbr 3; have q4 := fro_blk hbr 4
        go_wp2
        obtain ⟨v0, v1, v2, v3, v4⟩ := val_cells (show (((((w19.setCell ⟨w.heap.size + 1 + 1, 0, none⟩ (.int .i64 7)).setCell ⟨w.heap.size + 1 + 1, 1, none⟩ (.int .i64 0)).setCell ⟨w.heap.size + 1 + 1, 2, none⟩ (.string ⟨#[]⟩)).setCell ⟨w.heap.size + 1 + 1, 3, none⟩ (.slice xw18 1 yw18)).setCell ⟨w.heap.size + 1 + 1, 4, none⟩ (.slice xw12 1 yw12)).heap[w.heap.size + 1 + 1]? = some (.cells #[.int .i64 7, .int .i64 0, .string ⟨#[]⟩, (.slice xw18 1 yw18), (.slice xw12 1 yw12)] 59 (0, 0)) by simp [World.setCell, Array.getElem?_modify, hbr])
        refine bodyPost_ret (v := .agg #[.int .i64 7, .int .i64 0, .string ⟨#[]⟩, (.slice xw18 1 yw18), (.slice xw12 1 yw12)]) (by simp [results, Tryz.results78, go_sem, v0, v1, v2, v3, v4]) rfl ?_
        exact put_end (by simp) (by simp) HS.out (show IsVs w S [] [] from trivial) HX.out HB.out HBw19.out (by simpa using HPw19.out.on) (by simpa using HPw19.out.ok)
      · have hcN : nn.length ≤ cn := by obtain ⟨_, a9, c9, h9, h8, _⟩ := HN.out; simp only [Value.slice.injEq] at h9; omega
        have hcK : nn.length ≤ ck := by obtain ⟨_, a9, c9, h9, h8, _⟩ := HR.out; simp only [Value.slice.injEq] at h9; omega
        have HKl := Lib.hid HR.out.1
        have HK1 := Lib.hid (IsVs.one HK.out)
        have HKs := Lib.hid (fun (w' : World) (hb' : Below (w.heap.size + 3) wr w') => Row.src HR.out (fun b hb => (hb'.block b (by have := HS.out b hb; omega)).trans (HB.out.block b (HS.out b hb))))
        have HNs := Lib.hid (fun (w' : World) (hb' : Below (w.heap.size + 3) wr w') => Row.src HN.out (fun b hb => (hb'.block b (by have := HS.out b hb; omega)).trans (HB.out.block b (HS.out b hb))))
        go_upto_region 7 with fail
        have HPw7 : Hid (PU (wr.alloc (.cells #[.int .i64 7, .int .i64 0, .string ⟨#[]⟩, .slice none 0 0, .slice none 0 0] 59)) (w.heap.size + 3) 7 (.slice none 0 0) (.slice none 0 0) (.slice none 0 0) [] (.slice none 0 0) 0 []) := ⟨blkA hsz, World.ownsRow_nil _ _ _ _, World.ownsRow_nil _ _ _ _⟩
        have HBw7 : Hid (Below (w.heap.size + 3) wr (wr.alloc (.cells #[.int .i64 7, .int .i64 0, .string ⟨#[]⟩, .slice none 0 0, .slice none 0 0] 59))) := (Below.refl _ _).alloc (by omega) _
        obtain ⟨w7, hw7⟩ : ∃ w7, wr.alloc (.cells #[.int .i64 7, .int .i64 0, .string ⟨#[]⟩, .slice none 0 0, .slice none 0 0] 59) = w7 := ⟨_, rfl⟩
        rw [hw7] at HPw7 HBw7 ⊢
        clear hw7
        go_upto_region 7 with fail
        refine wp_region_N (fun w' => w'.cell? ⟨w.heap.size + 3, 4, none⟩ = some (.slice none 0 0) ∧ w'.cell? ⟨w.heap.size, 4, none⟩ = some (.slice (some ⟨gk, 0, none⟩) nn.length ck)) 8 (by kernel_rfl) ?_
        have hS0 : (fun w' => w'.cell? ⟨w.heap.size + 3, 4, none⟩ = some (.slice none 0 0) ∧ w'.cell? ⟨w.heap.size, 4, none⟩ = some (.slice (some ⟨gk, 0, none⟩) nn.length ck)) w7.drew := ⟨cell_blk HPw7.out.blk 4, (HBw7.out.cell (p := ⟨w.heap.size, 4, none⟩) (by simp)).trans (cell_blk HB0.out 4)⟩
        refine wpAnyN_pure (i := 0) (v := ?_) (some 34) rfl rfl (by kernel_rfl) (by kernel_rfl) (by kernel_rfl) (by decide) (fun _ _ _ h => h) (Or.inl ⟨by rfl, ?_⟩) (fun _ => hS0) ?_
        rotate_left
        · intro wz _; go_simp
          try with_reducible rfl
        simp only [Act.put, List.setIfInBounds_toArray, List.set_cons_zero, List.set_cons_succ]
        refine wpAnyN_take (i := 1) (v := ?_) (some 35) rfl rfl (by kernel_rfl) (by kernel_rfl) (by kernel_rfl) (by kernel_rfl) (by decide) (by kernel_rfl) (fun _ _ _ h => h) (Or.inl ⟨by rfl, ?_⟩) hS0 ?_
        rotate_left
        · intro wz hSw; obtain ⟨s1, s2⟩ := hSw; go_simp
          try with_reducible rfl
        simp only [Act.put, List.setIfInBounds_toArray, List.set_cons_zero, List.set_cons_succ]
        refine wpAnyN_pure (i := 2) (v := ?_) (some 36) rfl rfl (by kernel_rfl) (by kernel_rfl) (by kernel_rfl) (by decide) (fun _ _ _ h => h) (Or.inl ⟨by rfl, ?_⟩) (fun _ => hS0) ?_
        rotate_left
        · intro wz _; go_simp
          try with_reducible rfl
        simp only [Act.put, List.setIfInBounds_toArray, List.set_cons_zero, List.set_cons_succ]
        refine wpAnyN_take (i := 3) (v := ?_) (some 37) rfl rfl (by kernel_rfl) (by kernel_rfl) (by kernel_rfl) (by kernel_rfl) (by decide) (by kernel_rfl) (fun _ _ _ h => h) (Or.inl ⟨by rfl, ?_⟩) hS0 ?_
        rotate_left
        · intro wz hSw; obtain ⟨s1, s2⟩ := hSw; go_simp
          try with_reducible rfl
        simp only [Act.put, List.setIfInBounds_toArray, List.set_cons_zero, List.set_cons_succ]
        refine wpAnyN_pure (i := 4) (v := ?_) (some 38) rfl rfl (by kernel_rfl) (by kernel_rfl) (by kernel_rfl) (by decide) (fun _ _ _ h => h) (Or.inl ⟨by rfl, ?_⟩) (fun _ => hS0) ?_
        rotate_left
        · intro wz _; go_simp
          try with_reducible rfl
        simp only [Act.put, List.setIfInBounds_toArray, List.set_cons_zero, List.set_cons_succ]
        refine wpAnyN_pure (i := 5) (v := ?_) (some 39) rfl rfl (by kernel_rfl) (by kernel_rfl) (by kernel_rfl) (by decide) (fun _ _ _ h => h) (Or.inl ⟨by rfl, ?_⟩) (fun _ => hS0) ?_
        rotate_left
        · intro wz _; go_simp
          try with_reducible rfl
        simp only [Act.put, List.setIfInBounds_toArray, List.set_cons_zero, List.set_cons_succ]
        refine wpAnyN_one (i := 6) (by kernel_rfl) rfl (fun K hK => ?_)
        have hpd := HPw7.out.call (Below.refl _ _).drew
        refine step_append_gen rfl (.tmp 35) (.tmp 39) 57 rfl (w.heap.size + 3 + 1) 59 ip _ 5 80 Tryz.underlying57 hip hp0 hp1 hp2 rfl (by decide) (.slice none 0 0) 0 [] rfl hpd.ok (.slice (some ⟨gk, 0, none⟩) nn.length ck) nn.length vs.flatten rfl (.inr ⟨_, _, rfl, HKl.out, HKs.out _ HBw7.out.drew⟩) HK1.out (by unfold maxLen; omega) (by omega) (Nat.succ_le_of_lt hpd.lt) ?_
        intro vw8 w8 hown hgr
        simp only [Nat.zero_add, Nat.add_zero, List.nil_append, List.append_nil] at hown
        obtain ⟨xw8, yw8, rfl⟩ := owns_form hown
        have HPw8 := Lib.hid (hpd.appK hown hgr)
        have HBw8 := Lib.hid (HBw7.out.drew.trans (hpd.belowK hgr))
        clear hown hgr hpd
        refine hK.out _ w8 ⟨cell_blk HPw8.out.blk 4, (HBw8.out.cell (p := ⟨w.heap.size, 4, none⟩) (by simp)).trans (cell_blk HB0.out 4)⟩ ?_
        clear hK K hS0 HPw7 HBw7
        simp only [Act.put, List.setIfInBounds_toArray, List.set_cons_zero, List.set_cons_succ]
        refine wpAnyN_pure (i := 7) (v := ?_) (some 41) rfl rfl (by kernel_rfl) (by kernel_rfl) (by kernel_rfl) (by decide) (fun _ _ _ h => h) (Or.inl ⟨by rfl, ?_⟩) (fun _ => ⟨cell_blk HPw8.out.blk 4, (HBw8.out.cell (p := ⟨w.heap.size, 4, none⟩) (by simp)).trans (cell_blk HB0.out 4)⟩) ?_
        rotate_left
        · intro wz _; go_simp
          try with_reducible rfl
        simp only [Act.put, List.setIfInBounds_toArray, List.set_cons_zero, List.set_cons_succ]
        have k3 := cell_blk HPw8.out.blk 4; have f3 := fro_blk HPw8.out.blk 4
        simp only [List.getElem?_toArray, List.getElem?_cons_zero, List.getElem?_cons_succ] at k3
        refine wpAnyN_late (i := 8) (by kernel_rfl) (by kernel_rfl) rfl (fun K hK => ?_)
        go_simp
        refine hK.out _ (w8.setCell ⟨w.heap.size + 3, 4, none⟩ (.slice xw8 nn.length yw8)) ?_
        have HPw9 := Lib.hid (HPw8.out.set4 (.slice xw8 nn.length yw8))
        have HBw9 := Lib.hid (HBw8.out.setCell (p := ⟨w.heap.size + 3, 4, none⟩) (Nat.le_refl _) (.slice xw8 nn.length yw8))
        obtain ⟨w9, hw9⟩ : ∃ w9, w8.setCell ⟨w.heap.size + 3, 4, none⟩ (.slice xw8 nn.length yw8) = w9 := ⟨_, rfl⟩
        rw [hw9] at HPw9 HBw9 ⊢
        clear hw9 hK K HPw8 HBw8 k3 f3
        refine wpAnyN_done (by kernel_rfl) ?_ _
        have k3 := cell_blk HPw9.out.blk 4; have f3 := fro_blk HPw9.out.blk 4
        simp only [List.getElem?_toArray, List.getElem?_cons_zero, List.getElem?_cons_succ] at k3
        obtain ⟨x0, x1, x2, x3, x4⟩ := val_cells ((HBw9.out.block (w.heap.size + 1) (by omega)).trans HB1.out)
        have hpl := HPw9.out.lt
        go_wp2_with (at_builtin; go_loud (refine wpList_append_own _ rfl (.tmp 43) (.tmp 45) 57 rfl (w.heap.size + 3 + 1) 59 ip _ 5 80 Tryz.underlying57 hip hp0 hp1 hp2 rfl (by decide) (.slice xw8 nn.length yw8) nn.length vs.flatten rfl (HPw9.out.ok.alloc _) ⟨w9.heap.size, 0, none⟩ 1 1 [.int .i64 t'.kind, .int .i64 t'.num, .string t'.text, .slice an' t'.names.length cn', .slice ak' t'.kids.length ck'] rfl rfl (by intro j u hu; exact cells_new hu) (by intro u hu; simp at hu; rcases hu with rfl | rfl | rfl | rfl | rfl <;> rfl) (by unfold maxLen; omega) (by omega) (by simp; omega) ?_))
        intro vw10 w10 hown hgr _
        obtain ⟨xw10, yw10, rfl⟩ := owns_form hown
        have hpd := HPw9.out.call ((Below.refl _ _).alloc (Nat.le_refl _) (.cells #[.int .i64 t'.kind, .int .i64 t'.num, .string t'.text, .slice an' t'.names.length cn', .slice ak' t'.kids.length ck'] 59))
        have HPw10 := Lib.hid (hpd.appK hown hgr)
        have HBw10 := Lib.hid ((HBw9.out.alloc (by omega) (.cells #[.int .i64 t'.kind, .int .i64 t'.num, .string t'.text, .slice an' t'.names.length cn', .slice ak' t'.kids.length ck'] 59)).trans (hpd.belowK hgr))
        clear hown hgr hpd k3 f3 hpl
        have k3 := cell_blk HPw10.out.blk 4; have f3 := fro_blk HPw10.out.blk 4
        simp only [List.getElem?_toArray, List.getElem?_cons_zero, List.getElem?_cons_succ] at k3
        clear x0 x1 x2 x3 x4
        go_upto_region 9 with fail
        have HPw11 := Lib.hid (HPw10.out.set4 (.slice xw10 (nn.length + 1) yw10))
        have HBw11 := Lib.hid (HBw10.out.setCell (p := ⟨w.heap.size + 3, 4, none⟩) (Nat.le_refl _) (.slice xw10 (nn.length + 1) yw10))
        obtain ⟨w11, hw11⟩ : ∃ w11, w10.setCell ⟨w.heap.size + 3, 4, none⟩ (.slice xw10 (nn.length + 1) yw10) = w11 := ⟨_, rfl⟩
        rw [hw11] at HPw11 HBw11 ⊢
        clear hw11 HPw10 HBw10 k3 f3
        refine wp_region_N (fun w' => w'.cell? ⟨w.heap.size + 3, 4, none⟩ = some (.slice xw10 (nn.length + 1) yw10) ∧ w'.cell? ⟨w.heap.size, 4, none⟩ = some (.slice (some ⟨gk, 0, none⟩) nn.length ck)) 8 (by kernel_rfl) ?_
        have hS0 : (fun w' => w'.cell? ⟨w.heap.size + 3, 4, none⟩ = some (.slice xw10 (nn.length + 1) yw10) ∧ w'.cell? ⟨w.heap.size, 4, none⟩ = some (.slice (some ⟨gk, 0, none⟩) nn.length ck)) w11.drew := ⟨cell_blk HPw11.out.blk 4, (HBw11.out.cell (p := ⟨w.heap.size, 4, none⟩) (by simp)).trans (cell_blk HB0.out 4)⟩
        refine wpAnyN_pure (i := 0) (v := ?_) (some 48) rfl rfl (by kernel_rfl) (by kernel_rfl) (by kernel_rfl) (by decide) (fun _ _ _ h => h) (Or.inl ⟨by rfl, ?_⟩) (fun _ => hS0) ?_
        rotate_left
        · intro wz _; go_simp
          try with_reducible rfl
        simp only [Act.put, List.setIfInBounds_toArray, List.set_cons_zero, List.set_cons_succ]
        refine wpAnyN_take (i := 1) (v := ?_) (some 49) rfl rfl (by kernel_rfl) (by kernel_rfl) (by kernel_rfl) (by kernel_rfl) (by decide) (by kernel_rfl) (fun _ _ _ h => h) (Or.inl ⟨by rfl, ?_⟩) hS0 ?_
        rotate_left
        · intro wz hSw; obtain ⟨s1, s2⟩ := hSw; go_simp
          try with_reducible rfl
        simp only [Act.put, List.setIfInBounds_toArray, List.set_cons_zero, List.set_cons_succ]
        refine wpAnyN_pure (i := 2) (v := ?_) (some 50) rfl rfl (by kernel_rfl) (by kernel_rfl) (by kernel_rfl) (by decide) (fun _ _ _ h => h) (Or.inl ⟨by rfl, ?_⟩) (fun _ => hS0) ?_
        rotate_left
        · intro wz _; go_simp
          try with_reducible rfl
        simp only [Act.put, List.setIfInBounds_toArray, List.set_cons_zero, List.set_cons_succ]
        refine wpAnyN_take (i := 3) (v := ?_) (some 51) rfl rfl (by kernel_rfl) (by kernel_rfl) (by kernel_rfl) (by kernel_rfl) (by decide) (by kernel_rfl) (fun _ _ _ h => h) (Or.inl ⟨by rfl, ?_⟩) hS0 ?_
        rotate_left
        · intro wz hSw; obtain ⟨s1, s2⟩ := hSw; go_simp
          try with_reducible rfl
        simp only [Act.put, List.setIfInBounds_toArray, List.set_cons_zero, List.set_cons_succ]
        refine wpAnyN_pure (i := 4) (v := ?_) (some 52) rfl rfl (by kernel_rfl) (by kernel_rfl) (by kernel_rfl) (by decide) (fun _ _ _ h => h) (Or.inl ⟨by rfl, ?_⟩) (fun _ => hS0) ?_
        rotate_left
        · intro wz _; go_simp
          try with_reducible rfl
        simp only [Act.put, List.setIfInBounds_toArray, List.set_cons_zero, List.set_cons_succ]
        refine wpAnyN_pure (i := 5) (v := ?_) (some 53) rfl rfl (by kernel_rfl) (by kernel_rfl) (by kernel_rfl) (by decide) (fun _ _ _ h => h) (Or.inl ⟨by rfl, ?_⟩) (fun _ => hS0) ?_
        rotate_left
        · intro wz _; go_simp
          try with_reducible rfl
        simp only [Act.put, List.setIfInBounds_toArray, List.set_cons_zero, List.set_cons_succ]
        refine wpAnyN_one (i := 6) (by kernel_rfl) rfl (fun K hK => ?_)
        have hpd := HPw11.out.call (Below.refl _ _).drew
        refine step_append_gen rfl (.tmp 49) (.tmp 53) 57 rfl (w.heap.size + 3 + 1) 59 ip _ 5 80 Tryz.underlying57 hip hp0 hp1 hp2 rfl (by decide) (.slice xw10 (nn.length + 1) yw10) (nn.length + 1) (vs.flatten ++ [.int .i64 t'.kind, .int .i64 t'.num, .string t'.text, .slice an' t'.names.length cn', .slice ak' t'.kids.length ck']) rfl hpd.ok (.slice (if ck = nn.length then some ⟨gk, 0, none⟩ else some ⟨gk, nn.length * 5, none⟩) 0 (ck - nn.length)) 0 [] rfl (.inr ⟨if ck = nn.length then ⟨gk, 0, none⟩ else ⟨gk, nn.length * 5, none⟩, _, by split <;> rfl, rfl, fun j u hj => by simp at hj⟩) (by simp) (by unfold maxLen; omega) (by omega) (Nat.succ_le_of_lt hpd.lt) ?_
        intro vw12 w12 hown hgr
        simp only [Nat.zero_add, Nat.add_zero, List.nil_append, List.append_nil] at hown
        obtain ⟨xw12, yw12, rfl⟩ := owns_form hown
        have HPw12 := Lib.hid (hpd.appK hown hgr)
        have HBw12 := Lib.hid (HBw11.out.drew.trans (hpd.belowK hgr))
        clear hown hgr hpd
        refine hK.out _ w12 ⟨cell_blk HPw12.out.blk 4, (HBw12.out.cell (p := ⟨w.heap.size, 4, none⟩) (by simp)).trans (cell_blk HB0.out 4)⟩ ?_
        clear hK K hS0 HPw11 HBw11
        simp only [Act.put, List.setIfInBounds_toArray, List.set_cons_zero, List.set_cons_succ]
        refine wpAnyN_pure (i := 7) (v := ?_) (some 55) rfl rfl (by kernel_rfl) (by kernel_rfl) (by kernel_rfl) (by decide) (fun _ _ _ h => h) (Or.inl ⟨by rfl, ?_⟩) (fun _ => ⟨cell_blk HPw12.out.blk 4, (HBw12.out.cell (p := ⟨w.heap.size, 4, none⟩) (by simp)).trans (cell_blk HB0.out 4)⟩) ?_
        rotate_left
        · intro wz _; go_simp
          try with_reducible rfl
        simp only [Act.put, List.setIfInBounds_toArray, List.set_cons_zero, List.set_cons_succ]
        have k3 := cell_blk HPw12.out.blk 4; have f3 := fro_blk HPw12.out.blk 4
        simp only [List.getElem?_toArray, List.getElem?_cons_zero, List.getElem?_cons_succ] at k3
        refine wpAnyN_late (i := 8) (by kernel_rfl) (by kernel_rfl) rfl (fun K hK => ?_)
        go_simp
        refine hK.out _ (w12.setCell ⟨w.heap.size + 3, 4, none⟩ (.slice xw12 (nn.length + 1) yw12)) ?_
        have HPw13 := Lib.hid (HPw12.out.set4 (.slice xw12 (nn.length + 1) yw12))
        have HBw13 := Lib.hid (HBw12.out.setCell (p := ⟨w.heap.size + 3, 4, none⟩) (Nat.le_refl _) (.slice xw12 (nn.length + 1) yw12))
        obtain ⟨w13, hw13⟩ : ∃ w13, w12.setCell ⟨w.heap.size + 3, 4, none⟩ (.slice xw12 (nn.length + 1) yw12) = w13 := ⟨_, rfl⟩
        rw [hw13] at HPw13 HBw13 ⊢
        clear hw13 hK K HPw12 HBw12 k3 f3
        refine wpAnyN_done (by kernel_rfl) ?_ _
        obtain ⟨zz, hzz⟩ : ∃ z, (if ck = nn.length then some (⟨gk, 0, none⟩ : Addr) else some ⟨gk, nn.length * 5, none⟩) = z := ⟨_, rfl⟩
        rw [hzz]
        clear hzz
        have e0 := (HBw13.out.cell (p := ⟨w.heap.size, 0, none⟩) (by simp)).trans d0
        go_upto_region 11 with fail
        refine wp_region_N (fun w' => w'.cell? ⟨w.heap.size + 3, 3, none⟩ = some (.slice none 0 0) ∧ w'.cell? ⟨w.heap.size, 3, none⟩ = some (.slice (some ⟨gn, 0, none⟩) nn.length cn)) 8 (by kernel_rfl) ?_
        have hS0 : (fun w' => w'.cell? ⟨w.heap.size + 3, 3, none⟩ = some (.slice none 0 0) ∧ w'.cell? ⟨w.heap.size, 3, none⟩ = some (.slice (some ⟨gn, 0, none⟩) nn.length cn)) w13.drew := ⟨cell_blk HPw13.out.blk 3, (HBw13.out.cell (p := ⟨w.heap.size, 3, none⟩) (by simp)).trans (cell_blk HB0.out 3)⟩
        refine wpAnyN_pure (i := 0) (v := ?_) (some 59) rfl rfl (by kernel_rfl) (by kernel_rfl) (by kernel_rfl) (by decide) (fun _ _ _ h => h) (Or.inl ⟨by rfl, ?_⟩) (fun _ => hS0) ?_
        rotate_left
        · intro wz _; go_simp
          try with_reducible rfl
        simp only [Act.put, List.setIfInBounds_toArray, List.set_cons_zero, List.set_cons_succ]
        refine wpAnyN_take (i := 1) (v := ?_) (some 60) rfl rfl (by kernel_rfl) (by kernel_rfl) (by kernel_rfl) (by kernel_rfl) (by decide) (by kernel_rfl) (fun _ _ _ h => h) (Or.inl ⟨by rfl, ?_⟩) hS0 ?_
        rotate_left
        · intro wz hSw; obtain ⟨s1, s2⟩ := hSw; go_simp
          try with_reducible rfl
        simp only [Act.put, List.setIfInBounds_toArray, List.set_cons_zero, List.set_cons_succ]
        refine wpAnyN_pure (i := 2) (v := ?_) (some 61) rfl rfl (by kernel_rfl) (by kernel_rfl) (by kernel_rfl) (by decide) (fun _ _ _ h => h) (Or.inl ⟨by rfl, ?_⟩) (fun _ => hS0) ?_
        rotate_left
        · intro wz _; go_simp
          try with_reducible rfl
        simp only [Act.put, List.setIfInBounds_toArray, List.set_cons_zero, List.set_cons_succ]
        refine wpAnyN_take (i := 3) (v := ?_) (some 62) rfl rfl (by kernel_rfl) (by kernel_rfl) (by kernel_rfl) (by kernel_rfl) (by decide) (by kernel_rfl) (fun _ _ _ h => h) (Or.inl ⟨by rfl, ?_⟩) hS0 ?_
        rotate_left
        · intro wz hSw; obtain ⟨s1, s2⟩ := hSw; go_simp
          try with_reducible rfl
        simp only [Act.put, List.setIfInBounds_toArray, List.set_cons_zero, List.set_cons_succ]
        refine wpAnyN_pure (i := 4) (v := ?_) (some 63) rfl rfl (by kernel_rfl) (by kernel_rfl) (by kernel_rfl) (by decide) (fun _ _ _ h => h) (Or.inl ⟨by rfl, ?_⟩) (fun _ => hS0) ?_
        rotate_left
        · intro wz _; go_simp
          try with_reducible rfl
        simp only [Act.put, List.setIfInBounds_toArray, List.set_cons_zero, List.set_cons_succ]
        refine wpAnyN_pure (i := 5) (v := ?_) (some 64) rfl rfl (by kernel_rfl) (by kernel_rfl) (by kernel_rfl) (by decide) (fun _ _ _ h => h) (Or.inl ⟨by rfl, ?_⟩) (fun _ => hS0) ?_
        rotate_left
        · intro wz _; go_simp
          try with_reducible rfl
        simp only [Act.put, List.setIfInBounds_toArray, List.set_cons_zero, List.set_cons_succ]
        refine wpAnyN_one (i := 6) (by kernel_rfl) rfl (fun K hK => ?_)
        have hpd := HPw13.out.call (Below.refl _ _).drew
        refine step_append_gen rfl (.tmp 60) (.tmp 64) 35 rfl (w.heap.size + 3 + 1) 9 iq _ 1 16 Tryz.underlying35 hiq hq0 hq1 hq2 rfl (by decide) (.slice none 0 0) 0 [] rfl (by simpa using hpd.on) (.slice (some ⟨gn, 0, none⟩) nn.length cn) nn.length (nn.map Value.string) rfl (.inr ⟨_, _, rfl, by simp, HNs.out _ HBw13.out.drew⟩) (str_cells' _) (by unfold maxLen; omega) (by omega) (Nat.succ_le_of_lt hpd.lt) ?_
        intro vw14 w14 hown hgr
        simp only [Nat.zero_add, Nat.add_zero, List.nil_append, List.append_nil] at hown
        obtain ⟨xw14, yw14, rfl⟩ := owns_form hown
        have HPw14 := Lib.hid (hpd.appN (nn' := nn.map Value.string) (by simpa using hown) hgr)
        have HBw14 := Lib.hid (HBw13.out.drew.trans (hpd.belowN hgr))
        clear hown hgr hpd
        refine hK.out _ w14 ⟨cell_blk HPw14.out.blk 3, (HBw14.out.cell (p := ⟨w.heap.size, 3, none⟩) (by simp)).trans (cell_blk HB0.out 3)⟩ ?_
        clear hK K hS0 HPw13 HBw13
        simp only [Act.put, List.setIfInBounds_toArray, List.set_cons_zero, List.set_cons_succ]
        refine wpAnyN_pure (i := 7) (v := ?_) (some 66) rfl rfl (by kernel_rfl) (by kernel_rfl) (by kernel_rfl) (by decide) (fun _ _ _ h => h) (Or.inl ⟨by rfl, ?_⟩) (fun _ => ⟨cell_blk HPw14.out.blk 3, (HBw14.out.cell (p := ⟨w.heap.size, 3, none⟩) (by simp)).trans (cell_blk HB0.out 3)⟩) ?_
        rotate_left
        · intro wz _; go_simp
          try with_reducible rfl
        simp only [Act.put, List.setIfInBounds_toArray, List.set_cons_zero, List.set_cons_succ]
        have k3 := cell_blk HPw14.out.blk 3; have f3 := fro_blk HPw14.out.blk 3
        simp only [List.getElem?_toArray, List.getElem?_cons_zero, List.getElem?_cons_succ] at k3
        refine wpAnyN_late (i := 8) (by kernel_rfl) (by kernel_rfl) rfl (fun K hK => ?_)
        go_simp
        refine hK.out _ (w14.setCell ⟨w.heap.size + 3, 3, none⟩ (.slice xw14 nn.length yw14)) ?_
        have HPw15 := Lib.hid (HPw14.out.set3 (.slice xw14 nn.length yw14))
        have HBw15 := Lib.hid (HBw14.out.setCell (p := ⟨w.heap.size + 3, 3, none⟩) (Nat.le_refl _) (.slice xw14 nn.length yw14))
        obtain ⟨w15, hw15⟩ : ∃ w15, w14.setCell ⟨w.heap.size + 3, 3, none⟩ (.slice xw14 nn.length yw14) = w15 := ⟨_, rfl⟩
        rw [hw15] at HPw15 HBw15 ⊢
        clear hw15 hK K HPw14 HBw14 k3 f3
        refine wpAnyN_done (by kernel_rfl) ?_ _
        have k3 := cell_blk HPw15.out.blk 3; have f3 := fro_blk HPw15.out.blk 3
        simp only [List.getElem?_toArray, List.getElem?_cons_zero, List.getElem?_cons_succ] at k3
        have hpl := HPw15.out.lt
        go_wp2_with (at_builtin; go_loud (refine wpList_append_own _ rfl (.tmp 68) (.tmp 70) 35 rfl (w.heap.size + 3 + 1) 9 iq _ 1 16 Tryz.underlying35 hiq hq0 hq1 hq2 rfl (by decide) (.slice xw14 nn.length yw14) nn.length (nn.map Value.string) rfl ((show w15.ownsRow _ _ 1 _ nn.length (nn.map Value.string) by simpa using HPw15.out.on).alloc _) ⟨w15.heap.size, 0, none⟩ 1 1 [.string nm] rfl rfl (by intro j u hu; exact cells_new hu) (str_cells' [nm]) (by unfold maxLen; omega) (by omega) (by simp; omega) ?_))
        intro vw16 w16 hown hgr _
        obtain ⟨xw16, yw16, rfl⟩ := owns_form hown
        have hpd := HPw15.out.call ((Below.refl _ _).alloc (Nat.le_refl _) (.cells #[.string nm] 9))
        have HPw16 := Lib.hid (hpd.appN (nn' := (nn.map Value.string ++ [.string nm])) (by simpa using hown) hgr)
        have HBw16 := Lib.hid ((HBw15.out.alloc (by omega) (.cells #[.string nm] 9)).trans (hpd.belowN hgr))
        clear hown hgr hpd k3 f3 hpl
        have k3 := cell_blk HPw16.out.blk 3; have f3 := fro_blk HPw16.out.blk 3
        simp only [List.getElem?_toArray, List.getElem?_cons_zero, List.getElem?_cons_succ] at k3
        go_upto_region 13 with fail
        have HPw17 := Lib.hid (HPw16.out.set3 (.slice xw16 (nn.length + 1) yw16))
        have HBw17 := Lib.hid (HBw16.out.setCell (p := ⟨w.heap.size + 3, 3, none⟩) (Nat.le_refl _) (.slice xw16 (nn.length + 1) yw16))
        obtain ⟨w17, hw17⟩ : ∃ w17, w16.setCell ⟨w.heap.size + 3, 3, none⟩ (.slice xw16 (nn.length + 1) yw16) = w17 := ⟨_, rfl⟩
        rw [hw17] at HPw17 HBw17 ⊢
        clear hw17 HPw16 HBw16 k3 f3
        refine wp_region_N (fun w' => w'.cell? ⟨w.heap.size + 3, 3, none⟩ = some (.slice xw16 (nn.length + 1) yw16) ∧ w'.cell? ⟨w.heap.size, 3, none⟩ = some (.slice (some ⟨gn, 0, none⟩) nn.length cn)) 8 (by kernel_rfl) ?_
        have hS0 : (fun w' => w'.cell? ⟨w.heap.size + 3, 3, none⟩ = some (.slice xw16 (nn.length + 1) yw16) ∧ w'.cell? ⟨w.heap.size, 3, none⟩ = some (.slice (some ⟨gn, 0, none⟩) nn.length cn)) w17.drew := ⟨cell_blk HPw17.out.blk 3, (HBw17.out.cell (p := ⟨w.heap.size, 3, none⟩) (by simp)).trans (cell_blk HB0.out 3)⟩
        refine wpAnyN_pure (i := 0) (v := ?_) (some 73) rfl rfl (by kernel_rfl) (by kernel_rfl) (by kernel_rfl) (by decide) (fun _ _ _ h => h) (Or.inl ⟨by rfl, ?_⟩) (fun _ => hS0) ?_
        rotate_left
        · intro wz _; go_simp
          try with_reducible rfl
        simp only [Act.put, List.setIfInBounds_toArray, List.set_cons_zero, List.set_cons_succ]
        refine wpAnyN_take (i := 1) (v := ?_) (some 74) rfl rfl (by kernel_rfl) (by kernel_rfl) (by kernel_rfl) (by kernel_rfl) (by decide) (by kernel_rfl) (fun _ _ _ h => h) (Or.inl ⟨by rfl, ?_⟩) hS0 ?_
        rotate_left
        · intro wz hSw; obtain ⟨s1, s2⟩ := hSw; go_simp
          try with_reducible rfl
        simp only [Act.put, List.setIfInBounds_toArray, List.set_cons_zero, List.set_cons_succ]
        refine wpAnyN_pure (i := 2) (v := ?_) (some 75) rfl rfl (by kernel_rfl) (by kernel_rfl) (by kernel_rfl) (by decide) (fun _ _ _ h => h) (Or.inl ⟨by rfl, ?_⟩) (fun _ => hS0) ?_
        rotate_left
        · intro wz _; go_simp
          try with_reducible rfl
        simp only [Act.put, List.setIfInBounds_toArray, List.set_cons_zero, List.set_cons_succ]
        refine wpAnyN_take (i := 3) (v := ?_) (some 76) rfl rfl (by kernel_rfl) (by kernel_rfl) (by kernel_rfl) (by kernel_rfl) (by decide) (by kernel_rfl) (fun _ _ _ h => h) (Or.inl ⟨by rfl, ?_⟩) hS0 ?_
        rotate_left
        · intro wz hSw; obtain ⟨s1, s2⟩ := hSw; go_simp
          try with_reducible rfl
        simp only [Act.put, List.setIfInBounds_toArray, List.set_cons_zero, List.set_cons_succ]
        refine wpAnyN_pure (i := 4) (v := ?_) (some 77) rfl rfl (by kernel_rfl) (by kernel_rfl) (by kernel_rfl) (by decide) (fun _ _ _ h => h) (Or.inl ⟨by rfl, ?_⟩) (fun _ => hS0) ?_
        rotate_left
        · intro wz _; go_simp
          try with_reducible rfl
        simp only [Act.put, List.setIfInBounds_toArray, List.set_cons_zero, List.set_cons_succ]
        refine wpAnyN_pure (i := 5) (v := ?_) (some 78) rfl rfl (by kernel_rfl) (by kernel_rfl) (by kernel_rfl) (by decide) (fun _ _ _ h => h) (Or.inl ⟨by rfl, ?_⟩) (fun _ => hS0) ?_
        rotate_left
        · intro wz _; go_simp
          try with_reducible rfl
        simp only [Act.put, List.setIfInBounds_toArray, List.set_cons_zero, List.set_cons_succ]
        refine wpAnyN_one (i := 6) (by kernel_rfl) rfl (fun K hK => ?_)
        have hpd := HPw17.out.call (Below.refl _ _).drew
        refine step_append_gen rfl (.tmp 74) (.tmp 78) 35 rfl (w.heap.size + 3 + 1) 9 iq _ 1 16 Tryz.underlying35 hiq hq0 hq1 hq2 rfl (by decide) (.slice xw16 (nn.length + 1) yw16) (nn.length + 1) (nn.map Value.string ++ [.string nm]) rfl (by simpa using hpd.on) (.slice (if cn = nn.length then some ⟨gn, 0, none⟩ else some ⟨gn, nn.length, none⟩) 0 (cn - nn.length)) 0 [] rfl (.inr ⟨if cn = nn.length then ⟨gn, 0, none⟩ else ⟨gn, nn.length, none⟩, _, by split <;> rfl, rfl, fun j u hj => by simp at hj⟩) (by simp) (by unfold maxLen; omega) (by omega) (Nat.succ_le_of_lt hpd.lt) ?_
        intro vw18 w18 hown hgr
        simp only [Nat.zero_add, Nat.add_zero, List.nil_append, List.append_nil] at hown
        obtain ⟨xw18, yw18, rfl⟩ := owns_form hown
        have HPw18 := Lib.hid (hpd.appN (nn' := (nn.map Value.string ++ [.string nm])) (by simpa using hown) hgr)
        have HBw18 := Lib.hid (HBw17.out.drew.trans (hpd.belowN hgr))
        clear hown hgr hpd
        refine hK.out _ w18 ⟨cell_blk HPw18.out.blk 3, (HBw18.out.cell (p := ⟨w.heap.size, 3, none⟩) (by simp)).trans (cell_blk HB0.out 3)⟩ ?_
        clear hK K hS0 HPw17 HBw17
        simp only [Act.put, List.setIfInBounds_toArray, List.set_cons_zero, List.set_cons_succ]
        refine wpAnyN_pure (i := 7) (v := ?_) (some 80) rfl rfl (by kernel_rfl) (by kernel_rfl) (by kernel_rfl) (by decide) (fun _ _ _ h => h) (Or.inl ⟨by rfl, ?_⟩) (fun _ => ⟨cell_blk HPw18.out.blk 3, (HBw18.out.cell (p := ⟨w.heap.size, 3, none⟩) (by simp)).trans (cell_blk HB0.out 3)⟩) ?_
        rotate_left
        · intro wz _; go_simp
          try with_reducible rfl
        simp only [Act.put, List.setIfInBounds_toArray, List.set_cons_zero, List.set_cons_succ]
        have k3 := cell_blk HPw18.out.blk 3; have f3 := fro_blk HPw18.out.blk 3
        simp only [List.getElem?_toArray, List.getElem?_cons_zero, List.getElem?_cons_succ] at k3
        refine wpAnyN_late (i := 8) (by kernel_rfl) (by kernel_rfl) rfl (fun K hK => ?_)
        go_simp
        refine hK.out _ (w18.setCell ⟨w.heap.size + 3, 3, none⟩ (.slice xw18 (nn.length + 1) yw18)) ?_
        have HPw19 := Lib.hid (HPw18.out.set3 (.slice xw18 (nn.length + 1) yw18))
        have HBw19 := Lib.hid (HBw18.out.setCell (p := ⟨w.heap.size + 3, 3, none⟩) (Nat.le_refl _) (.slice xw18 (nn.length + 1) yw18))
        obtain ⟨w19, hw19⟩ : ∃ w19, w18.setCell ⟨w.heap.size + 3, 3, none⟩ (.slice xw18 (nn.length + 1) yw18) = w19 := ⟨_, rfl⟩
        rw [hw19] at HPw19 HBw19 ⊢
        clear hw19 hK K HPw18 HBw18 k3 f3
        refine wpAnyN_done (by kernel_rfl) ?_ _
        obtain ⟨zz, hzz⟩ : ∃ z, (if cn = nn.length then some (⟨gn, 0, none⟩ : Addr) else some ⟨gn, nn.length, none⟩) = z := ⟨_, rfl⟩
        rw [hzz]
        clear hzz
        obtain ⟨k0, k1, k2, k3, k4⟩ := val_cells HPw19.out.blk
        have hbr := (HBw19.out.block (w.heap.size + 1 + 1) (by omega)).trans HB2.out
        obtain ⟨r0, r1, r2, r3, r4⟩ := val_cells hbr
        have q0 := fro_blk hbr 0; have q1 := fro_blk hbr 1; have q2 := fro_blk hbr 2; have q3 := fro_blk hbr 3; have q4 := fro_blk hbr 4
        go_wp2
        obtain ⟨v0, v1, v2, v3, v4⟩ := val_cells (show (((((w19.setCell ⟨w.heap.size + 1 + 1, 0, none⟩ (.int .i64 7)).setCell ⟨w.heap.size + 1 + 1, 1, none⟩ (.int .i64 0)).setCell ⟨w.heap.size + 1 + 1, 2, none⟩ (.string ⟨#[]⟩)).setCell ⟨w.heap.size + 1 + 1, 3, none⟩ (.slice xw18 (nn.length + 1) yw18)).setCell ⟨w.heap.size + 1 + 1, 4, none⟩ (.slice xw12 (nn.length + 1) yw12)).heap[w.heap.size + 1 + 1]? = some (.cells #[.int .i64 7, .int .i64 0, .string ⟨#[]⟩, (.slice xw18 (nn.length + 1) yw18), (.slice xw12 (nn.length + 1) yw12)] 59 (0, 0)) by simp [World.setCell, Array.getElem?_modify, hbr])
        refine bodyPost_ret (v := .agg #[.int .i64 7, .int .i64 0, .string ⟨#[]⟩, (.slice xw18 (nn.length + 1) yw18), (.slice xw12 (nn.length + 1) yw12)]) (by simp [results, Tryz.results78, go_sem, v0, v1, v2, v3, v4]) rfl ?_
        exact put_end HL.out rfl HS.out HK.out HX.out HB.out HBw19.out HPw19.out.on HPw19.out.ok
end Go.Proofs.YtbldchemgkfdcaaGreatDoor
