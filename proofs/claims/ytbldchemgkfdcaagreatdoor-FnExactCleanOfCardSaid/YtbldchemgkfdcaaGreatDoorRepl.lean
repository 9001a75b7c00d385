/- strings.NewReplacer at two bytes with two texts of two bytes each; build. -/
import Derived.Test.YtbldchemgkfdcaaGreatDoorSpecA
import Derived.Test.YtbldchemgkfdcaaGreatDoorSync
import Derived.Handy
import Derived.Deep.OwnRows
import Derived.Lib.ConvBytes
import Derived.Lib.SliceRun
namespace Go.Proofs.YtbldchemgkfdcaaGreatDoor
open Go.RowKit

theorem wpList_val {P : Program} {ops : Array Oper} {rest : List Oper} {o : Oper} {a : Act} {w : World} {Q : Exit → Act → World → Prop} (hgd : o.guard = none) {v : Value} {w' : World}
    (h : (execOp a.eval o).run P w = .ok (.value v) w') (k : wpList P ops Q rest (a.put o.dst v) w') : wpList P ops Q (o :: rest) a w :=
  wpList_plain hgd fun K hK => by unfold Oper.wp; rw [h, Oper.upon_value]; exact hK _ _ k

def bsrC (tr : Value) : Array Value := (Array.replicate 256 (.slice none 0 0)).push tr
theorem bsr_zero : Tryz.zeroCells188 = bsrC (.slice none 0 0) := by kernel_rfl
theorem bsr_size : (Tryz.prog.info? 188).map (·.size) = some 257 := by kernel_rfl
theorem bsrC_size (tr : Value) : (bsrC tr).size = 257 := by simp [bsrC]
theorem bsrC_set (tr : Value) : (bsrC (.slice none 0 0)).setIfInBounds 256 tr = bsrC tr := by
  apply Array.ext_getElem?
  intro i
  simp only [bsrC, Array.getElem?_setIfInBounds, Array.getElem?_push, Array.size_push, Array.size_replicate]
  by_cases h : i = 256
  · simp [h]
  · simp [h, show ¬ 256 = i by omega]
/-- cell i of the replacer -/
def bsrF (st : Nat) (o1 o2 : UInt8) (v1 v2 tr : Value) (i : Nat) : Value := if i = 256 then tr else if i = o1.toNat ∧ 2 ≤ st then v1 else if i = o2.toNat ∧ 1 ≤ st then v2 else .slice none 0 0
theorem bsrC_at (o1 o2 : UInt8) (v1 v2 tr : Value) (i : Nat) (hi : i < (bsrC tr).size) : (bsrC tr)[i]? = some (bsrF 0 o1 o2 v1 v2 tr i) := by
  have hs : (bsrC tr).size = 257 := by simp [bsrC]
  simp only [bsrC, bsrF, Array.getElem?_push, Array.size_replicate]
  by_cases h : i = 256
  · simp [h]
  · have : i < 256 := by omega
    simp [h, this]
def str1 (o : UInt8) : Value := .string ⟨⟨[o]⟩⟩
def byts (l : List UInt8) : List Value := l.map fun b => Value.int .u8 (b.toNat : Int)
/-- v is a slice of the bytes l, at the head of a block of bytes from block B on -/
def BytV (B : Nat) (v : Value) (l : List UInt8) (w : World) : Prop := ∃ q c cs fr, v = .slice (some ⟨q, 0, none⟩) l.length c ∧ B ≤ q ∧ w.heap[q]? = some (.cells cs 5 fr) ∧ (∀ (j : Nat) (u : Value), (byts l)[j]? = some u → cs[j]? = some u) ∧ l.length ≤ c ∧ c ≤ maxLen
/-- the replacer as it is built, st bytes laid -/
def Bst (B p : Nat) (o1 o2 : UInt8) (s1 s2 : List UInt8) (st : Nat) (w : World) : Prop :=
  ∃ tr v1 v2, w.rowIs p 188 257 (bsrF st o1 o2 v1 v2 tr) ∧ w.ownsRow B 9 1 tr st (([o2, o1].take st).map str1) ∧ B ≤ p ∧
    (1 ≤ st → BytV B v2 s2 w) ∧ (2 ≤ st → BytV B v1 s1 w)

theorem bsrC_one (a : Option Addr) (n c : Nat) : (bsrC (.slice a n c)).all (·.oneCell') = true := by kernel_rfl
theorem infoStr : (Tryz.prog.info? 9).map (fun i => (i.zero, i.size, i.bytes)) = some (some (.string ⟨#[]⟩), 1, 16) := by kernel_rfl
theorem bsrF_tr (st : Nat) (o1 o2 : UInt8) (v1 v2 tr : Value) : bsrF st o1 o2 v1 v2 tr 256 = tr := by simp [bsrF]
theorem bsrF_set (st : Nat) (o1 o2 : UInt8) (v1 v2 tr tr' : Value) (i : Nat) : (if i = 256 then tr' else bsrF st o1 o2 v1 v2 tr i) = bsrF st o1 o2 v1 v2 tr' i := by
  unfold bsrF; by_cases h : i = 256 <;> simp [h]
theorem bsrF_0 (o1 o2 : UInt8) (v1 v2 tr : Value) : bsrF 0 o1 o2 v1 v2 tr o2.toNat = .slice none 0 0 := by
  have := o2.toNat_lt
  simp [bsrF]; omega
theorem bsrF_1 (o1 o2 : UInt8) (v1 v2 tr : Value) (hne : o1 ≠ o2) : bsrF 1 o1 o2 v1 v2 tr o1.toNat = .slice none 0 0 := by
  have := o1.toNat_lt
  have h : ¬ o1.toNat = o2.toNat := fun h => hne (UInt8.toNat_inj.1 h)
  simp [bsrF, h]; omega
theorem bsrF_to1 (o1 o2 : UInt8) (v1 v2 v tr : Value) (i : Nat) : (if i = o2.toNat then v else bsrF 0 o1 o2 v1 v2 tr i) = bsrF 1 o1 o2 v1 v tr i := by
  have := o2.toNat_lt
  unfold bsrF
  by_cases h : i = o2.toNat
  · subst h; simp; omega
  · simp [h]
theorem bsrF_to2 (o1 o2 : UInt8) (v1 v2 v tr : Value) (i : Nat) : (if i = o1.toNat then v else bsrF 1 o1 o2 v1 v2 tr i) = bsrF 2 o1 o2 v v2 tr i := by
  have := o1.toNat_lt
  unfold bsrF
  by_cases h : i = o1.toNat
  · subst h; simp; omega
  · simp [h]
theorem below_bytes {B : Nat} {w0 w : World} (h : Below B w0 w) (hB : B ≤ w.heap.size) (s : ByteArray) : Below B w0 (Lib.bytesWorld w 5 s) := by
  refine h.trans ⟨rfl, rfl, rfl, by rw [Lib.bytesWorld_size]; omega, fun k hk => Lib.bytesWorld_at_old _ _ _ _ (by omega)⟩

theorem own_ne_row {w : World} {B : Nat} {e T : TypeId} {sz n m p : Nat} {v : Value} {xs : List Value} {f : Nat → Value} (h : w.ownsRow B e sz v n xs) (hR : w.rowIs p T m f) (hne : e ≠ T) : v.ownBlock ≠ some p := by
  obtain ⟨cs, hb, _⟩ := hR
  rcases h.2 with ⟨rfl, _⟩ | ⟨g, cap, cur, rfl, _, hg, _⟩
  · simp [Value.ownBlock]
  · intro hp
    simp only [Value.ownBlock, Option.some.injEq] at hp
    subst hp
    rw [hb] at hg
    simp only [Option.some.injEq, Obj.cells.injEq] at hg
    exact hne hg.2.1.symm
theorem own_setCell {w : World} {B : Nat} {e : TypeId} {sz n : Nat} {v : Value} {xs : List Value} (h : w.ownsRow B e sz v n xs) {a : Addr} (hne : v.ownBlock ≠ some a.block) (x : Value) : (w.setCell a x).ownsRow B e sz v n xs :=
  h.kept (row := some a.block) ⟨rfl, rfl, rfl, by simp, fun k _ hk => heap_setCell_other w a k x (fun e => hk (by rw [e]))⟩ (.inr hne)
theorem owns_call' {w w' : World} {B : Nat} {e : TypeId} {size n : Nat} {v : Value} {xs : List Value} (h : w.ownsRow B e size v n xs) (hb : Below w.heap.size w w') : w'.ownsRow B e size v n xs :=
  h.kept (row := none) ⟨hb.os, hb.tape, hb.output, hb.size, fun k hk _ => hb.block k hk⟩ (by cases hv : v.ownBlock <;> simp)
theorem BytV.of_block {B : Nat} {v : Value} {l : List UInt8} {w w' : World} (h : BytV B v l w) (hw : ∀ (q : Nat) (cs : Array Value) (fr : Nat × Nat), w.heap[q]? = some (Obj.cells cs 5 fr) → w'.heap[q]? = w.heap[q]?) : BytV B v l w' := by
  obtain ⟨q, c, cs, fr, h1, h2, h3, h4⟩ := h
  exact ⟨q, c, cs, fr, h1, h2, (hw q cs fr h3).trans h3, h4⟩
theorem BytV.below {B : Nat} {v : Value} {l : List UInt8} {w w' : World} (h : BytV B v l w) (hb : Below w.heap.size w w') : BytV B v l w' :=
  h.of_block fun _ cs fr hq => hb.block _ (lt_blk (o := .cells cs 5 fr) hq)
theorem BytV.grown {B : Nat} {v : Value} {l : List UInt8} {w w' : World} {e : TypeId} {sz n B' : Nat} {tr : Value} {xs : List Value} (h : BytV B v l w) (ho : w.ownsRow B' e sz tr n xs) (he : e ≠ 5) (hg : w.grownBy w' tr.ownBlock) : BytV B v l w' :=
  h.of_block fun q cs fr hq => hg.block q (lt_blk (o := .cells cs 5 fr) hq) (by
    intro hr
    rcases ho.2 with ⟨rfl, _⟩ | ⟨g, cap, cur, rfl, _, hgg, _⟩
    · simp [Value.ownBlock] at hr
    · simp only [Value.ownBlock, Option.some.injEq] at hr
      subst hr
      rw [hq] at hgg
      simp only [Option.some.injEq, Obj.cells.injEq] at hgg
      exact he hgg.2.1.symm)
theorem BytV.setCell {B : Nat} {v x : Value} {l : List UInt8} {w : World} {p i m : Nat} {T : TypeId} {f : Nat → Value} (h : BytV B v l w) (hR : w.rowIs p T m f) (hT : T ≠ 5) : BytV B v l (w.setCell ⟨p, i, none⟩ x) :=
  h.of_block fun q cs fr hq => heap_setCell_other w _ q x (by
    rintro rfl
    obtain ⟨cs', hb, _⟩ := hR
    rw [hb] at hq
    simp only [Option.some.injEq, Obj.cells.injEq] at hq
    exact hT hq.2.1)
theorem conv_step {B n : Nat} {w0 w : World} {p : Nat} {f : Nat → Value} {v : Value} {xs : List Value} (n1 n2 : UInt8) (hR : w.rowIs p 188 257 f) (hB : Below B w0 w) (hBw : B ≤ w.heap.size) (hO : w.ownsRow B 9 1 v n xs) :
    ∃ w6 c6 z6, (convert 9 111 (.string ⟨⟨[n1, n2]⟩⟩)).run Tryz.prog w = .ok (.slice (some ⟨z6, 0, none⟩) 2 c6) w6 ∧ w6.rowIs p 188 257 f ∧ BytV B (.slice (some ⟨z6, 0, none⟩) 2 c6) [n1, n2] w6 ∧ Below B w0 w6 ∧ w6.ownsRow B 9 1 v n xs ∧ Below w.heap.size w w6 := by
  have hb : Below w.heap.size w (Lib.bytesWorld w 5 ⟨⟨[n1, n2]⟩⟩) := below_bytes (Below.refl _ _) (Nat.le_refl _) _
  refine ⟨_, _, _, Lib.run_convert_string_bytes w _ _ _ _ Tryz.underlying9 Tryz.underlying111 Tryz.underlying5, hR.of_block (Lib.bytesWorld_at_old _ _ _ _ hR.lt), ⟨_, _, _, _, rfl, hBw, Lib.bytesWorld_at_new _ _ _, fun j u hu => ?_, grownCap_ge w 2 0 5, grownCap_le_maxLen _ _ _ _ (by unfold maxLen; show 2 ≤ _; omega)⟩, below_bytes hB hBw _, owns_call' hO hb, hb⟩
  match j, hu with
  | 0, hu => simp [byts] at hu; simp [Lib.bytesCells, Array.getElem?_append, hu]
  | 1, hu => simp [byts] at hu; simp [Lib.bytesCells, Array.getElem?_append, hu]
  | _ + 2, hu => simp [byts] at hu

theorem bsr_made (w : World) (o1 o2 : UInt8) (s1 s2 : List UInt8) : Bst w.heap.size (w.heap.size + 1) o1 o2 s1 s2 0 ((((w.alloc (.cells #[.string ⟨#[]⟩, .string ⟨#[]⟩] 9)).alloc (.cells (bsrC (.slice none 0 0)) 188))).setRow (w.heap.size + 1) (bsrC (.slice (some ⟨w.heap.size, 0, none⟩) 0 2))) ∧
    Below w.heap.size w ((((w.alloc (.cells #[.string ⟨#[]⟩, .string ⟨#[]⟩] 9)).alloc (.cells (bsrC (.slice none 0 0)) 188))).setRow (w.heap.size + 1) (bsrC (.slice (some ⟨w.heap.size, 0, none⟩) 0 2))) := by
  have hb : ((w.alloc (.cells #[.string ⟨#[]⟩, .string ⟨#[]⟩] 9)).alloc (.cells (bsrC (.slice none 0 0)) 188)).heap[w.heap.size + 1]? = some (.cells (bsrC (.slice none 0 0)) 188 (0, 0)) := by
    have := blk_new (w.alloc (.cells #[.string ⟨#[]⟩, .string ⟨#[]⟩] 9)) (.cells (bsrC (.slice none 0 0)) 188)
    rwa [show (w.alloc (.cells #[.string ⟨#[]⟩, .string ⟨#[]⟩] 9)).heap.size = w.heap.size + 1 by simp] at this
  have hr := setRow_heap ((w.alloc (.cells #[.string ⟨#[]⟩, .string ⟨#[]⟩] 9)).alloc (.cells (bsrC (.slice none 0 0)) 188)) (w.heap.size + 1) _ (bsrC (.slice (some ⟨w.heap.size, 0, none⟩) 0 2)) _ _ hb
  have h0 := (setRow_other ((w.alloc (.cells #[.string ⟨#[]⟩, .string ⟨#[]⟩] 9)).alloc (.cells (bsrC (.slice none 0 0)) 188)) (w.heap.size + 1) w.heap.size (bsrC (.slice (some ⟨w.heap.size, 0, none⟩) 0 2)) (by omega)).trans ((blk_old _ _ (by simp)).trans (blk_new w _))
  refine ⟨⟨.slice (some ⟨w.heap.size, 0, none⟩) 0 2, .slice none 0 0, .slice none 0 0, ⟨_, hr, bsrC_size _, fun i hi => bsrC_at _ _ _ _ _ i (by rw [bsrC_size]; exact hi)⟩, ?_, by omega, fun h => by omega, fun h => by omega⟩, ?_⟩
  · refine ⟨by simp, .inr ⟨w.heap.size, 2, _, rfl, Nat.le_refl _, h0, by omega, by unfold maxLen; omega, by simp, by simp⟩⟩
  · have hB := ((Below.refl w.heap.size w).alloc (Nat.le_refl _) (.cells #[.string ⟨#[]⟩, .string ⟨#[]⟩] 9)).alloc (by simp) (.cells (bsrC (.slice none 0 0)) 188)
    exact ⟨hB.os, hB.tape, hB.output, by simpa using hB.size, fun k hk => (setRow_other _ _ _ _ (by omega)).trans (hB.block k hk)⟩

set_option maxRecDepth 100000 in
set_option maxHeartbeats 2000000 in
theorem build_c (b g cap : Nat) (x0 x1 x2 x3 : Value) (o1 o2 a1 a2 c1 c2 : UInt8) (hne : o1 ≠ o2) (w : World)
    (hb : w.heap[b]? = some (.cells #[x0, x1, x2, x3, .slice (some ⟨g, 0, none⟩) 4 cap] 152 (0, 0)))
    (h0 : w.cell? ⟨g, 0, none⟩ = some (.string ⟨⟨[o1]⟩⟩)) (h1 : w.cell? ⟨g, 1, none⟩ = some (.string ⟨⟨[a1, a2]⟩⟩)) (h2 : w.cell? ⟨g, 2, none⟩ = some (.string ⟨⟨[o2]⟩⟩)) (h3 : w.cell? ⟨g, 3, none⟩ = some (.string ⟨⟨[c1, c2]⟩⟩)) :
    Calls Tryz.prog 130 #[.pointer (some ⟨b, 0, none⟩)] w fun e w' => ∃ p, e = .returned (.iface 189 (.pointer (some ⟨p, 0, none⟩))) ∧ Bst w.heap.size p o1 o2 [a1, a2] [c1, c2] 2 w' ∧ Below w.heap.size w w' := by
  have q4 := cell_blk hb 4
  simp only [List.getElem?_toArray, List.getElem?_cons_zero, List.getElem?_cons_succ] at q4
  have hmk : ∀ w, (Instr.makeSlice 35 (.int .i64 0) (.int .i64 2)).run Tryz.prog w = .ok (.slice (some ⟨w.heap.size, 0, none⟩) 0 2) (w.alloc (.cells #[.string ⟨#[]⟩, .string ⟨#[]⟩] 9)) := fun _ => by kernel_rfl
  have HB := Lib.hid hb
  clear hb
  go_enter Tryz.func130, Tryz.ntmps130
  go_wp2
  refine wp_loop_rounds 3 ?_
  rw [rounds_succ]
  go_wp2
  rw [rounds_succ]
  go_wp2
  rw [rounds_succ]
  go_wp2_with (refine wpList_store_row (o := ⟨none, .store 188 (.tmp 11) (.tmp 95), _, _, _, _⟩) rfl 188 (.tmp 11) (.tmp 95) rfl (w.heap.size + 1) _ rfl rfl 188 Tryz.zeroCells188 ?c1 ?c2 ?c3 ?c4 ?_)
  case c1 => exact blk_new (w.alloc _) _ |>.trans rfl |> fun h => by simpa using h
  case c2 => rw [bsr_zero, bsrC_set, bsrC_size]; exact bsr_size
  case c3 => rw [bsr_zero, bsrC_set, bsrC_size, bsrC_size]
  case c4 => rw [bsr_zero, bsrC_set]; exact bsrC_one _ _ _
  rw [bsr_zero, bsrC_set]
  obtain ⟨hBs, hBl⟩ := bsr_made w o1 o2 [a1, a2] [c1, c2]
  generalize World.setRow _ _ _ = w3 at hBs hBl ⊢
  have HBs := Lib.hid hBs; have HBl := Lib.hid hBl
  clear hBs hBl hmk
  obtain ⟨i0, hi, hz0, hz1, hz2⟩ := info_parts infoStr
  have hgw := lt_cell h0
  have hgb1 : o1.toNat < 256 := o1.toNat_lt
  have hgb2 : o2.toNat < 256 := o2.toNat_lt
  have hg1 : ∀ h, (⟨⟨[o1]⟩⟩ : ByteArray)[0]'h = o1 := fun _ => rfl
  have hg2 : ∀ h, (⟨⟨[o2]⟩⟩ : ByteArray)[0]'h = o2 := fun _ => rfl
  have heq := fun (a : Option Addr) (n c : Nat) (w : World) => Lib.run_eql_slice_nil (P := Tryz.prog) w 111 5 a n c 0 0 Tryz.underlying111
  go_wp2
  go_loopg [12] 2 (fun gh i wr => ∃ st : Nat, gh = 2 - st ∧ ((st = 0 ∧ i = .int .i64 2) ∨ (st = 1 ∧ i = .int .i64 0) ∨ (st = 2 ∧ i = .int .i64 (-2))) ∧ Hid (Bst w.heap.size (w.heap.size + 1) o1 o2 [a1, a2] [c1, c2] st wr) ∧ Hid (Below w.heap.size w wr))
  case atStart => exact ⟨0, rfl, .inl ⟨rfl, rfl⟩, HBs, HBl⟩
  case round =>
    obtain ⟨st, rfl, hst, HBs, HBr⟩ := hrel
    rcases hst with ⟨rfl, rfl⟩ | ⟨rfl, rfl⟩ | ⟨rfl, rfl⟩
    case inl => 
      obtain ⟨tr, v1, v2, hR, hown, hBp, hy2, hy1⟩ := HBs.out
      have hnb := own_ne_row hown hR (by decide)
      have HR := Lib.hid hR; have HO := Lib.hid hown; have HY2 := Lib.hid hy2; have HY1 := Lib.hid hy1
      obtain ⟨ta, tc, rfl⟩ := owns_form hown
      have y0 := (HBr.out.cell (p := ⟨g, 2, none⟩) hgw).trans h2
      have y1 := (HBr.out.cell (p := ⟨g, 2+1, none⟩) hgw).trans h3
      have hpw := hR.lt
      have k1 : wr.cell? ⟨w.heap.size + 1, o2.toNat, none⟩ = some (.slice none 0 0) := (hR.cell (by omega)).trans (congrArg some (bsrF_0 _ _ _ _ _))
      have k2 : wr.cell? ⟨w.heap.size + 1, 256, none⟩ = some (.slice ta 0 tc) := (hR.cell (by omega)).trans (congrArg some (bsrF_tr _ _ _ _ _ _))
      have hcv := conv_new o2 _ rfl wr
      clear hR hown hy2 hy1
      go_wp2_with (first
        | (at_builtin; go_loud (refine wpList_append_own _ rfl _ _ 35 rfl w.heap.size 9 i0 (.string ⟨#[]⟩) 1 16 Tryz.underlying35 hi hz0 hz1 hz2 rfl (by decide) _ _ _ rfl ((HO.out.alloc _).alloc _) ⟨wr.heap.size + 1, 0, none⟩ 1 1 [str1 o2] rfl rfl (by intro j u hj; exact cells_new' (by simp) hj) (by intro u hu; simp at hu; subst hu; rfl) (by unfold maxLen; omega) (by omega) (by have := HBr.out.size; simp; omega) ?_)))
      intro v' w4 hown4 hgr4 _
      obtain ⟨ta4, tc4, rfl⟩ := owns_form hown4
      have hR4 := (((HR.out.alloc _).alloc _).of_block (hgr4.block (w.heap.size + 1) (by simp; omega) (fun h => hnb h.symm)))
      have hB4 := (((HBr.out.alloc (by have := HBr.out.size; omega) _).alloc (by have := HBr.out.size; simp; omega) _).grown hgr4 (by have := HBr.out.size; simp; omega) (fun k hk => (HO.out.lt k hk).1))
      have hz4 : wr.heap.size ≤ w4.heap.size := by have := hgr4.size; simp at this; omega
      have j2 : w4.cell? ⟨w.heap.size + 1, 256, none⟩ = some (.slice ta 0 tc) := (hR4.cell (by omega)).trans (congrArg some (bsrF_tr _ _ _ _ _ _))
      have jf := hR4.frozen 256
      have hR5 := (hR4.set 256 (.slice ta4 1 tc4)).congr (fun i _ => bsrF_set _ _ _ _ _ _ _ i)
      have hB5 := hB4.setCell (p := ⟨w.heap.size + 1, 256, none⟩) (by omega) (.slice ta4 1 tc4)
      have HR4 := Lib.hid hR4; have HR5 := Lib.hid hR5; have HB5 := Lib.hid hB5; have HO4 := Lib.hid hown4
      clear hR4 hB4 hR5 hB5 hown4 hgr4 hnb k1 k2 hcv y0 y1
      obtain ⟨w6, c6, z6, hcv6, hR6, hN6, hB6, hO6, hb6⟩ := conv_step c1 c2 HR5.out HB5.out (by have := HBr.out.size; simp; omega) (own_setCell HO4.out (a := ⟨w.heap.size + 1, 256, none⟩) (own_ne_row (HO4.out) HR4.out (by decide)) (.slice ta4 1 tc4))
      have m2 : w6.cell? ⟨w.heap.size + 1, o2.toNat, none⟩ = some (.slice none 0 0) := (hR6.cell (by omega)).trans (congrArg some (bsrF_0 _ _ _ _ _))
      have mf := hR6.frozen o2.toNat
      have HR6 := Lib.hid hR6; have HN6 := Lib.hid hN6; have HB6 := Lib.hid hB6; have HO6 := Lib.hid hO6; have Hb6 := Lib.hid hb6
      clear hR6 hN6 hB6 hO6 hb6
      go_wp2
      go_roundg (2 - (0 + 1))
      case measure => omega
      case rel => exact ⟨0 + 1, rfl, .inr (.inl ⟨rfl, rfl⟩), ⟨.slice ta4 1 tc4, v1, .slice (some ⟨z6, 0, none⟩) 2 c6, (HR6.out.set o2.toNat _).congr (fun i _ => bsrF_to1 _ _ _ _ _ _ i), own_setCell HO6.out (own_ne_row HO6.out HR6.out (by decide)) _, hBp, fun _ => HN6.out.setCell HR6.out (by decide), fun h => by omega⟩, HB6.out.setCell (p := ⟨w.heap.size + 1, o2.toNat, none⟩) (by simp) _⟩
    case inr.inl => 
      obtain ⟨tr, v1, v2, hR, hown, hBp, hy2, hy1⟩ := HBs.out
      have hnb := own_ne_row hown hR (by decide)
      have HR := Lib.hid hR; have HO := Lib.hid hown; have HY2 := Lib.hid hy2; have HY1 := Lib.hid hy1
      obtain ⟨ta, tc, rfl⟩ := owns_form hown
      have y0 := (HBr.out.cell (p := ⟨g, 0, none⟩) hgw).trans h0
      have y1 := (HBr.out.cell (p := ⟨g, 0+1, none⟩) hgw).trans h1
      have hpw := hR.lt
      have k1 : wr.cell? ⟨w.heap.size + 1, o1.toNat, none⟩ = some (.slice none 0 0) := (hR.cell (by omega)).trans (congrArg some (bsrF_1 _ _ _ _ _ hne))
      have k2 : wr.cell? ⟨w.heap.size + 1, 256, none⟩ = some (.slice ta 1 tc) := (hR.cell (by omega)).trans (congrArg some (bsrF_tr _ _ _ _ _ _))
      have hcv := conv_new o1 _ rfl wr
      clear hR hown hy2 hy1
      go_wp2_with (first
        | (at_builtin; go_loud (refine wpList_append_own _ rfl _ _ 35 rfl w.heap.size 9 i0 (.string ⟨#[]⟩) 1 16 Tryz.underlying35 hi hz0 hz1 hz2 rfl (by decide) _ _ _ rfl ((HO.out.alloc _).alloc _) ⟨wr.heap.size + 1, 0, none⟩ 1 1 [str1 o1] rfl rfl (by intro j u hj; exact cells_new' (by simp) hj) (by intro u hu; simp at hu; subst hu; rfl) (by unfold maxLen; omega) (by omega) (by have := HBr.out.size; simp; omega) ?_)))
      intro v' w4 hown4 hgr4 _
      obtain ⟨ta4, tc4, rfl⟩ := owns_form hown4
      have hR4 := (((HR.out.alloc _).alloc _).of_block (hgr4.block (w.heap.size + 1) (by simp; omega) (fun h => hnb h.symm)))
      have hB4 := (((HBr.out.alloc (by have := HBr.out.size; omega) _).alloc (by have := HBr.out.size; simp; omega) _).grown hgr4 (by have := HBr.out.size; simp; omega) (fun k hk => (HO.out.lt k hk).1))
      have hz4 : wr.heap.size ≤ w4.heap.size := by have := hgr4.size; simp at this; omega
      have j2 : w4.cell? ⟨w.heap.size + 1, 256, none⟩ = some (.slice ta 1 tc) := (hR4.cell (by omega)).trans (congrArg some (bsrF_tr _ _ _ _ _ _))
      have jf := hR4.frozen 256
      have hR5 := (hR4.set 256 (.slice ta4 2 tc4)).congr (fun i _ => bsrF_set _ _ _ _ _ _ _ i)
      have hB5 := hB4.setCell (p := ⟨w.heap.size + 1, 256, none⟩) (by omega) (.slice ta4 2 tc4)
      have HYW := Lib.hid ((((HY2.out (by omega)).below ((Below.refl _ _).alloc (Nat.le_refl _) (.cells #[.int .u8 o1.toNat] 5))).below ((Below.refl _ _).alloc (Nat.le_refl _) (.cells #[str1 o1] 9))).grown ((HO.out.alloc _).alloc _) (by decide) hgr4)
      have HR4 := Lib.hid hR4; have HR5 := Lib.hid hR5; have HB5 := Lib.hid hB5; have HO4 := Lib.hid hown4
      clear hR4 hB4 hR5 hB5 hown4 hgr4 hnb k1 k2 hcv y0 y1
      obtain ⟨w6, c6, z6, hcv6, hR6, hN6, hB6, hO6, hb6⟩ := conv_step a1 a2 HR5.out HB5.out (by have := HBr.out.size; simp; omega) (own_setCell HO4.out (a := ⟨w.heap.size + 1, 256, none⟩) (own_ne_row (HO4.out) HR4.out (by decide)) (.slice ta4 2 tc4))
      have m2 : w6.cell? ⟨w.heap.size + 1, o1.toNat, none⟩ = some (.slice none 0 0) := (hR6.cell (by omega)).trans (congrArg some (bsrF_1 _ _ _ _ _ hne))
      have mf := hR6.frozen o1.toNat
      have HR6 := Lib.hid hR6; have HN6 := Lib.hid hN6; have HB6 := Lib.hid hB6; have HO6 := Lib.hid hO6; have Hb6 := Lib.hid hb6
      clear hR6 hN6 hB6 hO6 hb6
      go_wp2
      have HY3 := Lib.hid ((((HYW.out).setCell HR4.out (by decide)).below Hb6.out).setCell (i := o1.toNat) (x := .slice (some ⟨z6, 0, none⟩) 2 c6) HR6.out (by decide))
      go_roundg (2 - (1 + 1))
      case measure => omega
      case rel => exact ⟨1 + 1, rfl, .inr (.inr ⟨rfl, rfl⟩), ⟨.slice ta4 2 tc4, .slice (some ⟨z6, 0, none⟩) 2 c6, v2, (HR6.out.set o1.toNat _).congr (fun i _ => bsrF_to2 _ _ _ _ _ _ i), own_setCell HO6.out (own_ne_row HO6.out HR6.out (by decide)) _, hBp, fun _ => HY3.out, fun _ => HN6.out.setCell HR6.out (by decide)⟩, HB6.out.setCell (p := ⟨w.heap.size + 1, o1.toNat, none⟩) (by simp) _⟩
    case inr.inr =>
      go_wp2
      go_ret
      exact ⟨_, rfl, HBs.out, HBr.out⟩
end Go.Proofs.YtbldchemgkfdcaaGreatDoor
