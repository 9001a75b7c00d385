/- spec.l4CleanOf. -/
import Derived.Test.YtbldchemgkfdcaaGreatDoorPutC
namespace Go.Proofs.YtbldchemgkfdcaaGreatDoor
open Go.RowKit

theorem clean_end {w w2 w6 : World} {S : Nat → Prop} {nn : List ByteArray} {ts : List T} {nm : ByteArray} {kc : T} {s5 n1 n2 : Nat} {x1 x2 : Option Addr} {y1 y2 : Nat} {cv cr co : Array Value} (h0 : Below w.heap.size w w2) (h1 : Below w2.heap.size w2 w6)
    (hco : co.size = 5) (hbo : w6.heap[w.heap.size + 1 + 1]? = some (.cells co 59 (0, 0)))
    (hv : IsV w6 (fun b => (((S b ∨ w.heap.size ≤ b) ∧ b ≠ w.heap.size + 1 ∧ b ≠ w.heap.size + 1 + 1) ∧ b < s5) ∨ s5 ≤ b) (.mk 7 0 ⟨#[]⟩ (nn ++ [nm]) (ts ++ [kc])) [.int .i64 7, .int .i64 0, .string ⟨#[]⟩, .slice x1 n1 y1, .slice x2 n2 y2])
    (hl0 : w.heap.size < w2.heap.size) (hlo : w.heap.size + 1 + 1 < w2.heap.size) (hs5 : w.heap.size + 1 + 1 < s5)
    (hbv : w2.heap[w.heap.size]? = some (.cells cv 59 (0, 0))) (hbr : w2.heap[w.heap.size + 1]? = some (.cells cr 59 (0, 0))) (wf : World)
    (hwf : wf = (((((w6.setCell ⟨w.heap.size + 1 + 1, 0, none⟩ (.int .i64 7)).setCell ⟨w.heap.size + 1 + 1, 1, none⟩ (.int .i64 0)).setCell ⟨w.heap.size + 1 + 1, 2, none⟩ (.string ⟨#[]⟩)).setCell ⟨w.heap.size + 1 + 1, 3, none⟩ (.slice x1 n1 y1)).setCell ⟨w.heap.size + 1 + 1, 4, none⟩ (.slice x2 n2 y2))) :
    Hid (Below w.heap.size w wf) ∧ Hid (wf.heap[w.heap.size]? = some (.cells cv 59 (0, 0))) ∧ Hid (wf.heap[w.heap.size + 1]? = some (.cells cr 59 (0, 0))) ∧
      Hid (wf.heap[w.heap.size + 1 + 1]? = some (.cells #[.int .i64 7, .int .i64 0, .string ⟨#[]⟩, .slice x1 n1 y1, .slice x2 n2 y2] 59 (0, 0))) ∧
      Hid (IsV wf (fun b => (S b ∨ w.heap.size ≤ b) ∧ b ≠ w.heap.size + 1 ∧ b ≠ w.heap.size + 1 + 1) (.mk 7 0 ⟨#[]⟩ (nn ++ [nm]) (ts ++ [kc])) [.int .i64 7, .int .i64 0, .string ⟨#[]⟩, .slice x1 n1 y1, .slice x2 n2 y2]) := by
  have hBB : Below w.heap.size w w6 := h0.trans (h1.mono h0.size)
  have hold : ∀ b, b ≠ w.heap.size + 1 + 1 → wf.heap[b]? = w6.heap[b]? := fun b hne => by
    rw [hwf, Below.heap_setCell _ _ _ _ (by simpa using hne), Below.heap_setCell _ _ _ _ (by simpa using hne), Below.heap_setCell _ _ _ _ (by simpa using hne), Below.heap_setCell _ _ _ _ (by simpa using hne), Below.heap_setCell _ _ _ _ (by simpa using hne)]
  have hsz : wf.heap.size = w6.heap.size := by rw [hwf]; simp [World.setCell]
  refine ⟨?_, ?_, ?_, ?_, ?_⟩
  · rw [hwf]
    exact ((((hBB.setCell (p := ⟨w.heap.size + 1 + 1, 0, none⟩) (by simp; omega) _).setCell (p := ⟨w.heap.size + 1 + 1, 1, none⟩) (by simp; omega) _).setCell (p := ⟨w.heap.size + 1 + 1, 2, none⟩) (by simp; omega) _).setCell (p := ⟨w.heap.size + 1 + 1, 3, none⟩) (by simp; omega) _).setCell (p := ⟨w.heap.size + 1 + 1, 4, none⟩) (by simp; omega) _
  · exact (hold _ (by omega)).trans ((h1.block _ hl0).trans hbv)
  · exact (hold _ (by omega)).trans ((h1.block _ (by omega)).trans hbr)
  · match co, hco with
    | ⟨[c0, c1, c2, c3, c4]⟩, _ =>
      unfold Hid
      rw [hwf]
      simp [World.setCell, Array.getElem?_modify, hbo]
  · have hv' : IsV w6 (fun b => (S b ∨ w.heap.size ≤ b) ∧ b ≠ w.heap.size + 1 ∧ b ≠ w.heap.size + 1 + 1) (.mk 7 0 ⟨#[]⟩ (nn ++ [nm]) (ts ++ [kc])) [.int .i64 7, .int .i64 0, .string ⟨#[]⟩, .slice x1 n1 y1, .slice x2 n2 y2] :=
      IsV.mono (fun b hb _ => by
        rcases hb with hb | hb
        · exact hb.1
        · exact ⟨.inr (by omega), by omega, by omega⟩) hv
    exact IsV.frame (fun b hb _ => hold b hb.2.2) (by omega) hv'

set_option linter.unusedSimpArgs false in
set_option maxRecDepth 100000 in
set_option maxHeartbeats 4000000 in
theorem l4CleanOf_c (n : Nat) : ∀ (t : T) (an ak : Option Addr) (cn ck : Nat) (w : World) (S : Nat → Prop), t.cnt ≤ n → t.cnt ≤ 1099511627 → t.wn → t.inc →
    IsV w S t [.int .i64 t.kind, .int .i64 t.num, .string t.text, .slice an t.names.length cn, .slice ak t.kids.length ck] → (∀ b, S b → b < w.heap.size) →
    Calls Tryz.prog 50 #[.agg #[.int .i64 t.kind, .int .i64 t.num, .string t.text, .slice an t.names.length cn, .slice ak t.kids.length ck]] w fun e w' =>
      ∃ an' cn' ak' ck', e = .returned (.agg #[.int .i64 t.clean.kind, .int .i64 t.clean.num, .string t.clean.text, .slice an' t.clean.names.length cn', .slice ak' t.clean.kids.length ck']) ∧
        IsV w' (fun b => S b ∨ w.heap.size ≤ b) t.clean [.int .i64 t.clean.kind, .int .i64 t.clean.num, .string t.clean.text, .slice an' t.clean.names.length cn', .slice ak' t.clean.kids.length ck'] ∧ Below w.heap.size w w' := by
  induction n with
  | zero => intro t an ak cn ck w S hn; have := t.cnt_pos; omega
  | succ n ih =>
  rintro ⟨kind, num, text, names, kids⟩ an ak cn ck w S hn hb hwn hinc hv hSb
  simp only [T.kind, T.num, T.text, T.names, T.kids] at hv ⊢
  have HV0 := Lib.hid hv
  by_cases h7 : kind = 7
  · have hcl : (T.mk kind num text names kids).clean = .mk 7 0 ⟨#[]⟩ (cnames names kids) (T.cleans kids) := by rw [T.clean, if_pos h7]
    rw [hcl]
    simp only [T.kind, T.num, T.text, T.names, T.kids]
    subst h7
    obtain ⟨sn, sk, vs, heq, hnames, hrow, hkids⟩ := hv
    simp only [List.cons.injEq, true_and, and_true] at heq
    obtain ⟨rfl, rfl⟩ := heq
    have hnl : names.length = kids.length := hwn.1.1 rfl
    have HSb := Lib.hid hSb; have HW := Lib.hid hwn; have HInc := Lib.hid hinc; have HNL := Lib.hid hnl
    have HK := Lib.hid hkids; have HN := Lib.hid hnames; have HR := Lib.hid hrow
    have hkl : kids.length ≤ 1099511627 := by have := T.cnts_len kids; simp only [T.cnt] at hb; omega
    clear hkids hnames hrow hwn hinc hSb hnl hcl HV0
    go_enter Tryz.func50, Tryz.ntmps50
    go_wp2
    go_loopg [14] kids.length (fun gh i wr => ∃ k : Nat, k ≤ kids.length ∧ gh = kids.length - k ∧ i = .int .i64 k ∧ ∃ ao co ap cp, Hid (Below w.heap.size w wr) ∧
      Hid (wr.heap[w.heap.size]? = some (.cells #[.int .i64 7, .int .i64 num, .string text, .slice an names.length cn, .slice ak kids.length ck] 59 (0, 0))) ∧
      Hid (wr.heap[w.heap.size + 1]? = some (.cells #[.int .i64 0, .int .i64 0, .string ⟨#[]⟩, .slice none 0 0, .slice none 0 0] 59 (0, 0))) ∧
      Hid (wr.heap[w.heap.size + 1 + 1]? = some (.cells #[.int .i64 7, .int .i64 0, .string ⟨#[]⟩, .slice ao (cnames (names.take k) (kids.take k)).length co, .slice ap (T.cleans (kids.take k)).length cp] 59 (0, 0))) ∧
      Hid (IsV wr (fun b => (S b ∨ w.heap.size ≤ b) ∧ b ≠ w.heap.size + 1 ∧ b ≠ w.heap.size + 1 + 1) (.mk 7 0 ⟨#[]⟩ (cnames (names.take k) (kids.take k)) (T.cleans (kids.take k))) [.int .i64 7, .int .i64 0, .string ⟨#[]⟩, .slice ao (cnames (names.take k) (kids.take k)).length co, .slice ap (T.cleans (kids.take k)).length cp]) ∧
      Hid ((ao = none ∧ ap = none ∧ co = 0 ∧ cp = 0 ∧ T.cleans (kids.take k) = []) ∨ ∃ g1 g2, ao = some ⟨g1, 0, none⟩ ∧ ap = some ⟨g2, 0, none⟩))
    case atStart =>
      refine ⟨0, Nat.zero_le _, by simp, rfl, none, 0, none, 0, ((((Below.refl w.heap.size w).alloc (Nat.le_refl _) _).alloc (by simp) _).alloc (by simp; omega) _), blkC rfl, blkB (by simp), blkA (by simp), ?_, .inl ⟨rfl, rfl, rfl, rfl, rfl⟩⟩
      exact ⟨_, _, [], rfl, Row.nil _ _ _, Row.nil _ _ _, trivial⟩
    case round =>
      obtain ⟨k, hk, rfl, rfl, ao, co, ap, cp, HB, HBv, HBr, HBo, HIv, HNl⟩ := hrel
      have hnl := HNL.out
      have hsz0 : w.heap.size + 1 + 1 < wr.heap.size := lt_blk HBo.out
      obtain ⟨d0, d1, d2, d3, d4⟩ := val_cells HBv.out
      by_cases hlt : k < kids.length
      · obtain ⟨g, off, an2, cn2, ak2, ck2, rfl, hSg, hkid, x0, x1, x2, x3, x4⟩ := kid_at HR.out HK.out k hlt
        have hgb := HSb.out g hSg
        have y0 := (HB.out.cell (p := ⟨g, off + k * 5, none⟩) hgb).trans x0
        have y1 := (HB.out.cell (p := ⟨g, off + k * 5 + 1, none⟩) hgb).trans x1
        have y2 := (HB.out.cell (p := ⟨g, off + k * 5 + 2, none⟩) hgb).trans x2
        have y3 := (HB.out.cell (p := ⟨g, off + k * 5 + 3, none⟩) hgb).trans x3
        have y4 := (HB.out.cell (p := ⟨g, off + k * 5 + 4, none⟩) hgb).trans x4
        clear x0 x1 x2 x3 x4
        have HKid := Lib.hid hkid
        clear hkid
        obtain ⟨nm, hnm⟩ : ∃ nm, names.getD k ⟨#[]⟩ = nm := ⟨_, rfl⟩
        have hnm' : names[k]'(by omega) = nm := by rw [← hnm]; simp [show k < names.length by omega]
        obtain ⟨nn, hnn⟩ : ∃ nn, cnames (names.take k) (kids.take k) = nn := ⟨_, rfl⟩
        obtain ⟨ts, hts⟩ : ∃ ts, T.cleans (kids.take k) = ts := ⟨_, rfl⟩
        have hx1 := T.cleans_take kids k hlt
        have hx2 := cnames_take names kids k hlt (by omega)
        have hlt2 := cnames_below (HInc.out.1 rfl) kids k (by omega)
        have hll := cnames_len (names.take k) (kids.take k) (by simp; omega)
        have htl := T.cleans_len (kids.take k)
        rw [hts] at hx1 htl hll
        rw [hnn, hnm'] at hx2
        rw [hnn, hnm'] at hlt2
        rw [hnn] at hll
        rw [hnn, hts] at HBo HIv
        rw [hts] at HNl
        have HX1 := Lib.hid hx1; have HX2 := Lib.hid hx2; have HLt := Lib.hid hlt2; have HL := Lib.hid hll
        have htl' : ts.length ≤ 1099511627 := by simp at htl; omega
        obtain ⟨gn, offn, han, hSn, hcn⟩ := HN.out.at (k := k) (by omega)
        subst han
        rw [hnm] at hcn
        have hgnb := HSb.out gn hSn
        have hkc : kids[k].cnt ≤ T.cnts kids := T.cnts_mem (List.getElem_mem _)
        have hkn : kids[k].cnt ≤ n := by simp only [T.cnt] at hn; omega
        have hkb : kids[k].cnt ≤ 1099511627 := by simp only [T.cnt] at hb; omega
        have HKw := Lib.hid (T.wns_mem HW.out.2 k hlt)
        have HKi := Lib.hid (T.incs_mem HInc.out.2 k hlt)
        have hkI : (k : Int) < (names.length : Int) := by omega
        clear hnm hnm' hnn hts hx1 hx2 hlt2 hll htl hkc hnl
        by_cases h1 : kids[k].kind = 1
        · rw [if_pos h1, List.append_nil] at HX1 HX2
          rw [h1] at y0
          clear h1
          go_wp2
          go_roundg (kids.length - (k + 1))
          case measure => omega
          case rel =>
            have hA := (Below.refl wr.heap.size wr).alloc (Nat.le_refl _) (.cells #[.int .i64 1, .int .i64 kids[k].num, .string kids[k].text, .slice an2 kids[k].names.length cn2, .slice ak2 kids[k].kids.length ck2] 59)
            exact ⟨k + 1, hlt, rfl, by go_num, ao, co, ap, cp, HB.out.trans (hA.mono (by omega)), (hA.block _ (by omega)).trans HBv.out, (hA.block _ (by omega)).trans HBr.out, by rw [HX1.out, HX2.out]; exact ⟨(hA.block _ hsz0).trans HBo.out, IsV.frame (fun b _ hlt' => hA.block b hlt') hA.size HIv.out, HNl.out⟩⟩
        · rw [if_neg h1] at HX1 HX2
          have h1' : (kids[k].kind != 1) = true := by simpa using h1
          go_upto_region 8 with fail
          have hA := (Below.refl wr.heap.size wr).alloc (Nat.le_refl _) (.cells #[.int .i64 kids[k].kind, .int .i64 kids[k].num, .string kids[k].text, .slice an2 kids[k].names.length cn2, .slice ak2 kids[k].kids.length ck2] 59)
          have HBx2 := Lib.hid (blk_new wr (.cells #[.int .i64 kids[k].kind, .int .i64 kids[k].num, .string kids[k].text, .slice an2 kids[k].names.length cn2, .slice ak2 kids[k].kids.length ck2] 59))
          have HBall2 := Lib.hid (HB.out.trans (hA.mono (by omega)))
          have HBv2 := Lib.hid ((hA.block _ (by omega)).trans HBv.out)
          have HBr2 := Lib.hid ((hA.block _ (by omega)).trans HBr.out)
          have HBo2 := Lib.hid ((hA.block _ hsz0).trans HBo.out)
          have HIv2 := Lib.hid (IsV.frame (fun b _ hlt' => hA.block b hlt') hA.size HIv.out)
          have hlw2 : wr.heap.size < (wr.alloc (.cells #[.int .i64 kids[k].kind, .int .i64 kids[k].num, .string kids[k].text, .slice an2 kids[k].names.length cn2, .slice ak2 kids[k].kids.length ck2] 59)).heap.size := by simp
          obtain ⟨w2, hw2⟩ : ∃ w2, wr.alloc (.cells #[.int .i64 kids[k].kind, .int .i64 kids[k].num, .string kids[k].text, .slice an2 kids[k].names.length cn2, .slice ak2 kids[k].kids.length ck2] 59) = w2 := ⟨_, rfl⟩
          rw [hw2] at HBx2 HBall2 HBv2 HBr2 HBo2 HIv2 hlw2 ⊢
          clear hw2 hA d0 d1 d2 d3 d4 y0 y1 y2 y3 y4 HB HBv HBr HBo HIv
          have hlwx : wr.heap.size < w2.heap.size := hlw2
          have hlwo : w.heap.size + 1 + 1 < w2.heap.size := by omega
          have hlw0 : w.heap.size < w2.heap.size := by omega
          have hlwn : gn < w2.heap.size := by omega
          have e3 := cell_blk HBv2.out 3
          simp only [List.getElem?_toArray, List.getElem?_cons_zero, List.getElem?_cons_succ] at e3
          have yn' := (HBall2.out.cell (p := ⟨gn, offn + k, none⟩) hgnb).trans hcn
          have HIH := Lib.hid (fun (w4 : World) (hb4 : Below w2.heap.size w2 w4) => ih kids[k] an2 ak2 cn2 ck2 w4 S hkn hkb HKw.out HKi.out (IsV.frame (Below.fr (HBall2.out.trans (hb4.mono HBall2.out.size)) HSb.out) (HBall2.out.trans (hb4.mono HBall2.out.size)).size HKid.out) (fun b hb => by have := HSb.out b hb; have := hb4.size; omega))
          have hS0 : (fun w' => w'.cell? ⟨w.heap.size + 1 + 1, 0, none⟩ = some (.int .i64 7) ∧ w'.cell? ⟨w.heap.size + 1 + 1, 1, none⟩ = some (.int .i64 0) ∧ w'.cell? ⟨w.heap.size + 1 + 1, 2, none⟩ = some (.string ⟨#[]⟩) ∧ w'.cell? ⟨w.heap.size + 1 + 1, 3, none⟩ = some (.slice ao nn.length co) ∧ w'.cell? ⟨w.heap.size + 1 + 1, 4, none⟩ = some (.slice ap ts.length cp) ∧ w'.cell? ⟨w.heap.size, 3, none⟩ = some (.slice (some ⟨gn, offn, none⟩) names.length cn) ∧ w'.cell? ⟨gn, offn + k, none⟩ = some (.string nm) ∧ w'.cell? ⟨wr.heap.size, 0, none⟩ = some (.int .i64 kids[k].kind) ∧ w'.cell? ⟨wr.heap.size, 1, none⟩ = some (.int .i64 kids[k].num) ∧ w'.cell? ⟨wr.heap.size, 2, none⟩ = some (.string kids[k].text) ∧ w'.cell? ⟨wr.heap.size, 3, none⟩ = some (.slice an2 kids[k].names.length cn2) ∧ w'.cell? ⟨wr.heap.size, 4, none⟩ = some (.slice ak2 kids[k].kids.length ck2)) w2.drew := ⟨cell_blk HBo2.out 0, cell_blk HBo2.out 1, cell_blk HBo2.out 2, cell_blk HBo2.out 3, cell_blk HBo2.out 4, e3, yn', cell_blk HBx2.out 0, cell_blk HBx2.out 1, cell_blk HBx2.out 2, cell_blk HBx2.out 3, cell_blk HBx2.out 4⟩
          refine wp_region_N (fun w' => w'.cell? ⟨w.heap.size + 1 + 1, 0, none⟩ = some (.int .i64 7) ∧ w'.cell? ⟨w.heap.size + 1 + 1, 1, none⟩ = some (.int .i64 0) ∧ w'.cell? ⟨w.heap.size + 1 + 1, 2, none⟩ = some (.string ⟨#[]⟩) ∧ w'.cell? ⟨w.heap.size + 1 + 1, 3, none⟩ = some (.slice ao nn.length co) ∧ w'.cell? ⟨w.heap.size + 1 + 1, 4, none⟩ = some (.slice ap ts.length cp) ∧ w'.cell? ⟨w.heap.size, 3, none⟩ = some (.slice (some ⟨gn, offn, none⟩) names.length cn) ∧ w'.cell? ⟨gn, offn + k, none⟩ = some (.string nm) ∧ w'.cell? ⟨wr.heap.size, 0, none⟩ = some (.int .i64 kids[k].kind) ∧ w'.cell? ⟨wr.heap.size, 1, none⟩ = some (.int .i64 kids[k].num) ∧ w'.cell? ⟨wr.heap.size, 2, none⟩ = some (.string kids[k].text) ∧ w'.cell? ⟨wr.heap.size, 3, none⟩ = some (.slice an2 kids[k].names.length cn2) ∧ w'.cell? ⟨wr.heap.size, 4, none⟩ = some (.slice ak2 kids[k].kids.length ck2)) 9 (by kernel_rfl) ?_
          refine wpAnyN_take (i := 0) (v := ?_) (some 22) rfl rfl (by kernel_rfl) (by kernel_rfl) (by kernel_rfl) (by kernel_rfl) (by decide) (by kernel_rfl) (fun _ _ _ h => h) (Or.inl ⟨by rfl, ?_⟩) hS0 ?_
          rotate_left
          · intro wz hSw; obtain ⟨s1, s2, s3, s4, s5, s6, s7, s8, s9, s10, s11, s12⟩ := hSw; go_simp
            try with_reducible rfl
          simp only [Act.put, List.setIfInBounds_toArray, List.set_cons_zero, List.set_cons_succ]
          refine wpAnyN_pure (i := 1) (v := ?_) (some 23) rfl rfl (by kernel_rfl) (by kernel_rfl) (by kernel_rfl) (by decide) (fun _ _ _ h => h) (Or.inl ⟨by rfl, ?_⟩) (fun _ => hS0) ?_
          rotate_left
          · intro wz _; go_simp
            try with_reducible rfl
          simp only [Act.put, List.setIfInBounds_toArray, List.set_cons_zero, List.set_cons_succ]
          refine wpAnyN_take (i := 2) (v := ?_) (some 24) rfl rfl (by kernel_rfl) (by kernel_rfl) (by kernel_rfl) (by kernel_rfl) (by decide) (by kernel_rfl) (fun _ _ _ h => h) (Or.inl ⟨by rfl, ?_⟩) hS0 ?_
          rotate_left
          · intro wz hSw; obtain ⟨s1, s2, s3, s4, s5, s6, s7, s8, s9, s10, s11, s12⟩ := hSw; go_simp
            try with_reducible rfl
          simp only [Act.put, List.setIfInBounds_toArray, List.set_cons_zero, List.set_cons_succ]
          refine wpAnyN_pure (i := 3) (v := ?_) (some 25) rfl rfl (by kernel_rfl) (by kernel_rfl) (by kernel_rfl) (by decide) (fun _ _ _ h => h) (Or.inl ⟨by rfl, ?_⟩) (fun _ => hS0) ?_
          rotate_left
          · intro wz _; go_simp
            try with_reducible rfl
          simp only [Act.put, List.setIfInBounds_toArray, List.set_cons_zero, List.set_cons_succ]
          refine wpAnyN_pure (i := 4) (v := ?_) (some 26) rfl rfl (by kernel_rfl) (by kernel_rfl) (by kernel_rfl) (by decide) (fun _ _ _ h => h) (Or.inl ⟨by rfl, ?_⟩) (fun _ => hS0) ?_
          rotate_left
          · intro wz _; go_simp
            try with_reducible rfl
          simp only [Act.put, List.setIfInBounds_toArray, List.set_cons_zero, List.set_cons_succ]
          refine wpAnyN_take (i := 5) (v := ?_) (some 27) rfl rfl (by kernel_rfl) (by kernel_rfl) (by kernel_rfl) (by kernel_rfl) (by decide) (by kernel_rfl) (fun _ _ _ h => h) (Or.inl ⟨by rfl, ?_⟩) hS0 ?_
          rotate_left
          · intro wz hSw; obtain ⟨s1, s2, s3, s4, s5, s6, s7, s8, s9, s10, s11, s12⟩ := hSw; go_simp
            try with_reducible rfl
          simp only [Act.put, List.setIfInBounds_toArray, List.set_cons_zero, List.set_cons_succ]
          refine wpAnyN_take (i := 6) (v := ?_) (some 28) rfl rfl (by kernel_rfl) (by kernel_rfl) (by kernel_rfl) (by kernel_rfl) (by decide) (by kernel_rfl) (fun _ _ _ h => h) (Or.inl ⟨by rfl, ?_⟩) hS0 ?_
          rotate_left
          · intro wz hSw; obtain ⟨s1, s2, s3, s4, s5, s6, s7, s8, s9, s10, s11, s12⟩ := hSw; go_simp
            try with_reducible rfl
          simp only [Act.put, List.setIfInBounds_toArray, List.set_cons_zero, List.set_cons_succ]
          refine wpAnyN_one (i := 7) (by kernel_rfl) rfl (fun K hK => ?_)
          go_simp
          go_wp2_with (go_at_call 50; refine (HIH.out w2.drew (Below.refl _ _).drew).mono ?_; rintro e w5 ⟨an5, cn5, ak5, ck5, rfl, hv5, hB5⟩)
          have HB5 := Lib.hid (show Below w2.heap.size w2 w5 from (Below.refl _ _).drew.trans hB5)
          have HV5 := Lib.hid hv5
          clear hv5 hB5
          refine hK.out _ w5 ⟨(HB5.out.cell (p := ⟨w.heap.size + 1 + 1, 0, none⟩) hlwo).trans (cell_blk HBo2.out 0), (HB5.out.cell (p := ⟨w.heap.size + 1 + 1, 1, none⟩) hlwo).trans (cell_blk HBo2.out 1), (HB5.out.cell (p := ⟨w.heap.size + 1 + 1, 2, none⟩) hlwo).trans (cell_blk HBo2.out 2), (HB5.out.cell (p := ⟨w.heap.size + 1 + 1, 3, none⟩) hlwo).trans (cell_blk HBo2.out 3), (HB5.out.cell (p := ⟨w.heap.size + 1 + 1, 4, none⟩) hlwo).trans (cell_blk HBo2.out 4), (HB5.out.cell (p := ⟨w.heap.size, 3, none⟩) hlw0).trans e3, (HB5.out.cell (p := ⟨gn, offn + k, none⟩) hlwn).trans yn', (HB5.out.cell (p := ⟨wr.heap.size, 0, none⟩) hlwx).trans (cell_blk HBx2.out 0), (HB5.out.cell (p := ⟨wr.heap.size, 1, none⟩) hlwx).trans (cell_blk HBx2.out 1), (HB5.out.cell (p := ⟨wr.heap.size, 2, none⟩) hlwx).trans (cell_blk HBx2.out 2), (HB5.out.cell (p := ⟨wr.heap.size, 3, none⟩) hlwx).trans (cell_blk HBx2.out 3), (HB5.out.cell (p := ⟨wr.heap.size, 4, none⟩) hlwx).trans (cell_blk HBx2.out 4)⟩ ?_
          clear hK K
          refine wpAnyN_one (i := 8) (by kernel_rfl) rfl (fun K hK => ?_)
          go_simp
          have hput := l1Put_c nn ts kids[k].clean nm ao ap co cp an5 ak5 cn5 ck5 w5 (fun b => ((S b ∨ w.heap.size ≤ b) ∧ b ≠ w.heap.size + 1 ∧ b ≠ w.heap.size + 1 + 1) ∧ b < w5.heap.size) HL.out (by omega) HLt.out HNl.out
            (IsV.mono (fun b hb hlt' => ⟨hb, hlt'⟩) (IsV.frame (fun b hb hlt' => HB5.out.block b hlt') HB5.out.size HIv2.out))
            (IsV.mono (fun b hb hlt' => ⟨by rcases hb with hb | hb; (· exact ⟨.inl hb, by have := HSb.out b hb; omega, by have := HSb.out b hb; omega⟩); (· have h1 : w2.heap.size ≤ b := hb; exact ⟨.inr (by omega), by omega, by omega⟩), hlt'⟩) HV5.out) (fun b hb => hb.2)
          go_wp2_with (go_at_call 78; refine hput.mono ?_; rintro e w6 ⟨gn6, cn6, gk6, ck6, rfl, hv6, hB6⟩; simp only [List.length_append, List.length_cons, List.length_nil, Nat.zero_add] at hv6)
          have HB6 := Lib.hid (HB5.out.trans (hB6.mono HB5.out.size))
          have HV6 := Lib.hid hv6
          clear hv6 hB6 hput HV5
          refine hK.out _ w6 ⟨(HB6.out.cell (p := ⟨w.heap.size + 1 + 1, 0, none⟩) hlwo).trans (cell_blk HBo2.out 0), (HB6.out.cell (p := ⟨w.heap.size + 1 + 1, 1, none⟩) hlwo).trans (cell_blk HBo2.out 1), (HB6.out.cell (p := ⟨w.heap.size + 1 + 1, 2, none⟩) hlwo).trans (cell_blk HBo2.out 2), (HB6.out.cell (p := ⟨w.heap.size + 1 + 1, 3, none⟩) hlwo).trans (cell_blk HBo2.out 3), (HB6.out.cell (p := ⟨w.heap.size + 1 + 1, 4, none⟩) hlwo).trans (cell_blk HBo2.out 4), (HB6.out.cell (p := ⟨w.heap.size, 3, none⟩) hlw0).trans e3, (HB6.out.cell (p := ⟨gn, offn + k, none⟩) hlwn).trans yn', (HB6.out.cell (p := ⟨wr.heap.size, 0, none⟩) hlwx).trans (cell_blk HBx2.out 0), (HB6.out.cell (p := ⟨wr.heap.size, 1, none⟩) hlwx).trans (cell_blk HBx2.out 1), (HB6.out.cell (p := ⟨wr.heap.size, 2, none⟩) hlwx).trans (cell_blk HBx2.out 2), (HB6.out.cell (p := ⟨wr.heap.size, 3, none⟩) hlwx).trans (cell_blk HBx2.out 3), (HB6.out.cell (p := ⟨wr.heap.size, 4, none⟩) hlwx).trans (cell_blk HBx2.out 4)⟩ ?_
          clear hK K
          have hbo6 : w6.heap[w.heap.size + 1 + 1]? = some (.cells #[.int .i64 7, .int .i64 0, .string ⟨#[]⟩, .slice ao nn.length co, .slice ap ts.length cp] 59 (0, 0)) := (HB6.out.block _ hlwo).trans HBo2.out
          obtain ⟨o0, o1, o2, o3, o4⟩ := val_cells hbo6
          have p0 := fro_blk hbo6 0; have p1 := fro_blk hbo6 1; have p2 := fro_blk hbo6 2; have p3 := fro_blk hbo6 3; have p4 := fro_blk hbo6 4
          refine wpAnyN_late (i := 9) (by kernel_rfl) (by kernel_rfl) rfl (fun K hK => ?_)
          go_simp
          refine hK.out _ (((((w6.setCell ⟨w.heap.size + 1 + 1, 0, none⟩ (.int .i64 7)).setCell ⟨w.heap.size + 1 + 1, 1, none⟩ (.int .i64 0)).setCell ⟨w.heap.size + 1 + 1, 2, none⟩ (.string ⟨#[]⟩)).setCell ⟨w.heap.size + 1 + 1, 3, none⟩ (.slice (some ⟨gn6, 0, none⟩) (nn.length + 1) cn6)).setCell ⟨w.heap.size + 1 + 1, 4, none⟩ (.slice (some ⟨gk6, 0, none⟩) (ts.length + 1) ck6)) ?_
          refine wpAnyN_done (by kernel_rfl) ?_ _
          obtain ⟨HE1, HE2, HE3, HE4, HE5⟩ := clean_end (kc := kids[k].clean) HBall2.out HB6.out rfl hbo6 HV6.out hlw0 hlwo (by have := HB5.out.size; omega) HBv2.out HBr2.out _ rfl
          clear o0 o1 o2 o3 o4 p0 p1 p2 p3 p4 hK K
          go_wp2
          go_roundg (kids.length - (k + 1))
          case measure => omega
          case rel => exact ⟨k + 1, hlt, rfl, by go_num, _, _, _, _, HE1, HE2, HE3, by rw [HX1.out, HX2.out]; simp only [List.length_append, List.length_cons, List.length_nil, Nat.zero_add]; exact ⟨HE4, HE5, Or.inr ⟨gn6, gk6, rfl, rfl⟩⟩⟩
      · obtain rfl : k = kids.length := by omega
        have hbo := HBo.out; have hiv := HIv.out
        rw [List.take_of_length_le (by omega), List.take_of_length_le (by omega)] at hbo hiv
        obtain ⟨o0, o1, o2, o3, o4⟩ := val_cells hbo
        obtain ⟨r0, r1, r2, r3, r4⟩ := val_cells HBr.out
        have q0 := fro_blk HBr.out 0; have q1 := fro_blk HBr.out 1; have q2 := fro_blk HBr.out 2; have q3 := fro_blk HBr.out 3; have q4 := fro_blk HBr.out 4
        have HIe := Lib.hid hiv
        have HBr' := HBr.out
        unfold Hid at HBr'
        clear hbo hiv hnl
        go_wp2
        obtain ⟨v0, v1, v2, v3, v4⟩ := val_cells (show (((((wr.setCell ⟨w.heap.size + 1, 0, none⟩ (.int .i64 7)).setCell ⟨w.heap.size + 1, 1, none⟩ (.int .i64 0)).setCell ⟨w.heap.size + 1, 2, none⟩ (.string ⟨#[]⟩)).setCell ⟨w.heap.size + 1, 3, none⟩ (.slice ao (cnames names kids).length co)).setCell ⟨w.heap.size + 1, 4, none⟩ (.slice ap (T.cleans kids).length cp)).heap[w.heap.size + 1]? = some (.cells #[.int .i64 7, .int .i64 0, .string ⟨#[]⟩, .slice ao (cnames names kids).length co, .slice ap (T.cleans kids).length cp] 59 (0, 0)) by simp [World.setCell, Array.getElem?_modify, HBr'])
        refine bodyPost_ret (v := .agg #[.int .i64 7, .int .i64 0, .string ⟨#[]⟩, .slice ao (cnames names kids).length co, .slice ap (T.cleans kids).length cp]) (by simp [results, Tryz.results50, go_sem, v0, v1, v2, v3, v4]) rfl ⟨_, _, _, _, rfl, ?_, ?_⟩
        · refine IsV.mono (fun b hb _ => hb.1) (IsV.frame (fun b hb _ => ?_) (by simp [World.setCell]) HIe.out)
          have hne := hb.2.1
          rw [Below.heap_setCell _ _ _ _ (by simpa using hne), Below.heap_setCell _ _ _ _ (by simpa using hne), Below.heap_setCell _ _ _ _ (by simpa using hne), Below.heap_setCell _ _ _ _ (by simpa using hne), Below.heap_setCell _ _ _ _ (by simpa using hne)]
        · exact ((((HB.out.setCell (p := ⟨w.heap.size + 1, 0, none⟩) (by simp) _).setCell (p := ⟨w.heap.size + 1, 1, none⟩) (by simp) _).setCell (p := ⟨w.heap.size + 1, 2, none⟩) (by simp) _).setCell (p := ⟨w.heap.size + 1, 3, none⟩) (by simp) _).setCell (p := ⟨w.heap.size + 1, 4, none⟩) (by simp) _
  · have hcl : (T.mk kind num text names kids).clean = .mk kind num text names kids := by rw [T.clean, if_neg h7]
    rw [hcl]
    simp only [T.kind, T.num, T.text, T.names, T.kids]
    have h7' : (kind != 7) = true := by simpa using h7
    have hbr : ((w.alloc (.cells #[.int .i64 kind, .int .i64 num, .string text, .slice an names.length cn, .slice ak kids.length ck] 59)).alloc (.cells #[.int .i64 kind, .int .i64 num, .string text, .slice an names.length cn, .slice ak kids.length ck] 59)).heap[w.heap.size + 1]? = some (.cells #[.int .i64 kind, .int .i64 num, .string text, .slice an names.length cn, .slice ak kids.length ck] 59 (0, 0)) := blkA (by simp)
    have HBr := Lib.hid hbr
    have HA := Lib.hid (((Below.refl w.heap.size w).alloc (Nat.le_refl _) (.cells #[.int .i64 kind, .int .i64 num, .string text, .slice an names.length cn, .slice ak kids.length ck] 59)).alloc (by simp) (.cells #[.int .i64 kind, .int .i64 num, .string text, .slice an names.length cn, .slice ak kids.length ck] 59))
    clear hv hbr hcl
    go_enter Tryz.func50, Tryz.ntmps50
    go_wp2
    obtain ⟨v0, v1, v2, v3, v4⟩ := val_cells HBr.out
    refine bodyPost_ret (v := .agg #[.int .i64 kind, .int .i64 num, .string text, .slice an names.length cn, .slice ak kids.length ck]) (by simp [results, Tryz.results50, go_sem, v0, v1, v2, v3, v4]) rfl ⟨_, _, _, _, rfl, ?_, HA.out⟩
    exact IsV.mono (fun b hb _ => .inl hb) (IsV.frame (fun b hb hlt => HA.out.block b hlt) HA.out.size HV0.out)
end Go.Proofs.YtbldchemgkfdcaaGreatDoor
