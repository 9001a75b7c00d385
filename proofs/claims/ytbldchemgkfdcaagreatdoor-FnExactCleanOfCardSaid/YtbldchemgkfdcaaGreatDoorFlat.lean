/- spec.l1Flat, spec.l1Of: the nodes of a tree behind others. -/
import Derived.Test.YtbldchemgkfdcaaGreatDoorSpecTree
import Derived.Deep.AppendLies
namespace Go.Proofs.YtbldchemgkfdcaaGreatDoor
open Go.RowKit

theorem IsVs.get {w : World} {S : Nat → Prop} : ∀ {ts : List T} {vs : List (List Value)}, IsVs w S ts vs → vs.length = ts.length ∧ ∀ k (h : k < ts.length), ∃ v, vs[k]? = some v ∧ IsV w S ts[k] v
  | [], [], _ => ⟨rfl, fun k h => by simp at h⟩
  | t :: ts, v :: vs, h => by
    have ih := IsVs.get h.2
    refine ⟨by simp [ih.1], fun k hk => ?_⟩
    cases k with
    | zero => exact ⟨v, rfl, h.1⟩
    | succ k => simpa using ih.2 k (by simpa using hk)
  | [], _ :: _, h => h.elim
  | _ :: _, [], h => h.elim
theorem IsVs.five {w : World} {S : Nat → Prop} : ∀ {ts : List T} {vs : List (List Value)}, IsVs w S ts vs → ∀ (k j : Nat) (v : List Value), vs[k]? = some v → j < 5 → vs.flatten[k * 5 + j]? = v[j]?
  | [], [], _ => fun k j v h => by simp at h
  | t :: ts, v :: vs, h => by
    intro k j u hk hj
    obtain ⟨_, _, _, _, hv⟩ := h.1.form
    have hl : v.length = 5 := by rw [hv]; rfl
    cases k with
    | zero =>
      simp only [List.getElem?_cons_zero, Option.some.injEq] at hk
      subst hk
      rw [List.flatten_cons, List.getElem?_append_left (by omega), Nat.zero_mul, Nat.zero_add]
    | succ k =>
      rw [List.flatten_cons, List.getElem?_append_right (by omega), ← IsVs.five h.2 k j u (by simpa using hk) hj]
      congr 1; omega
  | [], _ :: _, h => h.elim
  | _ :: _, [], h => h.elim

/-- element k of the kids -/
theorem kid_at {w : World} {S : Nat → Prop} {ts : List T} {vs : List (List Value)} {a : Option Addr} {c : Nat} (hr : Row w S 5 (.slice a ts.length c) ts.length vs.flatten) (hs : IsVs w S ts vs) (k : Nat) (hk : k < ts.length) :
    ∃ g off an cn ak ck, a = some ⟨g, off, none⟩ ∧ S g ∧ IsV w S ts[k] [.int .i64 ts[k].kind, .int .i64 ts[k].num, .string ts[k].text, .slice an ts[k].names.length cn, .slice ak ts[k].kids.length ck] ∧
      w.cell? ⟨g, off + k * 5, none⟩ = some (.int .i64 ts[k].kind) ∧ w.cell? ⟨g, off + k * 5 + 1, none⟩ = some (.int .i64 ts[k].num) ∧ w.cell? ⟨g, off + k * 5 + 2, none⟩ = some (.string ts[k].text) ∧
      w.cell? ⟨g, off + k * 5 + 3, none⟩ = some (.slice an ts[k].names.length cn) ∧ w.cell? ⟨g, off + k * 5 + 4, none⟩ = some (.slice ak ts[k].kids.length ck) := by
  obtain ⟨v, hv, hkid⟩ := (hs.get).2 k hk
  have h5 := hs.five k
  obtain ⟨an, cn, ak, ck, rfl⟩ := hkid.form
  obtain ⟨hl, a', c', hva, _, _, h3⟩ := hr
  simp only [Value.slice.injEq, true_and] at hva
  obtain ⟨rfl, rfl⟩ := hva
  rcases h3 with h3 | ⟨g, off, ha, hS, hg, hc⟩
  · omega
  · refine ⟨g, off, an, cn, ak, ck, ha, hS, hkid, ?_, ?_, ?_, ?_, ?_⟩
    · have := hc (k * 5 + 0) _ (by rw [h5 0 _ hv (by omega)]; rfl); exact this
    · have := hc (k * 5 + 1) _ (by rw [h5 1 _ hv (by omega)]; rfl); rwa [← Nat.add_assoc] at this
    · have := hc (k * 5 + 2) _ (by rw [h5 2 _ hv (by omega)]; rfl); rwa [← Nat.add_assoc] at this
    · have := hc (k * 5 + 3) _ (by rw [h5 3 _ hv (by omega)]; rfl); rwa [← Nat.add_assoc] at this
    · have := hc (k * 5 + 4) _ (by rw [h5 4 _ hv (by omega)]; rfl); rwa [← Nat.add_assoc] at this

/-- of the blocks ahead of s all are as they were, but the row's own; the new row lies where the old one did, or behind s -/
structure Keeps (s : Nat) (o o' : Option Nat) (w w' : World) : Prop where
  blk : ∀ b, b < s → o ≠ some b → w'.heap[b]? = w.heap[b]?
  row : ∀ b, b < s → o' = some b → o = some b
theorem Keeps.refl (s : Nat) (o : Option Nat) (w : World) : Keeps s o o w w := ⟨fun _ _ _ => rfl, fun _ _ h => h⟩
theorem Keeps.trans {s s' : Nat} {o o' o'' : Option Nat} {w w' w'' : World} (h : Keeps s o o' w w') (h' : Keeps s' o' o'' w' w'') (hs : s ≤ s') : Keeps s o o'' w w'' :=
  ⟨fun b hb hn => (h'.blk b (by omega) (fun e => hn (h.row b hb e))).trans (h.blk b hb hn), fun b hb e => h.row b hb (h'.row b (by omega) e)⟩
theorem Keeps.alloc {s : Nat} {w : World} {o : Option Nat} (x : Obj) (hs : s ≤ w.heap.size) : Keeps s o o w (w.alloc x) := ⟨fun b hb _ => blk_old w x (by omega), fun _ _ h => h⟩

set_option maxRecDepth 100000 in
set_option maxHeartbeats 1000000 in
theorem l1Flat_c (n : Nat) : ∀ (t : T) (an ak : Option Addr) (cn ck : Nat) (w : World) (S : Nat → Prop) (name : ByteArray) (up : Int) (out : Value) (m base : Nat) (cs : List Value), t.cnt ≤ n → m + t.cnt ≤ 1099511627776 → t.wn →
   IsV w S t [.int .i64 t.kind, .int .i64 t.num, .string t.text, .slice an t.names.length cn, .slice ak t.kids.length ck] → (∀ b, S b → b < base) → base ≤ w.heap.size → w.ownsRow base 63 5 out m cs →
    Calls Tryz.prog 65 #[.agg #[.int .i64 t.kind, .int .i64 t.num, .string t.text, .slice an t.names.length cn, .slice ak t.kids.length ck], .string name, .int .i64 up, out] w fun e w' => ∃ out', e = .returned out' ∧ w'.ownsRow base 63 5 out' (m + t.cnt) (cs ++ (t.flat name up m).flatMap N.cells) ∧ Below base w w' ∧ Keeps w.heap.size out.ownBlock out'.ownBlock w w' := by
  induction n with
  | zero => intro t an ak cn ck w S name up out m base cs hn; have := t.cnt_pos; omega
  | succ n ih =>
  rintro ⟨kind, num, text, names, kids⟩ an ak cn ck w S name up out m base cs hn hb hwn hv hSb hbase hown
  simp only [T.kind, T.num, T.text, T.names, T.kids] at hv ⊢
  obtain ⟨sn, sk, vs, heq, hnames, hrow, hkids⟩ := hv
  simp only [List.cons.injEq, true_and, and_true] at heq
  obtain ⟨rfl, rfl⟩ := heq
  obtain ⟨ao, co, rfl⟩ := owns_form hown
  have HO := Lib.hid hown; have HSb := Lib.hid hSb; have HW := Lib.hid hwn
  have HK := Lib.hid hkids; have HN := Lib.hid hnames; have HR := Lib.hid hrow
  clear hkids hnames hown hSb hrow hwn
  obtain ⟨i0, hi, hz0, hz1, hz2⟩ := info_parts info_node
  have hkl : kids.length ≤ 1099511627776 := by have := T.cnts_len kids; simp only [T.cnt] at hb; omega
  have hBx := Lib.hid ((Below.refl w.heap.size w).alloc (Nat.le_refl _) (.cells #[.int .i64 kind, .int .i64 num, .string text, .slice an names.length cn, .slice ak kids.length ck] 59))
  have HBk := Lib.hid (blk_new w (.cells #[.int .i64 kind, .int .i64 num, .string text, .slice an names.length cn, .slice ak kids.length ck] 59))
  go_enter Tryz.func65, Tryz.ntmps65
  go_wp2_with (at_builtin; refine wpList_append_lies _ rfl (.tmp 15) (.tmp 25) 26 rfl base 63 i0 _ 5 56 Tryz.underlying26 hi hz0 hz1 hz2 rfl (by decide) (.slice ao m co) m cs rfl ((HO.out.alloc _).alloc _) ⟨w.heap.size + 1, 0, none⟩ 1 1 (nodeCells kind num text name up) rfl rfl ?c1 (nodeCells_one _ _ _ _ _) (Nat.le_refl 1) ?c3 ?c4 ?c5 (w.heap.size + 1 + 1) ?c6 ?_)
  case c1 => intro j u hu; exact cells_new' (by simp) hu
  case c3 => unfold maxLen; omega
  case c4 => omega
  case c5 => simp; omega
  case c6 => simp
  intro g1 q1 w1 hown1 hgr1 hlies1 hlt1
  have hbx : w1.heap[w.heap.size]? = some (.cells #[.int .i64 kind, .int .i64 num, .string text, .slice an names.length cn, .slice ak kids.length ck] 59) := by
    rw [hgr1.block w.heap.size (by simp; omega) (fun e => by have := (HO.out.lt _ e.symm).2; omega), blk_old _ _ (by simp)]; exact HBk.out
  have hB1 : Below base w w1 := (((Below.refl base w).alloc hbase _).alloc (by simp; omega) _).grown hgr1 (by simp; omega) (fun k hk => (HO.out.lt k hk).1)
  have hz1' : w.heap.size < w1.heap.size := by have := hgr1.size; simp at this; omega
  have hk1 : Keeps (w.heap.size + 1) (Value.slice ao m co).ownBlock (some g1) (w.alloc (.cells #[.int .i64 kind, .int .i64 num, .string text, .slice an names.length cn, .slice ak kids.length ck] 59)) w1 := by
    refine ⟨fun b hb hn => ?_, fun b hb e => ?_⟩
    · rw [hgr1.block b (by simp; omega) (fun e => hn e.symm), blk_old _ _ (by simp; omega)]
    · simp only [Option.some.injEq] at e
      subst e
      rcases hlies1 with h | h
      · exact h
      · omega
  have HK1 := Lib.hid hk1
  clear hk1 hlies1
  have HO1 := Lib.hid hown1; have HB1 := Lib.hid hB1; have HBx := Lib.hid hbx
  obtain ⟨d0, d1, d2, d3, d4⟩ := val_cells hbx
  clear hown1 hgr1 hB1 hbx
  go_wp2
  go_loopg [3, 30] kids.length (fun gh out i wr => ∃ k : Nat, k ≤ kids.length ∧ gh = kids.length - k ∧ i = .int .i64 k ∧ ∃ a q, out = .slice a (m + 1 + T.cnts (kids.take k)) q ∧
    Hid (wr.ownsRow base 63 5 (.slice a (m + 1 + T.cnts (kids.take k)) q) (m + 1 + T.cnts (kids.take k)) (cs ++ nodeCells kind num text name up ++ (T.flats kind names (kids.take k) 0 m (m + 1)).flatMap N.cells)) ∧ Hid (Below base w1 wr) ∧ Hid (Keeps (w.heap.size + 1) (Value.slice ao m co).ownBlock (Value.slice a (m + 1 + T.cnts (kids.take k)) q).ownBlock (w.alloc (.cells #[.int .i64 kind, .int .i64 num, .string text, .slice an names.length cn, .slice ak kids.length ck] 59)) wr))
  case atStart => exact ⟨0, Nat.zero_le _, by simp, rfl, some ⟨g1, 0, none⟩, q1, by simp [T.cnts], by simpa [T.cnts, T.flats] using HO1, Below.refl _ _, HK1⟩
  case round =>
    obtain ⟨k, hk, rfl, rfl, a, q, rfl, HOk, HBr, HKp⟩ := hrel
    have HBk' := Lib.hid ((HKp.out.blk w.heap.size (by omega) (fun e => by have := (HO.out.lt _ e).2; omega)).trans HBk.out)
    clear d0 d1 d2 d3 d4 HO1
    obtain ⟨d0, d1, d2, d3, d4⟩ := val_cells HBk'.out
    have hsz := HBr.out.size
    have HBall := Lib.hid (HB1.out.trans HBr.out)
    by_cases hlt : k < kids.length
    · obtain ⟨g, off, an2, cn2, ak2, ck2, rfl, hSg, hkid, x0, x1, x2, x3, x4⟩ := kid_at HR.out HK.out k hlt
      have hgb := HSb.out g hSg
      have y0 := (HBall.out.cell (p := ⟨g, off + k * 5, none⟩) hgb).trans x0
      have y1 := (HBall.out.cell (p := ⟨g, off + k * 5 + 1, none⟩) hgb).trans x1
      have y2 := (HBall.out.cell (p := ⟨g, off + k * 5 + 2, none⟩) hgb).trans x2
      have y3 := (HBall.out.cell (p := ⟨g, off + k * 5 + 3, none⟩) hgb).trans x3
      have y4 := (HBall.out.cell (p := ⟨g, off + k * 5 + 4, none⟩) hgb).trans x4
      clear x0 x1 x2 x3 x4
      have HKid := Lib.hid hkid
      clear hkid
      have hm := T.cnts_take_le kids k
      have hm1 := T.cnts_take_succ kids k hlt
      have hm2 := T.cnts_take_le kids (k + 1)
      have hkc : kids[k].cnt ≤ T.cnts kids := T.cnts_mem (List.getElem_mem _)
      have HM := Lib.hid hm1
      have hkn : kids[k].cnt ≤ n := by simp only [T.cnt] at hn; omega
      have hkb : m + 1 + T.cnts (kids.take k) + kids[k].cnt ≤ 1099511627776 := by simp only [T.cnt] at hb; omega
      have HKw := Lib.hid (T.wns_mem HW.out.2 k hlt)
      have hwz : base ≤ wr.heap.size := by omega
      clear hm1 hm hm2 hkc
      have hih := fun (nm : ByteArray) (w2 : World) (h2 : Below wr.heap.size wr w2) => ih kids[k] an2 ak2 cn2 ck2 w2 S nm m (.slice a (m + 1 + T.cnts (kids.take k)) q) (m + 1 + T.cnts (kids.take k)) base _ hkn hkb HKw.out (IsV.frame (Below.fr (HBall.out.trans (h2.mono hwz)) HSb.out) (HBall.out.trans (h2.mono hwz)).size HKid.out) HSb.out (Nat.le_trans hwz h2.size) (owns_call HOk.out h2)
      have HIH := Lib.hid hih
      have hbz : w.heap.size < wr.heap.size := by omega
      clear hih
      by_cases h7 : kind = 7
      · obtain ⟨gn, offn, han, hSn, hcn⟩ := HN.out.at (k := k) (by rw [HW.out.1.1 h7]; exact hlt)
        have hgnb := HSb.out gn hSn
        subst han
        have e3 := (HBall.out.cell (p := ⟨gn, offn + k, none⟩) hgnb).trans hcn
        have hgnr : gn < wr.heap.size := by omega
        clear hcn
        have hnl : (k : Int) < (names.length : Int) := by rw [HW.out.1.1 h7]; omega
        subst h7
        go_wp2_with (go_at_call 65; refine (HIH.out _ _ ((Below.refl _ _).alloc (Nat.le_refl _) _)).mono ?_; rintro e w2 ⟨out', rfl, hown2, hB2, hK2⟩)
        obtain ⟨a2, q2, rfl⟩ := owns_form hown2
        go_roundg (kids.length - (k + 1))
        case measure => omega
        case rel =>
          exact ⟨k + 1, hlt, rfl, by go_num, a2, q2, by rw [HM.out]; simp; omega, by
            rw [HM.out, T.flats_take _ _ _ _ _ _ _ hlt, List.flatMap_append, ← List.append_assoc, Nat.zero_add, ← Nat.add_assoc]; exact hown2, HBr.out.trans (((Below.refl base wr).alloc hwz _).trans hB2), by
              have h := HKp.out.trans ((Keeps.alloc _ (Nat.le_refl _)).trans hK2 (by simp)) (by omega)
              rw [ownBlock_slice a2 _ q2 0 0] at h
              unfold Hid
              rw [ownBlock_slice a2 _ q2 0 0]
              exact h⟩
      · have h7' : (kind == 7) = false := by simpa using h7
        go_wp2_with (go_at_call 65; refine (HIH.out _ _ ((Below.refl _ _).alloc (Nat.le_refl _) _)).mono ?_; rintro e w2 ⟨out', rfl, hown2, hB2, hK2⟩)
        obtain ⟨a2, q2, rfl⟩ := owns_form hown2
        go_roundg (kids.length - (k + 1))
        case measure => omega
        case rel =>
          exact ⟨k + 1, hlt, rfl, by go_num, a2, q2, by rw [HM.out]; simp; omega, by
            rw [HM.out, T.flats_take _ _ _ _ _ _ _ hlt, List.flatMap_append, ← List.append_assoc, Nat.zero_add, ← Nat.add_assoc, kname, if_neg h7]; exact hown2, HBr.out.trans (((Below.refl base wr).alloc hwz _).trans hB2), by
              have h := HKp.out.trans ((Keeps.alloc _ (Nat.le_refl _)).trans hK2 (by simp)) (by omega)
              rw [ownBlock_slice a2 _ q2 0 0] at h
              unfold Hid
              rw [ownBlock_slice a2 _ q2 0 0]
              exact h⟩
    · have : k = kids.length := by omega
      subst this
      go_wp2
      go_ret
      refine ⟨.slice a (m + 1 + T.cnts (kids.take kids.length)) q, rfl, ?_, HBall.out, (Keeps.alloc _ (Nat.le_refl _)).trans HKp.out (by omega)⟩
      have h := HOk.out
      rw [List.take_length] at h ⊢
      simp only [T.cnt, T.flat, List.flatMap_cons]
      rw [show m + (T.cnts kids + 1) = m + 1 + T.cnts kids by omega, ← List.append_assoc]
      exact h

theorem l1Of_c (t : T) (an ak : Option Addr) (cn ck : Nat) (w : World) (S : Nat → Prop) (hwn : t.wn) (hc : t.cnt ≤ 1099511627776)
    (hv : IsV w S t [.int .i64 t.kind, .int .i64 t.num, .string t.text, .slice an t.names.length cn, .slice ak t.kids.length ck]) (hS : ∀ b, S b → b < w.heap.size) :
    Calls Tryz.prog 34 #[.agg #[.int .i64 t.kind, .int .i64 t.num, .string t.text, .slice an t.names.length cn, .slice ak t.kids.length ck]] w fun e w' => ∃ sv, e = .returned (.agg #[sv]) ∧ Made w' w.heap.size sv (t.flat ⟨#[]⟩ (-1) 0) ∧ Below w.heap.size w w' := by
  have HB0 := Lib.hid (((Below.refl w.heap.size w).alloc (Nat.le_refl _) (.cells #[.int .i64 t.kind, .int .i64 t.num, .string t.text, .slice an t.names.length cn, .slice ak t.kids.length ck] 59)).alloc (by simp) (.cells #[.slice none 0 0] 28))
  have HF := Lib.hid (l1Flat_c _ t an ak cn ck ((w.alloc (.cells #[.int .i64 t.kind, .int .i64 t.num, .string t.text, .slice an t.names.length cn, .slice ak t.kids.length ck] 59)).alloc (.cells #[.slice none 0 0] 28)) S ⟨#[]⟩ (-1) (.slice none 0 0) 0 (w.heap.size + 1 + 1) [] (Nat.le_refl _) (by omega) hwn (IsV.frame (Below.fr HB0.out hS) HB0.out.size hv) (fun b hb => by have := hS b hb; omega) (by simp) (World.ownsRow_nil _ _ _ _))
  clear hv hS hwn
  go_enter Tryz.func34, Tryz.ntmps34
  go_wp2_with (go_at_call 65; go_must (refine HF.out.mono ?_; rintro e w1 ⟨sv, rfl, ho, hI, _⟩); rw [Nat.zero_add, List.nil_append] at ho; have hbk : w1.heap[w.heap.size + 1]? = some (.cells #[.slice none 0 0] 28) := (hI.block (w.heap.size + 1) (by omega)).trans (by have := blk_new (w.alloc (.cells #[.int .i64 t.kind, .int .i64 t.num, .string t.text, .slice an t.names.length cn, .slice ak t.kids.length ck] 59)) (.cells #[.slice none 0 0] 28); simpa using this); obtain ⟨a1, q1, rfl⟩ := owns_form ho; have k0 : w1.cell? ⟨w.heap.size + 1, 0, none⟩ = some (.slice none 0 0) := cell_blk hbk 0; have f0 := fro_blk hbk 0; have HO := Lib.hid ho; have HI := Lib.hid hI; have HBk := Lib.hid hbk; clear ho hI hbk)
  have k1 := World.cell?_setCell_same w1 ⟨w.heap.size + 1, 0, none⟩ (.slice a1 t.cnt q1) k0
  refine bodyPost_ret (v := .agg #[.slice a1 t.cnt q1]) (by simp [results, Tryz.results34, go_sem, k1]) rfl ⟨_, rfl, ?_, ?_⟩
  · show World.ownsRow _ _ _ _ _ _ _
    rw [T.flat_len]
    exact owns_base (ownsRow_setCell_below HO.out (by simp) _) (by omega)
  · exact (HB0.out.trans (HI.out.mono (by omega))).setCell (p := ⟨w.heap.size + 1, 0, none⟩) (by simp) _
end Go.Proofs.YtbldchemgkfdcaaGreatDoor
