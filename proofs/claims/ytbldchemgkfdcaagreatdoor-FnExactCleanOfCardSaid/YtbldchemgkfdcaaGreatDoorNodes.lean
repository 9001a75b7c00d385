/- impl.val.nodes: the nodes of a tree behind others. -/
import Derived.Test.YtbldchemgkfdcaaGreatDoorBase
namespace Go.Proofs.YtbldchemgkfdcaaGreatDoor
open Go.RowKit

def nodeCells (kind num : Int) (text name : ByteArray) (up : Int) : List Value := [.int .i64 kind, .int .i64 num, .string text, .string name, .int .i64 up]
theorem nodeCells_one (kind num : Int) (text name : ByteArray) (up : Int) : ∀ u ∈ nodeCells kind num text name up, u.oneCell' = true := by
  intro u hu
  simp only [nodeCells, List.mem_cons, List.not_mem_nil, or_false] at hu
  rcases hu with rfl | rfl | rfl | rfl | rfl <;> rfl

theorem info_node : (Tryz.prog.info? 63).map (fun i => (i.zero, i.size, i.bytes)) = some (some (.agg #[(.int .i64 0), (.int .i64 0), (.string ⟨#[]⟩), (.string ⟨#[]⟩), (.int .i64 0)]), 5, 56) := by kernel_rfl

set_option maxRecDepth 100000 in
set_option maxHeartbeats 1000000 in
theorem nodes_c (n : Nat) : ∀ (t : T) (v : Value) (w : World) (S : Nat → Prop) (name : ByteArray) (up : Int) (out : Value) (m base : Nat) (cs : List Value), t.cnt ≤ n → m + t.cnt ≤ 1099511627776 → t.wn →
   IsVal w S t v → (∀ b, S b → b < base) → base ≤ w.heap.size → w.ownsRow base 63 5 out m cs →
    Calls Tryz.prog 70 #[v, out, .string name, .int .i64 up] w fun e w' => ∃ out', e = .returned out' ∧ w'.ownsRow base 63 5 out' (m + t.cnt) (cs ++ (t.flat name up m).flatMap N.cells) ∧ Below base w w' := by
  induction n with
  | zero => intro t v w S name up out m base cs hn; have := t.cnt_pos; omega
  | succ n ih =>
  rintro ⟨kind, num, text, names, kids⟩ v w S name up out m base cs hn hb hwn hv hSb hbase hown
  have HV := Lib.hid hv
  obtain ⟨b, sn, sk, vs, rfl, hS, hblk, hnames, hrow, hkids⟩ := hv
  have hbb := hSb _ hS
  have c0 := cell_blk hblk 0
  have c1 := cell_blk hblk 1
  have c2 := cell_blk hblk 2
  have c3 := cell_blk hblk 3
  have c4 := cell_blk hblk 4
  simp only [List.getElem?_toArray, List.getElem?_cons_zero, List.getElem?_cons_succ] at c0 c1 c2 c3 c4
  obtain ⟨an, cn, rfl⟩ := Row.form hnames
  obtain ⟨ao, co, rfl⟩ := owns_form hown
  obtain ⟨ak, ck, rfl⟩ := hrow.form
  have HO := Lib.hid hown; have HSb := Lib.hid hSb; have HW := Lib.hid hwn
  have HBk := Lib.hid hblk; have HK := Lib.hid hkids; have HN := Lib.hid hnames; have HR := Lib.hid hrow
  clear hblk hkids hnames hown hSb hrow hwn
  obtain ⟨i0, hi, hz0, hz1, hz2⟩ := info_parts info_node
  have hkl : kids.length ≤ 1099511627776 := by have := T.cnts_len kids; simp only [T.cnt] at hb; omega
  go_enter Tryz.func70, Tryz.ntmps70
  go_wp2
  go_region_held3 (fun w' => w'.cell? ⟨b, 0, none⟩ = some (.int .i64 kind) ∧ w'.cell? ⟨b, 1, none⟩ = some (.int .i64 num) ∧ w'.cell? ⟨b, 2, none⟩ = some (.string text))
    (first | go_keep | exact ⟨(hB1.cell (p := ⟨b, 0, none⟩) hbb).trans c0, (hB1.cell (p := ⟨b, 1, none⟩) hbb).trans c1, (hB1.cell (p := ⟨b, 2, none⟩) hbb).trans c2⟩)
    ((refine step_append_own rfl (.tmp 15) (.tmp 31) 26 rfl base 63 i0 _ 5 56 Tryz.underlying26 hi hz0 hz1 hz2 rfl (by decide) (.slice ao m co) m cs rfl (by exact HO.out.alloc _) ⟨w.heap.size, 0, none⟩ 1 1 (nodeCells kind num text name up) rfl rfl (by intro j u hu; exact cells_new hu) (nodeCells_one _ _ _ _ _) (by unfold maxLen; omega) (by omega) (by simp; omega) ?_; intro v1 w1 hown1 hgr1; have hB1 : Below base w w1 := ((Below.refl base w).alloc hbase _).drew.grown hgr1 (by simp; omega) (fun k hk => (HO.out.lt k hk).1)))
  obtain ⟨a1, q1, rfl⟩ := owns_form hown1
  have hz1 : base ≤ w1.heap.size := by have := hB1.size; omega
  have HO1 := Lib.hid hown1; have HB1 := Lib.hid hB1
  obtain ⟨hc1, hf1⟩ := bcell hB1
  clear hown1 hgr1 hB1 hf1
  go_wp2
  go_loopg [1, 38] kids.length (fun gh out i wr => ∃ k : Nat, k ≤ kids.length ∧ gh = kids.length - k ∧ i = .int .i64 k ∧ ∃ a q, out = .slice a (m + 1 + T.cnts (kids.take k)) q ∧
    Hid (wr.ownsRow base 63 5 (.slice a (m + 1 + T.cnts (kids.take k)) q) (m + 1 + T.cnts (kids.take k)) (cs ++ nodeCells kind num text name up ++ (T.flats kind names (kids.take k) 0 m (m + 1)).flatMap N.cells)) ∧ Hid (Below base w wr))
  case atStart => exact ⟨0, Nat.zero_le _, by simp, rfl, a1, q1, by simp [T.cnts], by simpa [T.cnts, T.flats] using HO1, HB1⟩
  case round =>
    obtain ⟨k, hk, rfl, rfl, a, q, rfl, HOk, HBr⟩ := hrel
    obtain ⟨hcr, hfr⟩ := bcell HBr.out
    clear hc1 HO1 HB1 hfr
    have hsz := HBr.out.size
    by_cases hlt : k < kids.length
    · obtain ⟨g, off, u, hak, hSg, hg, hu, hcell⟩ := HR.out.at1 hlt
      subst hak
      have hgb := HSb.out g hSg
      obtain ⟨v, hv1, hkid⟩ := (HK.out.get).2 k hlt
      obtain rfl : u = v := Option.some.inj (hu.symm.trans hv1)
      have HKid := Lib.hid hkid
      clear hu hv1 hkid
      have hm := T.cnts_take_le kids k
      have hm1 := T.cnts_take_succ kids k hlt
      have hm2 := T.cnts_take_le kids (k + 1)
      have hkc : kids[k].cnt ≤ T.cnts kids := T.cnts_mem (List.getElem_mem _)
      have HM := Lib.hid hm1
      have hkn : kids[k].cnt ≤ n := by simp only [T.cnt] at hn; omega
      have hkb : m + 1 + T.cnts (kids.take k) + kids[k].cnt ≤ 1099511627776 := by simp only [T.cnt] at hb; omega
      have hkw := T.wns_mem HW.out.2 k hlt
      have HKw := Lib.hid hkw
      have hwz : base ≤ wr.heap.size := by omega
      clear hm1 hkw hm hm2 hkc
      by_cases h7 : kind = 7
      · obtain ⟨gn, offn, han, hSn, hcn⟩ := HN.out.at (k := k) (by rw [HW.out.1.1 h7]; exact hlt)
        have hgnb := HSb.out gn hSn
        subst han
        have hnl : (k : Int) < (names.length : Int) := by rw [HW.out.1.1 h7]; omega
        subst h7
        go_wp2_with (go_at_call 70; refine (ih kids[k] u wr S _ _ _ _ base _ hkn hkb HKw.out (IsVal.frame (Below.fr HBr.out HSb.out) hsz HKid.out) HSb.out hwz HOk.out).mono ?_; rintro e w2 ⟨out', rfl, hown2, hB2⟩)
        obtain ⟨a2, q2, rfl⟩ := owns_form hown2
        go_roundg (kids.length - (k + 1))
        case measure => omega
        case rel => exact ⟨k + 1, hlt, rfl, by go_num, a2, q2, by rw [HM.out]; simp; omega, by
            rw [HM.out, T.flats_take _ _ _ _ _ _ _ hlt, List.flatMap_append, ← List.append_assoc, Nat.zero_add, ← Nat.add_assoc]; exact hown2, HBr.out.trans hB2⟩
      · have h7' : (kind == 7) = false := by simpa using h7
        go_wp2_with (go_at_call 70; refine (ih kids[k] u wr S _ _ _ _ base _ hkn hkb HKw.out (IsVal.frame (Below.fr HBr.out HSb.out) hsz HKid.out) HSb.out hwz HOk.out).mono ?_; rintro e w2 ⟨out', rfl, hown2, hB2⟩)
        obtain ⟨a2, q2, rfl⟩ := owns_form hown2
        go_roundg (kids.length - (k + 1))
        case measure => omega
        case rel => exact ⟨k + 1, hlt, rfl, by go_num, a2, q2, by rw [HM.out]; simp; omega, by
            rw [HM.out, T.flats_take _ _ _ _ _ _ _ hlt, List.flatMap_append, ← List.append_assoc, Nat.zero_add, ← Nat.add_assoc, kname, if_neg h7]; exact hown2, HBr.out.trans hB2⟩
    · have : k = kids.length := by omega
      subst this
      go_wp2
      go_ret
      refine ⟨.slice a (m + 1 + T.cnts (kids.take kids.length)) q, rfl, ?_, HBr.out⟩
      have h := HOk.out
      rw [List.take_length] at h ⊢
      simp only [T.cnt, T.flat, List.flatMap_cons]
      rw [show m + (T.cnts kids + 1) = m + 1 + T.cnts kids by omega, ← List.append_assoc]
      exact h
end Go.Proofs.YtbldchemgkfdcaaGreatDoor
