/- impl.val.paths. -/
import Derived.Test.YtbldchemgkfdcaaGreatDoorPathP
import Derived.Test.YtbldchemgkfdcaaGreatDoorValue
namespace Go.Proofs.YtbldchemgkfdcaaGreatDoor
open Go.RowKit

set_option maxRecDepth 100000 in
set_option maxHeartbeats 2000000 in
theorem paths_c (n : Nat) : ∀ (t : T) (v : Value) (w : World) (S : Nat → Prop) (p : ByteArray) (out : Value) (m base : Nat) (cs : List Value), t.cnt ≤ n → m + t.cnt ≤ 1099511627 → p.size + 60 * t.cnt ≤ 1099511627776 → t.wn → t.bounded = true →
   IsVal w S t v → (∀ b, S b → b < base) → base ≤ w.heap.size → Tb base w → w.ownsRow base 9 1 out m cs →
    Calls Tryz.prog 46 #[v, out, .string p] w fun e w' => ∃ out', e = .returned out' ∧ w'.ownsRow base 9 1 out' (m + t.cnt) (cs ++ (t.paths p.data.toList).map strv) ∧ Below base w w' := by
  induction n with
  | zero => intro t v w S p out m base cs hn; have := t.cnt_pos; omega
  | succ n ih =>
  rintro ⟨kind, num, text, names, kids⟩ v w S p out m base cs hn hb hp hwn hbd hv hSb hbase htb hown
  simp only [T.bounded, Bool.and_eq_true] at hbd
  obtain ⟨⟨⟨hb1, hb2⟩, hb3⟩, hb4⟩ := hbd
  obtain ⟨b, sn, sk, vs, rfl, hS, hblk, hnames, hrow, hkids⟩ := hv
  have hbb := hSb _ hS
  have c0 := cell_blk hblk 0
  have c3 := cell_blk hblk 3
  have c4 := cell_blk hblk 4
  simp only [List.getElem?_toArray, List.getElem?_cons_zero, List.getElem?_cons_succ] at c0 c3 c4
  obtain ⟨an, cn, rfl⟩ := Row.form hnames
  obtain ⟨ao, co, rfl⟩ := owns_form hown
  obtain ⟨ak, ck, rfl⟩ := hrow.form
  have HO := Lib.hid hown; have HSb := Lib.hid hSb; have HW := Lib.hid hwn; have HTb := Lib.hid htb; have H3 := Lib.hid hb3; have H4 := Lib.hid hb4
  have HBk := Lib.hid hblk; have HK := Lib.hid hkids; have HN := Lib.hid hnames; have HR := Lib.hid hrow
  clear hblk hkids hnames hown hSb hrow hwn htb hb1 hb2 hb3 hb4
  obtain ⟨i0, hi, hz0, hz1, hz2⟩ := info_parts infoStr
  have hkl : kids.length ≤ 1099511627 := by have := T.cnts_len kids; simp only [T.cnt] at hb; omega
  go_enter Tryz.func46, Tryz.ntmps46
  go_wp2_with (at_builtin; go_loud (refine wpList_append_own _ rfl _ _ 35 rfl base 9 i0 (.string ⟨#[]⟩) 1 16 Tryz.underlying35 hi hz0 hz1 hz2 rfl (by decide) _ _ _ rfl (HO.out.alloc _) ⟨w.heap.size, 0, none⟩ 1 1 [.string p] rfl rfl (by intro j u hj; exact cells_new' rfl hj) (by intro u hu; simp at hu; subst hu; rfl) (by unfold maxLen; omega) (by omega) (by simp; omega) ?_))
  intro v1 w1 hown1 hgr1 _
  have hB1 : Below base w w1 := ((Below.refl base w).alloc hbase _).grown hgr1 (by simp; omega) (fun k hk => (HO.out.lt k hk).1)
  obtain ⟨a1, q1, rfl⟩ := owns_form hown1
  have hz1' : base ≤ w1.heap.size := by have := hB1.size; omega
  have HO1 := Lib.hid hown1; have HB1 := Lib.hid hB1
  have d4 := (hB1.cell (p := ⟨b, 4, none⟩) hbb).trans c4
  clear hown1 hgr1 hB1
  go_wp2
  go_loopg [1, 19] kids.length (fun gh out i wr => ∃ k : Nat, k ≤ kids.length ∧ gh = kids.length - k ∧ i = .int .i64 k ∧ ∃ a q, out = .slice a (m + 1 + T.cnts (kids.take k)) q ∧
    Hid (wr.ownsRow base 9 1 (.slice a (m + 1 + T.cnts (kids.take k)) q) (m + 1 + T.cnts (kids.take k)) (cs ++ .string p :: (T.pathss kind names (kids.take k) 0 p.data.toList).map strv)) ∧ Hid (Below base w wr))
  case atStart => exact ⟨0, Nat.zero_le _, by simp, rfl, a1, q1, by simp [T.cnts], by simpa [T.cnts, T.pathss] using HO1, HB1⟩
  case round =>
    obtain ⟨k, hk, rfl, rfl, a, q, rfl, HOk, HBr⟩ := hrel
    have hsz := HBr.out.size
    clear HO1 HB1 d4
    by_cases hlt : k < kids.length
    · obtain ⟨g, off, u, hak, hSg, hg, hu, hcell⟩ := HR.out.at1 hlt
      subst hak
      have hgb := HSb.out g hSg
      obtain ⟨v, hv1, hkid⟩ := (HK.out.get).2 k hlt
      obtain rfl : u = v := Option.some.inj (hu.symm.trans hv1)
      have HKid := Lib.hid hkid
      clear hu hv1 hkid
      have hm := T.cnts_take_le kids k
      have hm1 := T.cnts_take_succ kids k hlt
      have hm2 := T.cnts_take_le kids (k + 1)
      have hkc : kids[k].cnt ≤ T.cnts kids := T.cnts_mem (List.getElem_mem _)
      have HM := Lib.hid hm1
      have hkn : kids[k].cnt ≤ n := by simp only [T.cnt] at hn; omega
      have hkb : m + 1 + T.cnts (kids.take k) + kids[k].cnt ≤ 1099511627 := by simp only [T.cnt] at hb; omega
      have hkp : p.size + 60 + 60 * kids[k].cnt ≤ 1099511627776 := by simp only [T.cnt] at hp; omega
      have HKw := Lib.hid (T.wns_mem HW.out.2 k hlt)
      have HKb := Lib.hid (T.boundeds_get H4.out k hlt)
      have HX := Lib.hid (T.pathss_take kind names kids 0 k p.data.toList hlt)
      have hwz : base ≤ wr.heap.size := by omega
      have y := (HBr.out.cell (p := ⟨g, off + k, none⟩) hgb).trans hcell
      have e0 := (HBr.out.cell (p := ⟨b, 0, none⟩) hbb).trans c0
      have HIt := Lib.hid (itoa_c (k : Int) (by omega) (by omega) wr base (HTb.out.on HBr.out))
      obtain ⟨x, hx⟩ : ∃ x : ByteArray, x = ⟨(Lib.itoa (k : Int)).toArray⟩ := ⟨_, rfl⟩
      rw [← hx] at HIt
      have hxs : x.size ≤ 48 := by rw [hx]; show (Lib.itoa (k : Int)).length ≤ 48; have := Lib.itoa_length_le (k : Int) (by omega) (by omega); omega
      have hxd : x.data.toList = Lib.decDigits k := by rw [hx]; exact Lib.itoa_nonneg k
      have HXd := Lib.hid hxd
      clear hm1 hm hm2 hkc hx hxd
      by_cases h7 : kind = 7
      · obtain ⟨gn, offn, han, hSn, hcn⟩ := HN.out.at (k := k) (by rw [HW.out.1.1 h7]; exact hlt)
        have hgnb := HSb.out gn hSn
        subst han
        have hnl : (k : Int) < (names.length : Int) := by rw [HW.out.1.1 h7]; omega
        have hns : (names.getD k ⟨#[]⟩).size ≤ 24 := by have := kname_size H3.out 7 k; simpa [kname] using this
        have yn := (HBr.out.cell (p := ⟨gn, offn + k, none⟩) hgnb).trans hcn
        obtain ⟨nm, hnm⟩ : ∃ nm, nm = names.getD k ⟨#[]⟩ := ⟨_, rfl⟩
        rw [← hnm] at yn hns
        have HE := Lib.hid (fun w => escaped_c nm w (by omega))
        obtain ⟨z, hz⟩ : ∃ z : ByteArray, z = ⟨⟨escP nm⟩⟩ := ⟨_, rfl⟩
        rw [← hz] at HE
        have hzs : z.size ≤ 48 := by rw [hz]; show (escP nm).length ≤ 48; have := escP_len nm; omega
        have HP : Hid ((p ++ ⟨#[47]⟩ ++ z).data.toList = p.data.toList ++ 47 :: pname kind names (0 + k)) := by
          unfold Hid pname; rw [if_pos h7, Nat.zero_add, ← hnm, hz]; simp
        clear hz hnm
        subst h7
        go_wp2_with fail
        refine HIt.out.mono ?_
        rintro e w2 ⟨rfl, hI⟩
        have HX2 := Lib.hid (HBr.out.trans (hI.mono hwz))
        have HO2 := Lib.hid (owns_call HOk.out hI)
        have e2 := (hI.cell (p := ⟨b, 0, none⟩) (by simp; omega)).trans e0
        have e3 := (HX2.out.cell (p := ⟨b, 3, none⟩) hbb).trans c3
        have yn2 := (hI.cell (p := ⟨gn, offn + k, none⟩) (by simp; omega)).trans yn
        have hz2' : base ≤ w2.heap.size := by have := hI.size; omega
        clear hI
        go_wp2_with fail
        refine (HE.out _).mono ?_
        rintro e w3 ⟨rfl, hI⟩
        have HX3 := Lib.hid (HX2.out.trans (hI.mono hz2'))
        have HO3 := Lib.hid (owns_call HO2.out hI)
        have hz3' : base ≤ w3.heap.size := by have := hI.size; omega
        clear hI
        go_wp2_with fail
        refine (ih kids[k] u w3 S _ _ _ base _ hkn hkb (by simp [ByteArray.size_append]; have : (⟨#[47]⟩ : ByteArray).size = 1 := rfl; omega) HKw.out HKb.out (IsVal.frame (Below.fr HX3.out HSb.out) HX3.out.size HKid.out) HSb.out hz3' (HTb.out.on HX3.out) HO3.out).mono ?_
        rintro e w4 ⟨out', rfl, hown2, hB2⟩
        obtain ⟨a2, q2, rfl⟩ := owns_form hown2
        have HO4 := Lib.hid hown2
        clear hown2
        go_wp2
        go_roundg (kids.length - (k + 1))
        case measure => omega
        case rel => exact ⟨k + 1, hlt, rfl, by go_num, a2, q2, by rw [HM.out]; simp; omega, by
            unfold Hid; rw [HM.out, HX.out, List.map_append, ← Nat.add_assoc, ← HP.out]; simpa [List.append_assoc] using HO4.out, HX3.out.trans hB2⟩
      · have h7' : (kind == 7) = false := by simpa using h7
        have HP : Hid ((p ++ ⟨#[47]⟩ ++ x).data.toList = p.data.toList ++ 47 :: pname kind names (0 + k)) := by
          unfold Hid pname; rw [if_neg h7, Nat.zero_add, ← HXd.out]; simp
        go_wp2_with fail
        refine HIt.out.mono ?_
        rintro e w2 ⟨rfl, hI⟩
        have HX2 := Lib.hid (HBr.out.trans (hI.mono hwz))
        have HO2 := Lib.hid (owns_call HOk.out hI)
        have e2 := (hI.cell (p := ⟨b, 0, none⟩) (by simp; omega)).trans e0
        have hz2' : base ≤ w2.heap.size := by have := hI.size; omega
        clear hI
        go_wp2_with fail
        refine (ih kids[k] u w2 S _ _ _ base _ hkn hkb (by simp [ByteArray.size_append]; have : (⟨#[47]⟩ : ByteArray).size = 1 := rfl; omega) HKw.out HKb.out (IsVal.frame (Below.fr HX2.out HSb.out) HX2.out.size HKid.out) HSb.out hz2' (HTb.out.on HX2.out) HO2.out).mono ?_
        rintro e w4 ⟨out', rfl, hown2, hB2⟩
        obtain ⟨a2, q2, rfl⟩ := owns_form hown2
        have HO4 := Lib.hid hown2
        clear hown2
        go_wp2
        go_roundg (kids.length - (k + 1))
        case measure => omega
        case rel => exact ⟨k + 1, hlt, rfl, by go_num, a2, q2, by rw [HM.out]; simp; omega, by
            unfold Hid; rw [HM.out, HX.out, List.map_append, ← Nat.add_assoc, ← HP.out]; simpa [List.append_assoc] using HO4.out, HX2.out.trans hB2⟩
    · have : k = kids.length := by omega
      subst this
      go_wp2
      go_ret
      refine ⟨.slice a (m + 1 + T.cnts (kids.take kids.length)) q, rfl, ?_, HBr.out⟩
      have h := HOk.out
      rw [List.take_length] at h ⊢
      simp only [T.cnt, T.paths, List.map_cons]
      rw [show m + (T.cnts kids + 1) = m + 1 + T.cnts kids by omega]
      exact h
end Go.Proofs.YtbldchemgkfdcaaGreatDoor
