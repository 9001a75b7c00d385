/- impl.val.write, string: a value's text. -/
import Derived.Test.YtbldchemgkfdcaaGreatDoorWritten
import Derived.Test.YtbldchemgkfdcaaGreatDoorVal
import Derived.Lib.AppendIntMem
import Derived.Lib.LaidTab
namespace Go.Proofs.YtbldchemgkfdcaaGreatDoor
open Go.RowKit Go.Proofs

/-- the table of powers of ten stands in w, and will, whatever is done from block B on -/
def Tb (B : Nat) (w : World) : Prop := Lib.TabBelow Tryz.prog B w "internal/strconv.uint64pow10" .u64 Lib.pow10Tab
theorem Tb.on {B : Nat} {w w' : World} (h : Tb B w) (hb : Below B w w') : Tb B w' := Lib.TabBelow.on h hb
theorem Tb.up {B B' : Nat} {w : World} (h : Tb B w) (hB : B ≤ B') : Tb B' w := fun w' hb => h w' (hb.mono hB)

theorem itoa_c (n : Int) (h0 : -9223372036854775808 ≤ n) (h1 : n ≤ 9223372036854775807) (w : World) (B : Nat) (ht : Tb B w) :
    Calls Tryz.prog 75 #[.int .i64 n] w fun e w' => e = .returned (.string ⟨(Lib.itoa n).toArray⟩) ∧ Below w.heap.size w w' := by
  refine (Tryz.strconv_Itoa n h0 h1 w (Lib.TabBelow.here ht)).mono ?_
  rintro e w' ⟨rfl, k, os, rfl⟩
  exact ⟨rfl, Lib.below_grow _ w (Nat.le_refl _) k os⟩

/-- strings.Builder in block b holds the bytes l -/
def Bld (B b : Nat) (l : List UInt8) (w : World) : Prop := Lib.IsBuilder 135 5 B b (Lib.byteCells l) w
theorem Bld.lt {B b : Nat} {l : List UInt8} {w : World} (h : Bld B b l w) : b < w.heap.size := by rcases h with h | h <;> exact h.lt
theorem Bld.ge {B b : Nat} {l : List UInt8} {w : World} (h : Bld B b l w) : B ≤ b := by rcases h with h | h <;> exact h.1
theorem BuilderAt_call {T e : TypeId} {B b : Nat} {p : Value} {bs : List Value} {w w' : World} (h : Lib.BuilderAt T e B b p bs w) (hb : Below w.heap.size w w') : Lib.BuilderAt T e B b p bs w' := by
  have hg : w.grownBy w' none := ⟨hb.os, hb.tape, hb.output, hb.size, fun k hk _ => hb.block k hk⟩
  have hlt := h.lt
  obtain ⟨hB, v, hbk, hown, hne⟩ := h
  exact ⟨hB, v, (hb.block b hlt).trans hbk, hown.kept hg (by cases hv : v.ownBlock <;> simp), hne⟩
theorem Bld.call {B b : Nat} {l : List UInt8} {w w' : World} (h : Bld B b l w) (hb : Below w.heap.size w w') : Bld B b l w' := by
  rcases h with h | h
  · exact .inl (BuilderAt_call h hb)
  · exact .inr (BuilderAt_call h hb)
theorem wstr_c (B b : Nat) (l : List UInt8) (s : ByteArray) (w : World) (h : Bld B b l w) (hl : l.length + s.size ≤ 140737488355328) (hB : B ≤ w.heap.size) :
    Calls Tryz.prog 121 #[.pointer (some ⟨b, 0, none⟩), .string s] w fun e w' => e = .returned (.tuple #[.int .i64 s.size, .nilIface]) ∧ Bld B b (l ++ s.data.toList) w' ∧ Below B w w' := by
  refine (B_WriteString B b _ s w h (by simpa [Lib.byteCells] using hl) hB).mono ?_
  rintro e w' ⟨rfl, h1, h2⟩
  exact ⟨rfl, .inr (by simpa [Lib.byteCells, Lib.strCells] using h1), h2⟩
theorem wbyte_c (B b : Nat) (l : List UInt8) (c : UInt8) (ci : Int) (hc : ci = (c.toNat : Int)) (w : World) (h : Bld B b l w) (hl : l.length + 1 ≤ 140737488355328) (hB : B ≤ w.heap.size) :
    Calls Tryz.prog 123 #[.pointer (some ⟨b, 0, none⟩), .int .u8 ci] w fun e w' => e = .returned .nilIface ∧ Bld B b (l ++ [c]) w' ∧ Below B w w' := by
  subst hc
  refine (B_WriteByte B b _ _ w h (by simpa [Lib.byteCells] using hl) hB).mono ?_
  rintro e w' ⟨rfl, h1, h2⟩
  exact ⟨rfl, .inr (by simpa [Lib.byteCells] using h1), h2⟩

theorem str_size (l : List UInt8) : (⟨l.toArray⟩ : ByteArray).size = l.length := rfl

set_option maxRecDepth 100000 in
set_option maxHeartbeats 2000000 in
theorem write_c (n : Nat) : ∀ (t : T) (v : Value) (w : World) (S : Nat → Prop) (B b : Nat) (l : List UInt8), t.cnt ≤ n → t.wn → t.bounded = true → l.length + 130 * t.cnt ≤ 35184372088832 →
    IsVal w S t v → (∀ b, S b → b < B) → B ≤ w.heap.size → Tb B w → Bld B b l w →
    Calls Tryz.prog 113 #[v, .pointer (some ⟨b, 0, none⟩)] w fun e w' => e = .returned (.tuple #[]) ∧ Bld B b (l ++ t.txt) w' ∧ Below B w w' := by
  induction n with
  | zero => intro t v w S B b l hn; have := t.cnt_pos; omega
  | succ n ih =>
  rintro ⟨kind, num, text, names, kids⟩ v w S B bb l hn hwn hbd hl hv hSb hB htb hbld
  have hlen := T.txt_len _ hbd
  have hbd' := hbd
  simp only [T.bounded, Bool.and_eq_true] at hbd'
  obtain ⟨⟨⟨hb1, hb2⟩, hb3⟩, hb4⟩ := hbd'
  simp only [okNum, Bool.and_eq_true, decide_eq_true_eq] at hb1
  have hts := okStr_size hb2
  have hql := quote_len text
  have hil := Lib.itoa_length_le num (by omega) (by omega)
  obtain ⟨b, sn, sk, vs, rfl, hS, hblk, hnames, hrow, hkids⟩ := hv
  have hbb := hSb _ hS
  obtain ⟨c0, c1, c2, c3, c4⟩ := val_cells' hblk
  obtain ⟨ak, ck, rfl⟩ := hrow.form
  obtain ⟨an, cn, rfl⟩ := Row.form hnames
  have HSb := Lib.hid hSb; have HW := Lib.hid hwn; have HL := Lib.hid hl; have HLen := Lib.hid hlen; have HTb := Lib.hid htb; have HBl := Lib.hid hbld
  have HK := Lib.hid hkids; have HN := Lib.hid hnames; have HR := Lib.hid hrow; have H3 := Lib.hid hb3; have H4 := Lib.hid hb4
  clear hblk hkids hnames hSb hrow hwn hl hlen htb hbld hbd hb3 hb4
  have hl0 : l.length ≤ 35184372088832 := by have := HL.out; omega
  by_cases k1 : kind = 1
  · subst k1
    have HT : Hid ((T.mk 1 num text names kids).txt = [110, 117, 108, 108]) := by simp [Hid, T.txt]
    go_enter Tryz.func113, Tryz.ntmps113
    go_wp2_with (go_at_call 121; refine (wstr_c B bb l _ _ HBl.out (by simp [ByteArray.size]; omega) hB).mono ?_; rintro e w1 ⟨rfl, h1, h2⟩)
    go_end0
    exact ⟨rfl, by rw [HT.out]; exact h1, h2⟩
  by_cases k2 : kind = 2
  · subst k2
    have HT : Hid ((T.mk 2 num text names kids).txt = [102, 97, 108, 115, 101]) := by simp [Hid, T.txt]
    go_enter Tryz.func113, Tryz.ntmps113
    go_wp2_with (go_at_call 121; refine (wstr_c B bb l _ _ HBl.out (by simp [ByteArray.size]; omega) hB).mono ?_; rintro e w1 ⟨rfl, h1, h2⟩)
    go_end0
    exact ⟨rfl, by rw [HT.out]; exact h1, h2⟩
  by_cases k3 : kind = 3
  · subst k3
    have HT : Hid ((T.mk 3 num text names kids).txt = [116, 114, 117, 101]) := by simp [Hid, T.txt]
    go_enter Tryz.func113, Tryz.ntmps113
    go_wp2_with (go_at_call 121; refine (wstr_c B bb l _ _ HBl.out (by simp [ByteArray.size]; omega) hB).mono ?_; rintro e w1 ⟨rfl, h1, h2⟩)
    go_end0
    exact ⟨rfl, by rw [HT.out]; exact h1, h2⟩
  by_cases k4 : kind = 4
  · subst k4
    have HT : Hid ((T.mk 4 num text names kids).txt = Lib.itoa num) := by simp [Hid, T.txt]
    go_enter Tryz.func113, Tryz.ntmps113
    go_wp2_with (first
      | (go_at_call 75; refine (itoa_c num (by omega) (by omega) _ B HTb.out).mono ?_; rintro e w1 ⟨rfl, hI⟩)
      | (go_at_call 121; refine (wstr_c B bb l _ _ (HBl.out.call hI) (by rw [str_size]; omega) (Nat.le_trans hB hI.size)).mono ?_; rintro e w2 ⟨rfl, h1, h2⟩))
    go_end0
    exact ⟨rfl, by rw [HT.out]; exact h1, (hI.mono hB).trans h2⟩
  by_cases k5 : kind = 5
  · subst k5
    have HT : Hid ((T.mk 5 num text names kids).txt = quote text) := by simp [Hid, T.txt]
    go_enter Tryz.func113, Tryz.ntmps113
    go_wp2_with (first
      | (go_at_call 122; refine (written_c text _ (by omega)).mono ?_; rintro e w1 ⟨rfl, hI⟩)
      | (go_at_call 121; refine (wstr_c B bb l _ _ (HBl.out.call hI) (by rw [str_size]; omega) (Nat.le_trans hB hI.size)).mono ?_; rintro e w2 ⟨rfl, h1, h2⟩))
    go_end0
    exact ⟨rfl, by rw [HT.out]; exact h1, (hI.mono hB).trans h2⟩
  have q1 : (kind == 1) = false := by simpa using k1
  have q2 : (kind == 2) = false := by simpa using k2
  have q3 : (kind == 3) = false := by simpa using k3
  have q4 : (kind == 4) = false := by simpa using k4
  have q5 : (kind == 5) = false := by simpa using k5
  by_cases k67 : kind = 6 ∨ kind = 7
  · clear k1 k2 k3 k4 k5
    rcases k67 with k6 | k7
    · subst k6
      have HT : Hid ((T.mk 6 num text names kids).txt = 91 :: T.txts 6 names kids 0 ++ [93]) := by simp [Hid, T.txt]
      have hkb := HLen.out
      rw [HT.out] at hkb
      simp only [List.length_append, List.length_cons, List.length_nil] at hkb
      have htot : l.length + (T.txts 6 names kids 0).length + 60 ≤ 35184372088832 := by have := HL.out; omega
      clear hkb
      go_enter Tryz.func113, Tryz.ntmps113
      go_wp2_with (go_at_call 123; refine (wbyte_c B bb l 91 91 (by decide) _ HBl.out (by omega) hB).mono ?_; rintro e w1 ⟨rfl, h1, h2⟩; obtain ⟨hc1, hf1⟩ := bcell h2; have H1 := Lib.hid h1; have H2 := Lib.hid h2; clear h1 h2 hf1)
      go_loopg [58] kids.length (fun gh i wr => ∃ k : Nat, k ≤ kids.length ∧ gh = kids.length - k ∧ i = .int .i64 k ∧ Hid (Bld B bb (l ++ [91] ++ T.txts 6 names (kids.take k) 0) wr) ∧ Hid (Below B w wr))
      case atStart => exact ⟨0, Nat.zero_le _, by simp, rfl, by simpa [T.txts] using H1, H2⟩
      case round =>
        obtain ⟨k, hk, rfl, rfl, HB', HBr⟩ := hrel
        obtain ⟨hcr, hfr⟩ := bcell HBr.out
        have hzr : B ≤ wr.heap.size := Nat.le_trans hB HBr.out.size
        clear hc1 H1 H2 hfr
        by_cases hlt : k < kids.length
        · obtain ⟨g, off, u, hak, hSg, hg, hu, hcell⟩ := HR.out.at1 hlt
          subst hak
          have hgb := HSb.out g hSg
          obtain ⟨v, hv1, hkid⟩ := (HK.out.get).2 k hlt
          obtain rfl : u = v := Option.some.inj (hu.symm.trans hv1)
          have HKid := Lib.hid hkid
          have HX := Lib.hid (T.txts_take 6 names kids 0 k hlt)
          have hx1 := T.txts_len (kids.take k) names 6 0 H3.out (T.boundeds_take H4.out k)
          have hx2 : T.cnts (kids.take k) + kids[k].cnt ≤ T.cnts kids := by have := T.cnts_take_le kids (k + 1); rw [T.cnts_take_succ kids k hlt] at this; exact this
          have hkl := T.cnts_len kids
          have hx3 : l.length + 130 * (T.cnts kids + 1) ≤ 35184372088832 := by have := HL.out; simp only [T.cnt] at this; exact this
          have hkn : kids[k].cnt ≤ n := by simp only [T.cnt] at hn; omega
          have hkw := Lib.hid (T.wns_mem HW.out.2 k hlt)
          have HBd := Lib.hid (T.boundeds_get H4.out k hlt)
          clear hu hv1 hkid
          by_cases hk0 : 0 < k
          · go_wp2_with (first | (go_at_call 123; refine (wbyte_c B bb _ 44 44 (by decide) _ HB'.out (by simp; omega) hzr).mono ?_; rintro e w2 ⟨rfl, h3, h4⟩; have hx4 := HBr.out.trans h4; obtain ⟨hc2, hf2⟩ := bcell hx4; have hz2 : B ≤ w2.heap.size := Nat.le_trans hB hx4.size; have H3' := Lib.hid h3; have HX4 := Lib.hid hx4; clear h3 h4 hx4 hf2) | (go_at_call 113; refine (ih kids[k] u _ S B bb _ hkn hkw.out HBd.out (by simp; omega) (IsVal.frame (Below.fr HX4.out HSb.out) HX4.out.size HKid.out) HSb.out hz2 (HTb.out.on HX4.out) H3'.out).mono ?_; rintro e w5 ⟨rfl, h7, h8⟩))
            go_roundg (kids.length - (k + 1))
            case measure => omega
            case rel => exact ⟨k + 1, hlt, rfl, by go_num, by rw [HX.out]; simpa [hk0, Hid] using h7, Lib.hid (HX4.out.trans h8)⟩
          · go_wp2_with (first | (go_at_call 113; refine (ih kids[k] u _ S B bb _ hkn hkw.out HBd.out (by simp; omega) (IsVal.frame (Below.fr HBr.out HSb.out) HBr.out.size HKid.out) HSb.out hzr (HTb.out.on HBr.out) HB'.out).mono ?_; rintro e w5 ⟨rfl, h7, h8⟩))
            go_roundg (kids.length - (k + 1))
            case measure => omega
            case rel => exact ⟨k + 1, hlt, rfl, by go_num, by rw [HX.out]; simpa [hk0, Hid] using h7, Lib.hid (HBr.out.trans h8)⟩
        · have : k = kids.length := by omega
          subst this
          go_wp2_with (go_at_call 123; refine (wbyte_c B bb _ 93 93 (by decide) _ HB'.out (by rw [List.take_length]; simp; omega) hzr).mono ?_; rintro e w2 ⟨rfl, h3, h4⟩)
          go_end0
          exact ⟨rfl, by rw [HT.out]; simpa using h3, HBr.out.trans h4⟩
    · subst k7
      have HT : Hid ((T.mk 7 num text names kids).txt = 123 :: T.txts 7 names kids 0 ++ [125]) := by simp [Hid, T.txt]
      have hkb := HLen.out
      rw [HT.out] at hkb
      simp only [List.length_append, List.length_cons, List.length_nil] at hkb
      have htot : l.length + (T.txts 7 names kids 0).length + 60 ≤ 35184372088832 := by have := HL.out; omega
      clear hkb
      go_enter Tryz.func113, Tryz.ntmps113
      go_wp2_with (go_at_call 123; refine (wbyte_c B bb l 123 123 (by decide) _ HBl.out (by omega) hB).mono ?_; rintro e w1 ⟨rfl, h1, h2⟩; obtain ⟨hc1, hf1⟩ := bcell h2; have H1 := Lib.hid h1; have H2 := Lib.hid h2; clear h1 h2 hf1)
      go_loopg [58] kids.length (fun gh i wr => ∃ k : Nat, k ≤ kids.length ∧ gh = kids.length - k ∧ i = .int .i64 k ∧ Hid (Bld B bb (l ++ [123] ++ T.txts 7 names (kids.take k) 0) wr) ∧ Hid (Below B w wr))
      case atStart => exact ⟨0, Nat.zero_le _, by simp, rfl, by simpa [T.txts] using H1, H2⟩
      case round =>
        obtain ⟨k, hk, rfl, rfl, HB', HBr⟩ := hrel
        obtain ⟨hcr, hfr⟩ := bcell HBr.out
        have hzr : B ≤ wr.heap.size := Nat.le_trans hB HBr.out.size
        clear hc1 H1 H2 hfr
        by_cases hlt : k < kids.length
        · obtain ⟨g, off, u, hak, hSg, hg, hu, hcell⟩ := HR.out.at1 hlt
          subst hak
          have hgb := HSb.out g hSg
          obtain ⟨v, hv1, hkid⟩ := (HK.out.get).2 k hlt
          obtain rfl : u = v := Option.some.inj (hu.symm.trans hv1)
          have HKid := Lib.hid hkid
          have HX := Lib.hid (T.txts_take 7 names kids 0 k hlt)
          have hx1 := T.txts_len (kids.take k) names 7 0 H3.out (T.boundeds_take H4.out k)
          have hx2 : T.cnts (kids.take k) + kids[k].cnt ≤ T.cnts kids := by have := T.cnts_take_le kids (k + 1); rw [T.cnts_take_succ kids k hlt] at this; exact this
          have hkl := T.cnts_len kids
          have hx3 : l.length + 130 * (T.cnts kids + 1) ≤ 35184372088832 := by have := HL.out; simp only [T.cnt] at this; exact this
          have hkn : kids[k].cnt ≤ n := by simp only [T.cnt] at hn; omega
          have hkw := Lib.hid (T.wns_mem HW.out.2 k hlt)
          have HBd := Lib.hid (T.boundeds_get H4.out k hlt)
          have hnl := HW.out.1.1 rfl
          obtain ⟨gn, offn, han, hSn, hcn⟩ := Strs.at HN.out (k := k) (by omega)
          subst han
          have hgnb := HSb.out gn hSn
          have hkni : (k : Int) < (names.length : Int) := by omega
          have HKN := Lib.hid (show kname 7 names k = names.getD k ⟨#[]⟩ from rfl)
          have hks := kname_size H3.out 7 k
          have hkq := quote_len (kname 7 names k)
          rw [← HKN.out] at hcn
          have HNL := Lib.hid hnl
          clear hnl
          clear hu hv1 hkid
          by_cases hk0 : 0 < k
          · go_wp2_with (first | (go_at_call 123; refine (wbyte_c B bb _ 44 44 (by decide) _ HB'.out (by simp; omega) hzr).mono ?_; rintro e w2 ⟨rfl, h3, h4⟩; have hx4 := HBr.out.trans h4; obtain ⟨hc2, hf2⟩ := bcell hx4; have hz2 : B ≤ w2.heap.size := Nat.le_trans hB hx4.size; have H3' := Lib.hid h3; have HX4 := Lib.hid hx4; clear h3 h4 hx4 hf2) | (go_at_call 122; refine (written_c (kname 7 names k) _ (by omega)).mono ?_; rintro e w3 ⟨rfl, hI⟩; have hx5 := HX4.out.trans (hI.mono hz2); have hz3 : B ≤ w3.heap.size := Nat.le_trans hB hx5.size; have HX5 := Lib.hid hx5; have HB3 := Lib.hid (H3'.out.call hI); clear hI hx5) | (go_at_call 121; refine (wstr_c B bb _ _ _ HB3.out (by simp [ByteArray.size]; omega) hz3).mono ?_; rintro e w4 ⟨rfl, h5, h6⟩; have hx6 := HX5.out.trans h6; obtain ⟨hc4, hf4⟩ := bcell hx6; have hz4 : B ≤ w4.heap.size := Nat.le_trans hB hx6.size; have HB4 := Lib.hid h5; have HX6 := Lib.hid hx6; clear h5 h6 hx6 hf4) | (go_at_call 113; refine (ih kids[k] u _ S B bb _ hkn hkw.out HBd.out (by simp; omega) (IsVal.frame (Below.fr HX6.out HSb.out) HX6.out.size HKid.out) HSb.out hz4 (HTb.out.on HX6.out) HB4.out).mono ?_; rintro e w5 ⟨rfl, h7, h8⟩))
            go_roundg (kids.length - (k + 1))
            case measure => omega
            case rel => exact ⟨k + 1, hlt, rfl, by go_num, by rw [HX.out]; simpa [hk0, Hid] using h7, Lib.hid (HX6.out.trans h8)⟩
          · go_wp2_with (first | (go_at_call 122; refine (written_c (kname 7 names k) _ (by omega)).mono ?_; rintro e w3 ⟨rfl, hI⟩; have hx5 := HBr.out.trans (hI.mono hzr); have hz3 : B ≤ w3.heap.size := Nat.le_trans hB hx5.size; have HX5 := Lib.hid hx5; have HB3 := Lib.hid (HB'.out.call hI); clear hI hx5) | (go_at_call 121; refine (wstr_c B bb _ _ _ HB3.out (by simp [ByteArray.size]; omega) hz3).mono ?_; rintro e w4 ⟨rfl, h5, h6⟩; have hx6 := HX5.out.trans h6; obtain ⟨hc4, hf4⟩ := bcell hx6; have hz4 : B ≤ w4.heap.size := Nat.le_trans hB hx6.size; have HB4 := Lib.hid h5; have HX6 := Lib.hid hx6; clear h5 h6 hx6 hf4) | (go_at_call 113; refine (ih kids[k] u _ S B bb _ hkn hkw.out HBd.out (by simp; omega) (IsVal.frame (Below.fr HX6.out HSb.out) HX6.out.size HKid.out) HSb.out hz4 (HTb.out.on HX6.out) HB4.out).mono ?_; rintro e w5 ⟨rfl, h7, h8⟩))
            go_roundg (kids.length - (k + 1))
            case measure => omega
            case rel => exact ⟨k + 1, hlt, rfl, by go_num, by rw [HX.out]; simpa [hk0, Hid] using h7, Lib.hid (HX6.out.trans h8)⟩
        · have : k = kids.length := by omega
          subst this
          go_wp2_with (go_at_call 123; refine (wbyte_c B bb _ 125 125 (by decide) _ HB'.out (by rw [List.take_length]; simp; omega) hzr).mono ?_; rintro e w2 ⟨rfl, h3, h4⟩)
          go_end0
          exact ⟨rfl, by rw [HT.out]; simpa using h3, HBr.out.trans h4⟩
  · have q6 : (kind == 6) = false := by simp; omega
    have q7 : (kind == 7) = false := by simp; omega
    have k6 : ¬ kind = 6 := fun h => k67 (.inl h)
    have k7 : ¬ kind = 7 := fun h => k67 (.inr h)
    have HT : Hid ((T.mk kind num text names kids).txt = []) := by simp [Hid, T.txt, k1, k2, k3, k4, k5, k6, k7]
    clear k1 k2 k3 k4 k5 k6 k7 k67
    go_enter Tryz.func113, Tryz.ntmps113
    go_wp2
    go_end0
    exact ⟨rfl, by rw [HT.out, List.append_nil]; exact HBl.out, Below.refl _ _⟩

set_option maxRecDepth 100000 in
set_option maxHeartbeats 1000000 in
theorem string_c (t : T) (v : Value) (w : World) (S : Nat → Prop) (B : Nat) (hwn : t.wn) (hbd : t.bounded = true) (hl : t.cnt ≤ 1099511627) (hv : IsVal w S t v) (hS : ∀ b, S b → b < w.heap.size) (hB : B ≤ w.heap.size) (ht : Tb B w) :
    Calls Tryz.prog 99 #[v] w fun e w' => e = .returned (.string ⟨t.txt.toArray⟩) ∧ Below w.heap.size w w' := by
  have HV := Lib.hid hv; have HS := Lib.hid hS; have HT := Lib.hid ht; have HW := Lib.hid hwn; have HD := Lib.hid hbd
  have HF : Hid (Bld w.heap.size w.heap.size [] (w.alloc (.cells #[.pointer none, .slice none 0 0] 135))) := Lib.fresh_isBuilder _ _ w
  have HB0 := Lib.hid ((Below.refl w.heap.size w).alloc (Nat.le_refl _) (.cells #[.pointer none, .slice none 0 0] 135))
  clear hv hS ht hwn hbd
  go_enter Tryz.func99, Tryz.ntmps99
  go_wp2_with (first
    | (go_at_call 113; refine (write_c _ t v _ S w.heap.size w.heap.size [] (Nat.le_refl _) HW.out HD.out (by simp; omega) (IsVal.frame (Below.fr HB0.out HS.out) HB0.out.size HV.out) HS.out (by simp) ((HT.out.up hB).on HB0.out) HF.out).mono ?_; rintro e w1 ⟨rfl, h1, h2⟩; have hx := HB0.out.trans h2; have hz1 : w.heap.size ≤ w1.heap.size := hx.size; have H1 := Lib.hid h1; have HX := Lib.hid hx; clear h1 h2 hx)
    | (go_at_call 114; refine (Tryz.Builder_String_any w.heap.size w.heap.size _ _ H1.out hz1).mono ?_; rintro e w2 ⟨rfl, h3⟩))
  go_ret
  exact ⟨rfl, HX.out.trans h3⟩

end Go.Proofs.YtbldchemgkfdcaaGreatDoor
