/- impl: what is asked of a value as a tree: within, holds, stringOK, deep, count, bounded. -/
import Derived.Test.YtbldchemgkfdcaaGreatDoorBase
namespace Go.Proofs.YtbldchemgkfdcaaGreatDoor
open Go.RowKit

theorem within_c (a b c : Int) (w : World) :
    Calls Tryz.prog 38 #[.int .i64 a, .int .i64 b, .int .i64 c] w fun e w' => e = .returned (.bool (within a b c)) ∧ w = w' := by
  by_cases h : b ≤ a
  · go_enter Tryz.func38, Tryz.ntmps38
    go_wp2
    go_ret
    simp [h, within]
  · have h' : decide (b ≤ a) = false := by simpa using h
    go_enter Tryz.func38, Tryz.ntmps38
    go_wp2
    go_ret
    simp [within]; omega

theorem holds_c (a : Int) (w : World) :
    Calls Tryz.prog 69 #[.int .i64 a] w fun e w' => e = .returned (.bool (holdsB a)) ∧ w = w' := by
  by_cases h : a = 6
  · subst h
    go_enter Tryz.func69, Tryz.ntmps69
    go_wp2
    go_ret
    simp [holdsB]
  · have h' : (a == 6) = false := by simpa using h
    go_enter Tryz.func69, Tryz.ntmps69
    go_wp2
    go_ret
    simp [h, holdsB]; rfl

theorem okStr_step (s : ByteArray) (k : Nat) (h : k < s.size) : s.data.toList.drop k = s[k] :: s.data.toList.drop (k + 1) := by
  have : k < s.data.toList.length := by simpa using h
  rw [List.drop_eq_getElem_cons this]; rfl
def okRest (l : List UInt8) : Bool := l.all (fun b => decide (32 ≤ b.toNat) && decide (b.toNat ≤ 126))

set_option maxHeartbeats 400000 in
theorem stringOK_c (s : ByteArray) (w : World) (hs : s.size ≤ 1099511627776) :
    Calls Tryz.prog 95 #[.string s] w fun e w' => e = .returned (.bool (okStr s)) ∧ w = w' := by
  by_cases h24 : s.size ≤ 24
  · go_enter Tryz.func95, Tryz.ntmps95
    go_wp2
    go_loop [9] (fun i => ∃ k : Nat, k ≤ s.size ∧ i = .int .i64 k ∧ Hid (okStr s = okRest (s.data.toList.drop k))) (fun i => s.size - (intOf i).toNat)
    case atStart => exact ⟨0, Nat.zero_le _, rfl, by simp [Hid, okStr, okRest, h24]⟩
    case round =>
      obtain ⟨k, hk, rfl, H⟩ := hrel
      by_cases hlt : k < s.size
      · have HS := Lib.hid (okStr_step s k hlt)
        have hb : s[k].toNat < 256 := s[k].toNat_lt
        by_cases h32 : s[k].toNat < 32
        · have HF : Hid (okStr s = false) := by rw [H.out, HS.out]; show okRest _ = false; simp only [okRest, List.all_cons]; simp; omega
          go_wp2
          go_ret
          exact ⟨by rw [HF.out]; rfl, rfl⟩
        · by_cases h126 : 126 < s[k].toNat
          · have HF : Hid (okStr s = false) := by rw [H.out, HS.out]; show okRest _ = false; simp only [okRest, List.all_cons]; simp; omega
            go_wp2
            go_ret
            exact ⟨by rw [HF.out]; rfl, rfl⟩
          · go_wp2
            go_round
            case rel => exact ⟨k + 1, hlt, by go_num, by have := H.out; rw [HS.out] at this; simp only [Hid, this, okRest, List.all_cons]; simp; omega⟩
            case measure => simp [intOf]; omega
      · go_wp2
        go_ret
        exact ⟨by rw [H.out, List.drop_of_length_le (by simp; omega)]; rfl, rfl⟩
  · go_enter Tryz.func95, Tryz.ntmps95
    go_wp2
    go_ret
    simp [okStr, h24]

set_option maxHeartbeats 400000 in
theorem count_c (n : Nat) : ∀ (t : T) (v : Value) (w : World) (S : Nat → Prop), t.cnt ≤ n → t.cnt ≤ 1099511627776 → IsVal w S t v →
    Calls Tryz.prog 97 #[v] w fun e w' => e = .returned (.int .i64 t.cnt) ∧ w = w' := by
  induction n with
  | zero => intro t v w S hn; have := t.cnt_pos; omega
  | succ n ih =>
  rintro ⟨kind, num, text, names, kids⟩ v w S hn hb ⟨b, sn, sk, vs, rfl, hS, hblk, hnames, hrow, hkids⟩
  have c4 := cell_blk hblk 4
  simp only [List.getElem?_toArray, List.getElem?_cons_zero, List.getElem?_cons_succ] at c4
  obtain ⟨ak, ck, rfl⟩ := hrow.form
  have HK := Lib.hid hkids; have HR := Lib.hid hrow
  have hkl : kids.length ≤ 1099511627776 := by have := T.cnts_len kids; simp only [T.cnt] at hb; omega
  simp only [T.cnt] at hn hb
  clear hblk hkids hnames hrow
  go_enter Tryz.func97, Tryz.ntmps97
  go_wp2
  go_loop [3, 11] (fun m i => ∃ k : Nat, k ≤ kids.length ∧ i = .int .i64 k ∧ m = .int .i64 ((T.cnts (kids.take k) + 1 : Nat) : Int)) (fun _ i => kids.length - (intOf i).toNat)
  case atStart => exact ⟨0, Nat.zero_le _, rfl, by simp [T.cnts]⟩
  case round =>
    obtain ⟨k, hk, rfl, rfl⟩ := hrel
    by_cases hlt : k < kids.length
    · obtain ⟨g, off, u, hak, hSg, hg, hu, hcell⟩ := HR.out.at1 hlt
      subst hak
      obtain ⟨v, hv1, hkid⟩ := (HK.out.get).2 k hlt
      obtain rfl : u = v := Option.some.inj (hu.symm.trans hv1)
      have HKid := Lib.hid hkid
      have HM := Lib.hid (T.cnts_take_succ kids k hlt)
      have hkc : T.cnts (kids.take k) + kids[k].cnt ≤ T.cnts kids := by have := T.cnts_take_le kids (k + 1); rw [HM.out] at this; exact this
      clear hu hv1 hkid
      go_wp2_with (go_at_call 97; refine (ih kids[k] u w S (by omega) (by omega) HKid.out).mono ?_; rintro e w' ⟨rfl, rfl⟩)
      go_round
      case rel => exact ⟨k + 1, hlt, by go_num, by rw [HM.out]; go_num⟩
      case measure => simp [intOf]; omega
    · have : k = kids.length := by omega
      subst this
      go_wp2
      go_ret
      exact ⟨by simp [T.cnt], rfl⟩

set_option maxHeartbeats 400000 in
theorem deep_c (n : Nat) : ∀ (t : T) (v : Value) (w : World) (S : Nat → Prop), t.cnt ≤ n → t.cnt ≤ 1099511627776 → IsVal w S t v →
    Calls Tryz.prog 98 #[v] w fun e w' => e = .returned (.int .i64 t.deep) ∧ w = w' := by
  induction n with
  | zero => intro t v w S hn; have := t.cnt_pos; omega
  | succ n ih =>
  rintro ⟨kind, num, text, names, kids⟩ v w S hn hb ⟨b, sn, sk, vs, rfl, hS, hblk, hnames, hrow, hkids⟩
  have c0 := cell_blk hblk 0
  have c4 := cell_blk hblk 4
  simp only [List.getElem?_toArray, List.getElem?_cons_zero, List.getElem?_cons_succ] at c0 c4
  obtain ⟨ak, ck, rfl⟩ := hrow.form
  have HK := Lib.hid hkids; have HR := Lib.hid hrow
  have hkl : kids.length ≤ 1099511627776 := by have := T.cnts_len kids; simp only [T.cnt] at hb; omega
  simp only [T.cnt] at hn hb
  clear hblk hkids hnames hrow
  go_enter Tryz.func98, Tryz.ntmps98
  go_wp2
  go_loop [3, 11] (fun m i => ∃ k : Nat, k ≤ kids.length ∧ i = .int .i64 k ∧ m = .int .i64 (T.deeps (kids.take k))) (fun _ i => kids.length - (intOf i).toNat)
  case atStart => exact ⟨0, Nat.zero_le _, rfl, by simp [T.deeps]⟩
  case round =>
    obtain ⟨k, hk, rfl, rfl⟩ := hrel
    have hnn := T.deeps_nn (kids.take k)
    have hle : T.deeps (kids.take k) ≤ T.cnts kids := by have := T.deeps_le_cnt (kids.take k); have := T.cnts_take_le kids k; omega
    by_cases hlt : k < kids.length
    · obtain ⟨g, off, u, hak, hSg, hg, hu, hcell⟩ := HR.out.at1 hlt
      subst hak
      obtain ⟨v, hv1, hkid⟩ := (HK.out.get).2 k hlt
      obtain rfl : u = v := Option.some.inj (hu.symm.trans hv1)
      have HKid := Lib.hid hkid
      have HM := Lib.hid (T.deeps_take kids k hlt)
      have hkc : kids[k].cnt ≤ T.cnts kids := T.cnts_mem (List.getElem_mem _)
      clear hu hv1 hkid
      go_wp2_with (go_at_call 98; refine (ih kids[k] u w S (by omega) (by omega) HKid.out).mono ?_; rintro e w' ⟨rfl, rfl⟩)
      go_round
      case rel => exact ⟨k + 1, hlt, by go_num, by rw [HM.out]; exact congrArg _ (by rw [Int.max_def]; split <;> split <;> omega)⟩
      case measure => simp [intOf]; omega
    · have : k = kids.length := by omega
      subst this
      rw [List.take_length] at hnn hle ⊢
      have HD : Hid ((T.mk kind num text names kids).deep = T.deeps kids + if holdsB kind = true then 1 else 0) := by simp [Hid, T.deep, holdsB]
      cases hh : holdsB kind
      all_goals
        rw [hh] at HD
        go_wp2_with (go_at_call 69; refine (holds_c _ _).mono ?_; rintro e w' ⟨rfl, rfl⟩)
        go_ret
        exact ⟨by rw [HD.out]; simp, rfl⟩

theorem any_step {α : Type} (p : α → Bool) (l : List α) (k : Nat) (h : k < l.length) : (l.drop k).any p = (p l[k] || (l.drop (k + 1)).any p) := by
  rw [List.drop_eq_getElem_cons h]; rfl

set_option maxHeartbeats 400000 in
theorem bounded1_c (s : ByteArray) (w : World) (hs : s.size ≤ 1099511627776) :
    Calls Tryz.prog 110 #[.string s] w fun e w' => e = .returned (.bool (!okStr s)) ∧ w = w' := by
  go_enter Tryz.func110, Tryz.ntmps110
  go_wp2_with (go_at_call 95; refine (stringOK_c _ _ hs).mono ?_; rintro e w' ⟨rfl, rfl⟩)
  go_ret
  exact ⟨rfl, rfl⟩

def fidx {α : Type} (p : α → Bool) : List α → Nat → Int
  | [], _ => -1
  | x :: xs, i => if p x then i else fidx p xs (i + 1)
theorem fidx_any {α : Type} (p : α → Bool) : ∀ (l : List α) (i : Nat), decide (0 ≤ fidx p l i) = l.any p
  | [], _ => by simp [fidx]
  | x :: xs, i => by
    by_cases h : p x = true
    · simp [fidx, h]
    · simp only [fidx, h, List.any_cons, Bool.false_or]; exact fidx_any p xs (i + 1)
theorem fidx_step {α : Type} (p : α → Bool) (l : List α) (k : Nat) (h : k < l.length) : fidx p (l.drop k) k = if p l[k] then (k : Int) else fidx p (l.drop (k + 1)) (k + 1) := by
  rw [List.drop_eq_getElem_cons h]; rfl

set_option maxHeartbeats 400000 in
theorem indexStrs_c (l : List ByteArray) (v : Value) (w : World) (S : Nat → Prop) (h : Strs w S v l) (hl : l.length ≤ 1099511627776) (hs : ∀ s ∈ l, s.size ≤ 1099511627776) :
    Calls Tryz.prog 77 #[v, .func (.func 110) #[] #[]] w fun e w' => e = .returned (.int .i64 (fidx (fun s => !okStr s) l 0)) ∧ w = w' := by
  obtain ⟨a, c, rfl⟩ := Row.form h
  have HR := Lib.hid h
  clear h
  go_enter Tryz.func77, Tryz.ntmps77
  go_wp2
  go_loop [8] (fun i => ∃ k : Nat, k ≤ l.length ∧ i = .int .i64 k ∧ Hid (fidx (fun s => !okStr s) l 0 = fidx (fun s => !okStr s) (l.drop k) k)) (fun i => l.length - (intOf i).toNat)
  case atStart => exact ⟨0, Nat.zero_le _, rfl, rfl⟩
  case round =>
    obtain ⟨k, hk, rfl, H⟩ := hrel
    by_cases hlt : k < l.length
    · obtain ⟨g, off, hak, hSg, hcell⟩ := HR.out.at hlt
      subst hak
      have HG := Lib.hid (show l.getD k ⟨#[]⟩ = l[k] by simp [hlt])
      rw [HG.out] at hcell
      have HF := Lib.hid (fidx_step (fun s => !okStr s) l k hlt)
      have hsk := hs _ (List.getElem_mem hlt)
      clear hs
      cases hb : okStr l[k]
      · go_wp2_with (go_at_call 110; refine (bounded1_c _ _ hsk).mono ?_; rintro e w' ⟨rfl, rfl⟩)
        go_ret
        exact ⟨by rw [H.out, HF.out, hb]; rfl, rfl⟩
      · go_wp2_with (go_at_call 110; refine (bounded1_c _ _ hsk).mono ?_; rintro e w' ⟨rfl, rfl⟩)
        go_round
        case rel => exact ⟨k + 1, hlt, by go_num, by rw [H.out, HF.out, hb]; rfl⟩
        case measure => simp [intOf]; omega
    · go_wp2
      go_ret
      exact ⟨by rw [H.out, List.drop_of_length_le (by omega)]; rfl, rfl⟩
theorem containsStrs_c (l : List ByteArray) (v : Value) (w : World) (S : Nat → Prop) (h : Strs w S v l) (hl : l.length ≤ 1099511627776) (hs : ∀ s ∈ l, s.size ≤ 1099511627776) :
    Calls Tryz.prog 47 #[v, .func (.func 110) #[] #[]] w fun e w' => e = .returned (.bool (l.any (fun s => !okStr s))) ∧ w = w' := by
  go_enter Tryz.func47, Tryz.ntmps47
  go_wp2_with (go_at_call 77; refine (indexStrs_c l v w S h hl hs).mono ?_; rintro e w' ⟨rfl, rfl⟩)
  go_ret
  exact ⟨by rw [← fidx_any _ _ 0]; rfl, rfl⟩

section
variable {kids : List T} {w : World} {S : Nat → Prop} (ih : ∀ (t : T) (v : Value), t ∈ kids → IsVal w S t v → Calls Tryz.prog 96 #[v] w fun e w' => e = .returned (.bool t.bounded) ∧ w = w')
include ih
theorem bounded2_c (t : T) (v : Value) (ht : t ∈ kids) (h : IsVal w S t v) :
    Calls Tryz.prog 112 #[v] w fun e w' => e = .returned (.bool (!t.bounded)) ∧ w = w' := by
  have IH := Lib.hid (ih t v ht h)
  clear ih h
  go_enter Tryz.func112, Tryz.ntmps112
  go_wp2_with (go_at_call 96; refine IH.out.mono ?_; rintro e w' ⟨rfl, rfl⟩)
  go_ret
  exact ⟨rfl, rfl⟩
set_option maxHeartbeats 400000 in
theorem indexVals_c (v : Value) (vs : List Value) (h : Row w S 1 v kids.length vs) (hv : IsVals w S kids vs) (hl : kids.length ≤ 1099511627776) :
    Calls Tryz.prog 120 #[v, .func (.func 112) #[] #[]] w fun e w' => e = .returned (.int .i64 (fidx (fun t => !t.bounded) kids 0)) ∧ w = w' := by
  obtain ⟨a, c, rfl⟩ := Row.form h
  have HR := Lib.hid h
  have HK := Lib.hid hv
  have IH := Lib.hid ih
  clear h hv ih
  go_enter Tryz.func120, Tryz.ntmps120
  go_wp2
  go_loop [8] (fun i => ∃ k : Nat, k ≤ kids.length ∧ i = .int .i64 k ∧ Hid (fidx (fun t => !t.bounded) kids 0 = fidx (fun t => !t.bounded) (kids.drop k) k)) (fun i => kids.length - (intOf i).toNat)
  case atStart => exact ⟨0, Nat.zero_le _, rfl, rfl⟩
  case round =>
    obtain ⟨k, hk, rfl, H⟩ := hrel
    by_cases hlt : k < kids.length
    · obtain ⟨g, off, u, hak, hSg, hg, hu, hcell⟩ := HR.out.at1 hlt
      subst hak
      obtain ⟨v, hv1, hkid⟩ := (HK.out.get).2 k hlt
      obtain rfl : u = v := Option.some.inj (hu.symm.trans hv1)
      have HKid := Lib.hid hkid
      have HF := Lib.hid (fidx_step (fun t : T => !t.bounded) kids k hlt)
      clear hu hv1 hkid
      cases hb : kids[k].bounded
      · go_wp2_with (go_at_call 112; refine (bounded2_c IH.out kids[k] u (List.getElem_mem hlt) HKid.out).mono ?_; rintro e w' ⟨rfl, rfl⟩)
        go_ret
        exact ⟨by rw [H.out, HF.out, hb]; rfl, rfl⟩
      · go_wp2_with (go_at_call 112; refine (bounded2_c IH.out kids[k] u (List.getElem_mem hlt) HKid.out).mono ?_; rintro e w' ⟨rfl, rfl⟩)
        go_round
        case rel => exact ⟨k + 1, hlt, by go_num, by rw [H.out, HF.out, hb]; rfl⟩
        case measure => simp [intOf]; omega
    · go_wp2
      go_ret
      exact ⟨by rw [H.out, List.drop_of_length_le (by omega)]; rfl, rfl⟩
theorem containsVals_c (v : Value) (vs : List Value) (h : Row w S 1 v kids.length vs) (hv : IsVals w S kids vs) (hl : kids.length ≤ 1099511627776) :
    Calls Tryz.prog 111 #[v, .func (.func 112) #[] #[]] w fun e w' => e = .returned (.bool (kids.any (fun t => !t.bounded))) ∧ w = w' := by
  have HI := Lib.hid (indexVals_c ih v vs h hv hl)
  clear ih h hv
  go_enter Tryz.func111, Tryz.ntmps111
  go_wp2_with (go_at_call 120; refine HI.out.mono ?_; rintro e w' ⟨rfl, rfl⟩)
  go_ret
  exact ⟨by rw [← fidx_any _ _ 0]; rfl, rfl⟩
end

theorem okNum_within (n : Int) : within n (-1000000000) 1000000000 = okNum n := rfl
theorem any_not_all {α : Type} (p : α → Bool) (l : List α) : l.any (fun x => !p x) = !l.all p := by
  induction l with
  | nil => rfl
  | cons a l ih => simp [ih]
set_option maxHeartbeats 1000000 in
theorem bounded_c (n : Nat) : ∀ (t : T) (v : Value) (w : World) (S : Nat → Prop), t.cnt ≤ n → t.cnt ≤ 1099511627776 → t.sized → IsVal w S t v →
    Calls Tryz.prog 96 #[v] w fun e w' => e = .returned (.bool t.bounded) ∧ w = w' := by
  induction n with
  | zero => intro t v w S hn; have := t.cnt_pos; omega
  | succ n ih =>
  rintro ⟨kind, num, text, names, kids⟩ v w S hn hb ⟨ht, hnl, hns, hks⟩ ⟨b, sn, sk, vs, rfl, hS, hblk, hnames, hrow, hkids⟩
  have c1 := cell_blk hblk 1
  have c2 := cell_blk hblk 2
  have c3 := cell_blk hblk 3
  have c4 := cell_blk hblk 4
  simp only [List.getElem?_toArray, List.getElem?_cons_zero, List.getElem?_cons_succ] at c1 c2 c3 c4
  have hkl : kids.length ≤ 1099511627776 := by have := T.cnts_len kids; simp only [T.cnt] at hb; omega
  simp only [T.cnt] at hn hb
  have HN := Lib.hid (containsStrs_c names sn w S hnames hnl hns)
  have HKK := Lib.hid (containsVals_c (fun t v ht hv => ih t v w S (by have := T.cnts_mem ht; omega) (by have := T.cnts_mem ht; omega) (T.sizeds_mem hks t ht) hv) sk vs hrow hkids hkl)
  have HD : Hid ((T.mk kind num text names kids).bounded = (within num (-1000000000) 1000000000 && okStr text && names.all okStr && kids.all T.bounded)) := by
    show T.bounded _ = _
    rw [T.bounded, T.boundeds_all]; rfl
  obtain ⟨ak, ck, rfl⟩ := hrow.form
  obtain ⟨an, cn, rfl⟩ := Row.form hnames
  clear hblk hkids hnames hrow ih hks hns
  have ha1 := any_not_all okStr names
  have ha2 := any_not_all T.bounded kids
  rw [ha1] at HN; rw [ha2] at HKK
  clear ha1 ha2
  cases h1 : within num (-1000000000) 1000000000 <;> cases h2 : okStr text <;> cases h3 : names.all okStr <;> cases h4 : kids.all T.bounded <;> rw [h1, h2, h3, h4] at HD <;>
  · go_enter Tryz.func96, Tryz.ntmps96
    go_wp2_with (first
      | (go_at_call 38; refine (within_c _ _ _ _).mono ?_; rintro e w' ⟨rfl, rfl⟩)
      | (go_at_call 95; refine (stringOK_c _ _ ht).mono ?_; rintro e w' ⟨rfl, rfl⟩)
      | (go_at_call 47; refine HN.out.mono ?_; rintro e w' ⟨rfl, rfl⟩)
      | (go_at_call 111; refine HKK.out.mono ?_; rintro e w' ⟨rfl, rfl⟩))
    go_ret
    exact ⟨by rw [HD.out]; rfl, rfl⟩
end Go.Proofs.YtbldchemgkfdcaaGreatDoor
