/- spec: l1In, l1Holds, l1Number, l1Printed, l1Num, l1Int, l1Quote. -/
import Derived.Test.YtbldchemgkfdcaaGreatDoorVal
namespace Go.Proofs.YtbldchemgkfdcaaGreatDoor
open Go.RowKit

theorem l1In_c (a b c : Int) (w : World) :
    Calls Tryz.prog 33 #[.int .i64 a, .int .i64 b, .int .i64 c] w fun e w' => e = .returned (.bool (within a b c)) ∧ w = w' := by
  by_cases h : b ≤ a
  · go_enter Tryz.func33, Tryz.ntmps33
    go_wp2
    go_ret
    simp [h, within]
  · have h' : decide (b ≤ a) = false := by simpa using h
    go_enter Tryz.func33, Tryz.ntmps33
    go_wp2
    go_ret
    simp [within]; omega

theorem l1Holds_c (a : Int) (w : World) :
    Calls Tryz.prog 92 #[.int .i64 a] w fun e w' => e = .returned (.bool (holdsB a)) ∧ w = w' := by
  by_cases h : a = 6
  · subst h
    go_enter Tryz.func92, Tryz.ntmps92
    go_wp2
    go_ret
    simp [holdsB]
  · have h' : (a == 6) = false := by simpa using h
    go_enter Tryz.func92, Tryz.ntmps92
    go_wp2
    go_ret
    simp [h, holdsB]; rfl

theorem l1Number_c (a : Int) (w : World) :
    Calls Tryz.prog 90 #[.int .i64 a] w fun e w' => e = .returned (.bool (okNum a)) ∧ w = w' := by
  go_enter Tryz.func90, Tryz.ntmps90
  go_wp2_with (go_at_call 33; refine (l1In_c _ _ _ _).mono ?_; rintro e w' ⟨rfl, rfl⟩)
  go_ret
  exact ⟨rfl, rfl⟩

theorem okStr_rest (s : ByteArray) : okStr s = (okRest s.data.toList && decide (s.size ≤ 24)) := by
  unfold okStr okRest
  rw [Bool.and_comm]

set_option maxHeartbeats 400000 in
theorem l1Printed_c (s : ByteArray) (w : World) (hs : s.size ≤ 1099511627776) :
    Calls Tryz.prog 91 #[.string s] w fun e w' => e = .returned (.bool (okStr s)) ∧ w = w' := by
  go_enter Tryz.func91, Tryz.ntmps91
  go_wp2
  go_loop [3] (fun i => ∃ k : Nat, k ≤ s.size ∧ i = .int .i64 k ∧ Hid (okStr s = (okRest (s.data.toList.drop k) && decide (s.size ≤ 24)))) (fun i => s.size - (intOf i).toNat)
  case atStart => exact ⟨0, Nat.zero_le _, rfl, okStr_rest s⟩
  case round =>
    obtain ⟨k, hk, rfl, H⟩ := hrel
    by_cases hlt : k < s.size
    · have HS := Lib.hid (okStr_step s k hlt)
      have hb : s[k].toNat < 256 := s[k].toNat_lt
      by_cases h32 : s[k].toNat < 32
      · have HF : Hid (okStr s = false) := by rw [H.out, HS.out]; simp only [Hid, okRest, List.all_cons]; simp; omega
        go_wp2
        go_ret
        exact ⟨by rw [HF.out]; rfl, rfl⟩
      · by_cases h126 : 126 < s[k].toNat
        · have HF : Hid (okStr s = false) := by rw [H.out, HS.out]; simp only [Hid, okRest, List.all_cons]; simp; omega
          go_wp2
          go_ret
          exact ⟨by rw [HF.out]; rfl, rfl⟩
        · go_wp2
          go_round
          case rel => exact ⟨k + 1, hlt, by go_num, by have := H.out; rw [HS.out] at this; unfold Hid; rw [this]; congr 1; simp only [okRest, List.all_cons]; simp; omega⟩
          case measure => simp [intOf]; omega
    · have HF : Hid (okStr s = decide (s.size ≤ 24)) := by have := H.out; rw [List.drop_of_length_le (by simp; omega)] at this; exact this.trans (Bool.true_and _)
      go_wp2
      go_ret
      refine ⟨?_, rfl⟩
      rw [HF.out, ← show decide ((s.size : Int) ≤ 24) = decide (s.size ≤ 24) from decide_eq_decide.2 (by omega)]
      rfl

theorem conv_byte (b : UInt8) (z : Int) (hz : z = (b.toNat : Int)) (w : World) (g : Nat) (h : w.cell? ⟨g, 0, none⟩ = some (.int .u8 z)) :
    (convert 111 9 (.slice (some ⟨g, 0, none⟩) 1 1)).run Tryz.prog w = .ok (.string ⟨⟨[b]⟩⟩) w := by
  have := run_convert_bytes_back (P := Tryz.prog) w 111 9 5 ⟨g, 0, none⟩ 1 [b] Tryz.underlying111 Tryz.underlying5 Tryz.underlying9 (by
    intro j hj
    have : j = 0 := by simp at hj; omega
    subst this
    rw [add_off, Nat.zero_add, h, hz]; rfl)
  simpa using this
theorem conv_new (b : UInt8) (z : Int) (hz : z = (b.toNat : Int)) (w : World) :
    (convert 111 9 (.slice (some ⟨w.heap.size, 0, none⟩) 1 1)).run Tryz.prog (w.alloc (.cells #[.int .u8 z] 5)) = .ok (.string ⟨⟨[b]⟩⟩) (w.alloc (.cells #[.int .u8 z] 5)) :=
  conv_byte b z hz _ _ (cell_blk (blk_new w _) 0)
theorem dig (d : Nat) (h : d < 10) : (48 + (d : Int)) = ((UInt8.ofNat (48 + d)).toNat : Int) := by
  rw [UInt8.toNat_ofNat']; omega

set_option maxRecDepth 100000 in
set_option maxHeartbeats 400000 in
theorem l1Num_c (n : Nat) : ∀ (k : Nat) (w : World), k ≤ n → k < 9223372036854775808 →
    Calls Tryz.prog 73 #[.int .i64 k] w fun e w' => e = .returned (.string ⟨⟨Go.Lib.decDigits k⟩⟩) ∧ Below w.heap.size w w' := by
  induction n with
  | zero =>
    intro k w hk hm
    have h10 : (k : Int) < 10 := by omega
    obtain ⟨b, hb⟩ : ∃ b : UInt8, b = UInt8.ofNat (48 + k) := ⟨_, rfl⟩
    have hz : (48 + (k : Int)) = (b.toNat : Int) := by rw [hb]; exact dig k (by omega)
    have hcv := fun w => conv_new b _ hz w
    have HD : Hid (Go.Lib.decDigits k = [b]) := by unfold Hid; rw [Go.Lib.decDigits, dif_pos (by omega), hb]
    clear hb hz
    go_enter Tryz.func73, Tryz.ntmps73
    go_wp2
    go_ret
    exact ⟨by rw [HD.out]; rfl, (Below.refl _ _).alloc (Nat.le_refl _) _⟩
  | succ n ih =>
    intro k w hk hm
    by_cases h10 : (k : Int) < 10
    · obtain ⟨b, hb⟩ : ∃ b : UInt8, b = UInt8.ofNat (48 + k) := ⟨_, rfl⟩
      have hz : (48 + (k : Int)) = (b.toNat : Int) := by rw [hb]; exact dig k (by omega)
      have hcv := fun w => conv_new b _ hz w
      have HD : Hid (Go.Lib.decDigits k = [b]) := by unfold Hid; rw [Go.Lib.decDigits, dif_pos (by omega), hb]
      clear hb hz
      go_enter Tryz.func73, Tryz.ntmps73
      go_wp2
      go_ret
      exact ⟨by rw [HD.out]; rfl, (Below.refl _ _).alloc (Nat.le_refl _) _⟩
    · obtain ⟨q, hq⟩ : ∃ q : Nat, q = k / 10 := ⟨_, rfl⟩
      obtain ⟨d, hd⟩ : ∃ q : Nat, q = k % 10 := ⟨_, rfl⟩
      obtain ⟨b, hb⟩ : ∃ b : UInt8, b = UInt8.ofNat (48 + d) := ⟨_, rfl⟩
      have hd10 : d < 10 := by omega
      have hq63 : q < 9223372036854775808 := by omega
      have hz : (48 + (d : Int)) = (b.toNat : Int) := by rw [hb]; exact dig d hd10
      obtain ⟨bs, hbs⟩ : ∃ bs : ByteArray, bs = ⟨⟨[b]⟩⟩ := ⟨_, rfl⟩
      obtain ⟨ds, hds⟩ : ∃ bs : ByteArray, bs = ⟨⟨Go.Lib.decDigits q⟩⟩ := ⟨_, rfl⟩
      have hl1 : bs.size = 1 := by rw [hbs]; rfl
      have hl2 : ds.size ≤ 20 := by rw [hds]; show (Go.Lib.decDigits q).length ≤ 20; rw [Go.Lib.decDigits_length]; exact Go.Lib.nDigits_le20 q (by omega)
      have hcv := fun w => conv_new b _ hz w
      have hcb := fun w g => conv_byte b _ hz w g
      have hcw := hcb (w.alloc (.cells #[.int .u8 (48 + (d : Int))] 5)).drew w.heap.size (cell_blk (blk_new w _) 0)
      have HD : Hid ((⟨⟨Go.Lib.decDigits k⟩⟩ : ByteArray) = ds ++ bs) := by
        unfold Hid; rw [Go.Lib.decDigits, dif_neg (by omega), hds, hbs, hb, hd, hq]; rfl
      have HIH := Lib.hid (fun w => ih q w (by omega) hq63)
      have hw1 : IntKind.i64.wrap ((k : Int) / 10) = (q : Int) := by rw [show (k : Int) / 10 = (q : Int) by omega, IntKind.wrap_i64]; omega
      have hw3 : IntKind.i64.wrap (48 + (d : Int)) = 48 + (d : Int) := by rw [IntKind.wrap_i64]; omega
      have hw4 : IntKind.u8.wrap (48 + (d : Int)) = 48 + (d : Int) := by rw [IntKind.wrap_u8]; omega
      have hw2 : (k : Int).tmod 10 = (d : Int) := by rw [Int.tmod_eq_emod_of_nonneg (by omega)]; omega
      rw [← hbs] at hcv hcb hcw
      rw [← hds] at HIH
      have HCB := Lib.hid hcb
      clear ih hcb hb hq hd hz hbs hds
      go_enter Tryz.func73, Tryz.ntmps73
      go_wp2
      go_region_with (go_at_call 73; refine (HIH.out _).mono ?_; rintro e w1 ⟨rfl, hB⟩; first | (have hcx : w1.cell? ⟨w.heap.size, 0, none⟩ = some (.int .u8 (48 + (d : Int))) := (hB.cell (p := ⟨w.heap.size, 0, none⟩) (by simp)).trans (cell_blk (blk_new w.drew (.cells #[.int .u8 (48 + (d : Int))] 5)) 0); have hcy := HCB.out w1 w.heap.size hcx) | skip)
      all_goals go_wp2
      all_goals go_ret
      all_goals refine ⟨by rw [HD.out]; rfl, ?_⟩
      · exact ((Below.refl w.heap.size w).drew.trans hB).alloc hB.size _
      · exact ((Below.refl w.heap.size w).drew.alloc (Nat.le_refl _) _).trans (hB.mono (by simp))
      · exact ((Below.refl w.heap.size w).alloc (Nat.le_refl _) _).drew.trans (hB.mono (by simp))

theorem l1Int_c (n : Int) (w : World) (h0 : -1000000000 ≤ n) (h1 : n ≤ 1000000000) :
    Calls Tryz.prog 93 #[.int .i64 n] w fun e w' => e = .returned (.string ⟨⟨Go.Lib.itoa n⟩⟩) ∧ Below w.heap.size w w' := by
  by_cases hn : n < 0
  · obtain ⟨q, hq⟩ : ∃ q : Nat, n = -(q : Int) := ⟨n.natAbs, by omega⟩
    subst hq
    obtain ⟨ds, hds⟩ : ∃ bs : ByteArray, bs = ⟨⟨Go.Lib.decDigits q⟩⟩ := ⟨_, rfl⟩
    have hl2 : ds.size ≤ 20 := by rw [hds]; show (Go.Lib.decDigits q).length ≤ 20; rw [Go.Lib.decDigits_length]; exact Go.Lib.nDigits_le20 q (by omega)
    have HD : Hid ((⟨⟨Go.Lib.itoa (-(q : Int))⟩⟩ : ByteArray) = (⟨#[45]⟩ : ByteArray) ++ ds) := by unfold Hid; rw [Go.Lib.itoa_neg q (by omega), hds]; rfl
    have HC := Lib.hid (l1Num_c q q w (Nat.le_refl _) (by omega))
    have hw1 : IntKind.i64.wrap (q : Int) = (q : Int) := by rw [IntKind.wrap_i64]; omega
    rw [← hds] at HC
    clear hds
    go_enter Tryz.func93, Tryz.ntmps93
    go_wp2_with (go_at_call 73; refine HC.out.mono ?_; rintro e w1 ⟨rfl, hB⟩)
    go_ret
    exact ⟨by rw [HD.out]; rfl, hB⟩
  · obtain ⟨q, rfl⟩ : ∃ q : Nat, n = (q : Int) := ⟨n.toNat, by omega⟩
    have HD : Hid (Go.Lib.itoa (q : Int) = Go.Lib.decDigits q) := Go.Lib.itoa_nonneg q
    have HC := Lib.hid (l1Num_c q q w (Nat.le_refl _) (by omega))
    have hn' : decide ((q : Int) < 0) = false := by simp
    go_enter Tryz.func93, Tryz.ntmps93
    go_wp2_with (go_at_call 73; refine HC.out.mono ?_; rintro e w1 ⟨rfl, hB⟩)
    go_ret
    exact ⟨by rw [HD.out]; rfl, hB⟩

theorem esc_take (s : ByteArray) (k : Nat) (h : k < s.size) : esc (s.data.toList.take (k + 1)) = esc (s.data.toList.take k) ++ (if s[k] = 34 then [92, 34] else if s[k] = 92 then [92, 92] else [s[k]]) := by
  have h' : k < s.data.toList.length := by simpa using h
  rw [List.take_succ_eq_append_getElem h']
  unfold esc
  rw [List.flatMap_append]
  simp [List.flatMap_cons]
  rfl
theorem ext1 (s : ByteArray) (k : Nat) (h : k < s.size) : (s.extract k (k + 1)).data.toList = [s[k]] := by
  rw [ByteArray.data_extract, Array.toList_extract]
  have := okStr_step s k h
  simp only [List.extract]
  rw [this]; simp
theorem cat_list (a b : ByteArray) : (a ++ b).data.toList = a.data.toList ++ b.data.toList := by simp [ByteArray.data_append]
theorem cat_size (a b : ByteArray) : (a ++ b).size = a.size + b.size := by simp
theorem ba_ext (a b : ByteArray) (h : a.data.toList = b.data.toList) : a = b := by
  cases a; cases b; simp only [ByteArray.mk.injEq]; exact Array.ext' h
theorem quote_step (s o : ByteArray) (k : Nat) (h : k < s.size) (hos : o.size ≤ 2 * k + 1) (HO : Hid (o.data.toList = 34 :: esc (s.data.toList.take k))) (p : ByteArray) (hp : p.size ≤ 2) (hpl : p.data.toList = if s[k] = 34 then [92, 34] else if s[k] = 92 then [92, 92] else [s[k]]) :
    (o ++ p).size ≤ 2 * (k + 1) + 1 ∧ Hid ((o ++ p).data.toList = 34 :: esc (s.data.toList.take (k + 1))) := by
  refine ⟨by rw [cat_size]; omega, ?_⟩
  unfold Hid
  rw [cat_list, HO.out, esc_take s k h, hpl]; rfl

set_option maxHeartbeats 400000 in
theorem l1Quote_c (s : ByteArray) (w : World) (hs : s.size ≤ 1099511627776) :
    Calls Tryz.prog 94 #[.string s] w fun e w' => e = .returned (.string ⟨⟨quote s⟩⟩) ∧ w = w' := by
  go_enter Tryz.func94, Tryz.ntmps94
  go_wp2
  go_loop [3, 4] (fun out i => ∃ k : Nat, k ≤ s.size ∧ i = .int .i64 k ∧ ∃ o : ByteArray, out = .string o ∧ o.size ≤ 2 * k + 1 ∧ Hid (o.data.toList = 34 :: esc (s.data.toList.take k))) (fun out i => s.size - (intOf i).toNat)
  case atStart => exact ⟨0, Nat.zero_le _, rfl, _, rfl, by decide, rfl⟩
  case round =>
    obtain ⟨k, hk, rfl, o, rfl, hos, HO⟩ := hrel
    by_cases hlt : k < s.size
    · obtain ⟨x, hx⟩ : ∃ x, s.extract k (k + 1) = x := ⟨_, rfl⟩
      have hxl : x.data.toList = [s[k]] := by rw [← hx]; exact ext1 s k hlt
      have hxs : x.size = 1 := by show x.data.toList.length = 1; rw [hxl]; rfl
      have HX := Lib.hid hxl
      clear hxl
      by_cases hc : s[k].toNat = 34
      · have HQ := Lib.hid (quote_step s o k hlt hos HO ((⟨#[92]⟩ : ByteArray) ++ x) (by rw [cat_size, hxs]; decide) (by
          have : s[k] = 34 := UInt8.toNat_inj.1 hc
          rw [cat_list, HX.out, if_pos this, this]; rfl))
        go_wp2
        go_round
        case rel => exact ⟨k + 1, hlt, rfl, o ++ (⟨#[92]⟩ ++ x), by rw [ByteArray.append_assoc], HQ.out⟩
        case measure => simp [intOf]; omega
      · by_cases hc2 : s[k].toNat = 92
        · have HQ := Lib.hid (quote_step s o k hlt hos HO ((⟨#[92]⟩ : ByteArray) ++ x) (by rw [cat_size, hxs]; decide) (by
            have : s[k] = 92 := UInt8.toNat_inj.1 hc2
            rw [cat_list, HX.out, if_neg (by rw [this]; decide), if_pos this, this]; rfl))
          go_wp2
          go_round
          case rel => exact ⟨k + 1, hlt, rfl, o ++ (⟨#[92]⟩ ++ x), by rw [ByteArray.append_assoc], HQ.out⟩
          case measure => simp [intOf]; omega
        · have HQ := Lib.hid (quote_step s o k hlt hos HO x (by omega) (by
            rw [HX.out, if_neg (fun e => hc (by rw [e]; rfl)), if_neg (fun e => hc2 (by rw [e]; rfl))]))
          have b1 : ((s[k].toNat : Int) == 34) = false := by simp; omega
          have b2 : ((s[k].toNat : Int) == 92) = false := by simp; omega
          go_wp2
          go_round
          case rel => exact ⟨k + 1, hlt, rfl, o ++ x, rfl, HQ.out⟩
          case measure => simp [intOf]; omega
    · have HE : Hid ((⟨⟨quote s⟩⟩ : ByteArray) = o ++ ⟨#[34]⟩) := by
        refine ba_ext _ _ ?_
        rw [cat_list, HO.out, List.take_of_length_le (by simp; omega)]; rfl
      go_wp2
      go_ret
      exact ⟨by rw [HE.out]; rfl, rfl⟩
end Go.Proofs.YtbldchemgkfdcaaGreatDoor
