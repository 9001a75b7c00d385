/- spec.l3Text. -/
import Derived.Test.YtbldchemgkfdcaaGreatDoorPathP
namespace Go.Proofs.YtbldchemgkfdcaaGreatDoor
open Go.RowKit

/-- the path of names -/
def l3T (l : List ByteArray) : List UInt8 := l.flatMap fun s => 47 :: escP s
theorem l3T_append (a b : List ByteArray) : l3T (a ++ b) = l3T a ++ l3T b := by simp [l3T]
theorem l3T_one (s : ByteArray) : l3T [s] = 47 :: escP s := by simp [l3T]
theorem extract_one (s : ByteArray) (k : Nat) (h : k < s.size) : (s.extract k (k + 1)).data.toList = [s[k]] := by
  rw [Lib.extract_data, List.drop_eq_getElem_cons (by simpa using h), Nat.add_sub_cancel_left]
  rfl
theorem drop_at {α : Type} (l : List α) (k : Nat) (h : k < l.length) : l.take (k + 1) = l.take k ++ [l[k]] := List.take_succ_eq_append_getElem h

set_option maxRecDepth 100000 in
set_option maxHeartbeats 1000000 in
theorem l3Text_c (l : List ByteArray) (v : Value) (w : World) (S : Nat → Prop) (h : Strs w S v l) (hl : l.length ≤ 1099511627776) (hsz : (l3T l).length ≤ 1099511627776) :
    Calls Tryz.prog 72 #[v] w fun e w' => e = .returned (.string ⟨⟨l3T l⟩⟩) ∧ w = w' := by
  obtain ⟨a, c, rfl⟩ := Row.form h
  have HR := Lib.hid h
  clear h
  go_enter Tryz.func72, Tryz.ntmps72
  go_wp2
  go_loop [3, 9] (fun s i => ∃ (k : Nat) (x : ByteArray), k ≤ l.length ∧ i = .int .i64 k ∧ s = .string x ∧ Hid (x.data.toList = l3T (l.take k))) (fun _ i => l.length - (intOf i).toNat)
  case atStart => exact ⟨0, ⟨#[]⟩, Nat.zero_le _, rfl, rfl, rfl⟩
  case round =>
    obtain ⟨k, x, hk, rfl, rfl, HX⟩ := hrel
    by_cases hlt : k < l.length
    · obtain ⟨g, off, hak, hSg, hcell⟩ := HR.out.at hlt
      subst hak
      have HG := Lib.hid (show l.getD k ⟨#[]⟩ = l[k] by simp [hlt])
      rw [HG.out] at hcell
      have HD := Lib.hid (drop_at l k hlt)
      obtain ⟨nm, hnm⟩ : ∃ nm, l[k] = nm := ⟨_, rfl⟩
      rw [hnm] at hcell HD
      have HL : Hid (x.size + 1 + (escP nm).length ≤ (l3T l).length) := by
        unfold Hid
        have e1 : (l3T l).length = (l3T (l.take (k + 1))).length + (l3T (l.drop (k + 1))).length := by rw [← List.length_append, ← l3T_append, List.take_append_drop]
        rw [HD.out, l3T_append, l3T_one, List.length_append, List.length_cons, ← HX.out] at e1
        have e2 : x.data.toList.length = x.size := rfl
        omega
      have HP := Lib.hid (fun (j : Nat) => (by
        conv => rhs; rw [show escP nm = repl 126 47 [126, 48] [126, 49] (nm.data.toList.take j ++ nm.data.toList.drop j) by rw [List.take_append_drop]; rfl, repl_append, List.length_append]
        omega : (repl 126 47 [126, 48] [126, 49] (nm.data.toList.take j)).length ≤ (escP nm).length))
      have hns : nm.size ≤ 1099511627776 := by
        have h1 := repl_len 126 47 126 48 126 49 (by decide) nm.data.toList
        have h2 : nm.data.toList.length = nm.size := rfl
        have h3 : (escP nm).length = (repl 126 47 [126, 48] [126, 49] nm.data.toList).length := rfl
        have := HL.out; omega
      have hxs : x.size + 1 ≤ 1099511627776 := by have := HL.out; omega
      clear hnm
      go_wp2
      go_loop [3, 6] (fun s j => ∃ (jj : Nat) (y : ByteArray), jj ≤ nm.size ∧ j = .int .i64 jj ∧ s = .string y ∧ y.size ≤ 1099511627776 ∧ Hid (y.data.toList = x.data.toList ++ 47 :: repl 126 47 [126, 48] [126, 49] (nm.data.toList.take jj))) (fun _ j => nm.size - (intOf j).toNat)
      case atStart => exact ⟨0, x ++ ⟨#[47]⟩, Nat.zero_le _, rfl, rfl, by simp [ByteArray.size_append]; have : (⟨#[47]⟩ : ByteArray).size = 1 := rfl; omega, by simp [Hid, repl]⟩
      case round =>
        obtain ⟨jj, y, hjj, rfl, rfl, hys, HY⟩ := hrel
        by_cases hjl : jj < nm.size
        · have HT := Lib.hid (take_snoc' nm jj hjl)
          have HN : Hid ((x.data.toList ++ 47 :: repl 126 47 [126, 48] [126, 49] (nm.data.toList.take (jj + 1))) = y.data.toList ++ rp 126 47 [126, 48] [126, 49] nm[jj]) := by
            unfold Hid; rw [HT.out, repl_append, repl_one, HY.out]; simp
          have HZ : Hid (y.size + (rp 126 47 [126, 48] [126, 49] nm[jj]).length ≤ 1099511627776) := by
            have e1 := congrArg List.length HN.out
            have e2 := HP.out (jj + 1)
            have e3 := HL.out
            have e4 : x.data.toList.length = x.size := rfl
            have e5 : y.data.toList.length = y.size := rfl
            rw [List.length_append, List.length_append, List.length_cons] at e1
            unfold Hid; omega
          have hb := nm[jj].toNat_lt
          by_cases e1 : nm[jj] = 126
          · have HE : Hid (rp 126 47 [126, 48] [126, 49] nm[jj] = [126, 48]) := by unfold Hid rp; rw [if_pos e1]
            have hz : y.size + 2 ≤ 1099511627776 := by have := HZ.out; rw [HE.out] at this; exact this
            have t1 : (nm[jj].toNat : Int) = 126 := by rw [e1]; rfl
            clear e1
            go_wp2
            go_round
            case rel => exact ⟨jj + 1, y ++ ⟨#[126, 48]⟩, hjl, by go_num, rfl, by rw [ByteArray.size_append]; exact hz, by unfold Hid; rw [HN.out, HE.out]; simp⟩
            case measure => simp [intOf]; omega
          · by_cases e2 : nm[jj] = 47
            · have HE : Hid (rp 126 47 [126, 48] [126, 49] nm[jj] = [126, 49]) := by unfold Hid rp; rw [if_neg e1, if_pos e2]
              have hz : y.size + 2 ≤ 1099511627776 := by have := HZ.out; rw [HE.out] at this; exact this
              have t1 : (nm[jj].toNat : Int) = 47 := by rw [e2]; rfl
              clear e1 e2
              go_wp2
              go_round
              case rel => exact ⟨jj + 1, y ++ ⟨#[126, 49]⟩, hjl, by go_num, rfl, by rw [ByteArray.size_append]; exact hz, by unfold Hid; rw [HN.out, HE.out]; simp⟩
              case measure => simp [intOf]; omega
            · have HE : Hid (rp 126 47 [126, 48] [126, 49] nm[jj] = [nm[jj]]) := by unfold Hid rp; rw [if_neg e1, if_neg e2]
              have hz : y.size + 1 ≤ 1099511627776 := by have := HZ.out; rw [HE.out] at this; exact this
              have t1 : ((nm[jj].toNat : Int) == 126) = false := by
                have : ¬ nm[jj].toNat = 126 := fun h => e1 (UInt8.toNat_inj.1 h)
                simp; omega
              have t2 : ((nm[jj].toNat : Int) == 47) = false := by
                have : ¬ nm[jj].toNat = 47 := fun h => e2 (UInt8.toNat_inj.1 h)
                simp; omega
              have HO := Lib.hid (extract_one nm jj hjl)
              have hos : (nm.extract jj (jj + 1)).size = 1 := by
                have := congrArg List.length HO.out
                exact this
              clear e1 e2
              go_wp2
              go_round
              case rel => exact ⟨jj + 1, y ++ nm.extract jj (jj + 1), hjl, by go_num, rfl, by rw [ByteArray.size_append, hos]; exact hz, by unfold Hid; rw [HN.out, HE.out, ← HO.out]; simp⟩
              case measure => simp [intOf]; omega
        · obtain rfl : jj = nm.size := by omega
          go_wp2
          go_round
          case rel => exact ⟨k + 1, y, hlt, by go_num, rfl, by unfold Hid; rw [HY.out, List.take_of_length_le (by simp), HX.out, HD.out, l3T_append, l3T_one]; rfl⟩
          case measure => simp [intOf]; omega
    · obtain rfl : k = l.length := by omega
      have HF : Hid ((⟨⟨l3T l⟩⟩ : ByteArray) = x) := by
        unfold Hid
        have := HX.out
        rw [List.take_length] at this
        rw [← this]
      go_wp2
      go_ret
      exact ⟨by rw [HF.out]; rfl, rfl⟩
end Go.Proofs.YtbldchemgkfdcaaGreatDoor
