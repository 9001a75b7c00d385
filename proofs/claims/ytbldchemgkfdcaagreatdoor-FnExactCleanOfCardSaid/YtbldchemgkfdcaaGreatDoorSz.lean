/- laws: szNode, toNode, eqNode. -/
import Derived.Test.YtbldchemgkfdcaaGreatDoorValue
namespace Go.Proofs.YtbldchemgkfdcaaGreatDoor
open Go.RowKit

def N.sz (x : N) : Int := x.text.size + x.name.size
/-- laws.szNode -/
def szN (x : N) (left : Int) : Int := if left - x.text.size < 0 then -1 else if left - x.text.size - x.name.size < 0 then -1 else left - x.text.size - x.name.size
theorem szNode_c (x : N) (left : Int) (w : World) (h0 : 0 ≤ left) (h1 : left ≤ 1048576) (ht : x.text.size ≤ 140737488355328) (hn : x.name.size ≤ 140737488355328) :
    Calls Tryz.prog 62 #[.agg #[.int .i64 x.kind, .int .i64 x.num, .string x.text, .string x.name, .int .i64 x.up], .int .i64 left] w fun e w' => e = .returned (.int .i64 (szN x left)) ∧ Below w.heap.size w w' := by
  have hw1 : IntKind.i64.wrap (left - (x.text.size : Int)) = left - x.text.size := by rw [IntKind.wrap_i64]; omega
  have HB := Lib.hid ((Below.refl w.heap.size w).alloc (Nat.le_refl _) (.cells #[.int .i64 x.kind, .int .i64 x.num, .string x.text, .string x.name, .int .i64 x.up] 95))
  by_cases hA : left - (x.text.size : Int) < 0
  · have HV : Hid (szN x left = -1) := by unfold Hid szN; rw [if_pos hA]
    go_enter Tryz.func62, Tryz.ntmps62
    go_wp2
    go_ret
    exact ⟨by rw [HV.out]; rfl, HB.out⟩
  · have hA' : decide (left - (x.text.size : Int) < 0) = false := by simpa using hA
    have hw2 : IntKind.i64.wrap (left - (x.text.size : Int) - (x.name.size : Int)) = left - x.text.size - x.name.size := by rw [IntKind.wrap_i64]; omega
    by_cases hB : left - (x.text.size : Int) - (x.name.size : Int) < 0
    · have HV : Hid (szN x left = -1) := by unfold Hid szN; rw [if_neg hA, if_pos hB]
      go_enter Tryz.func62, Tryz.ntmps62
      go_wp2
      go_ret
      exact ⟨by rw [HV.out]; rfl, HB.out⟩
    · have hB' : decide (left - (x.text.size : Int) - (x.name.size : Int) < 0) = false := by simpa using hB
      have HV : Hid (szN x left = left - x.text.size - x.name.size) := by unfold Hid szN; rw [if_neg hA, if_neg hB]
      go_enter Tryz.func62, Tryz.ntmps62
      go_wp2
      go_ret
      exact ⟨by rw [HV.out]; rfl, HB.out⟩
theorem szN_le (x : N) (left : Int) (h : 0 ≤ left) : szN x left ≤ left := by unfold szN; split <;> (try split) <;> omega
def szFold : List N → Int → Int
  | [], left => left
  | x :: xs, left => if szN x left < 0 then -1 else szFold xs (szN x left)
/-- laws.szNodeS, szValue -/
def szNs (l : List N) (left : Int) : Int := if left - l.length < 0 then -1 else szFold l (left - l.length)
theorem szFold_drop (l : List N) (k : Nat) (h : k < l.length) (left : Int) : szFold (l.drop k) left = if szN l[k] left < 0 then -1 else szFold (l.drop (k + 1)) (szN l[k] left) := by
  rw [List.drop_eq_getElem_cons h]; rfl

set_option maxRecDepth 100000 in
set_option maxHeartbeats 1000000 in
theorem szNodeS_c (l : List N) (v : Value) (left : Int) (w : World) (S : Nat → Prop) (h0 : 0 ≤ left) (h1 : left ≤ 1048576) (hl : l.length ≤ 140737488355328) (hsz : ∀ x ∈ l, x.text.size ≤ 140737488355328 ∧ x.name.size ≤ 140737488355328) (h : Nods w S v l) (hS : ∀ b, S b → b < w.heap.size) :
    Calls Tryz.prog 31 #[v, .int .i64 left] w fun e w' => e = .returned (.int .i64 (szNs l left)) ∧ Below w.heap.size w w' := by
  obtain ⟨a, c, rfl⟩ := Row.form h
  have HR := Lib.hid h; have HS := Lib.hid hS; have Hsz := Lib.hid hsz
  clear h hS hsz
  have hw1 : IntKind.i64.wrap (left - (l.length : Int)) = left - l.length := by rw [IntKind.wrap_i64]; omega
  by_cases hA : left - (l.length : Int) < 0
  · have HV : Hid (szNs l left = -1) := by unfold Hid szNs; rw [if_pos hA]
    go_enter Tryz.func31, Tryz.ntmps31
    go_wp2
    go_ret
    exact ⟨by rw [HV.out]; rfl, Below.refl _ _⟩
  · have hA' : decide (left - (l.length : Int) < 0) = false := by simpa using hA
    have HV : Hid (szNs l left = szFold l (left - l.length)) := by unfold Hid szNs; rw [if_neg hA]
    go_enter Tryz.func31, Tryz.ntmps31
    go_wp2
    go_loopg [1, 5] l.length (fun gh s1 i wr => ∃ (k : Nat) (cur : Int), k ≤ l.length ∧ gh = l.length - k ∧ i = .int .i64 k ∧ s1 = .int .i64 cur ∧ 0 ≤ cur ∧ cur ≤ 1048576 ∧ Hid (szNs l left = szFold (l.drop k) cur) ∧ Hid (Below w.heap.size w wr))
    case atStart => exact ⟨0, left - l.length, Nat.zero_le _, rfl, rfl, rfl, by omega, by omega, HV, Below.refl _ _⟩
    case round =>
      obtain ⟨k, cur, hk, rfl, rfl, rfl, hc0, hc1, HF, HBr⟩ := hrel
      have hsr := HBr.out.size
      by_cases hlt : k < l.length
      · obtain ⟨g, off, rfl, hSg, x0, x1, x2, x3, x4⟩ := Nods.at HR.out hlt
        have hgb := HS.out g hSg
        have y0 := (HBr.out.cell (p := ⟨g, off + k * 5, none⟩) hgb).trans x0
        have y1 := (HBr.out.cell (p := ⟨g, off + k * 5 + 1, none⟩) hgb).trans x1
        have y2 := (HBr.out.cell (p := ⟨g, off + k * 5 + 2, none⟩) hgb).trans x2
        have y3 := (HBr.out.cell (p := ⟨g, off + k * 5 + 3, none⟩) hgb).trans x3
        have y4 := (HBr.out.cell (p := ⟨g, off + k * 5 + 4, none⟩) hgb).trans x4
        clear x0 x1 x2 x3 x4
        have hs := Hsz.out _ (List.getElem_mem hlt)
        have HD := Lib.hid (szFold_drop l k hlt cur)
        have HC := Lib.hid (szNode_c l[k] cur wr hc0 hc1 hs.1 hs.2)
        have hle := szN_le l[k] cur hc0
        obtain ⟨r, hr⟩ : ∃ r, szN l[k] cur = r := ⟨_, rfl⟩
        rw [hr] at HC HD hle
        by_cases hneg : r < 0
        · have HN : Hid (szNs l left = -1) := by rw [HF.out, HD.out, if_pos hneg]; rfl
          go_wp2_with (go_at_call 62; refine HC.out.mono ?_; rintro e w1 ⟨rfl, hB⟩)
          go_ret
          exact ⟨by rw [HN.out]; rfl, HBr.out.trans (hB.mono hsr)⟩
        · have hneg' : decide (r < 0) = false := by simpa using hneg
          go_wp2_with (go_at_call 62; refine HC.out.mono ?_; rintro e w1 ⟨rfl, hB⟩)
          go_roundg (l.length - (k + 1))
          case measure => omega
          case rel => exact ⟨k + 1, r, hlt, rfl, by go_num, rfl, by omega, by omega, by unfold Hid; rw [HF.out, HD.out, if_neg (by omega)], HBr.out.trans (hB.mono hsr)⟩
      · obtain rfl : k = l.length := by omega
        have HN : Hid (szNs l left = cur) := by unfold Hid; rw [HF.out, List.drop_length]; rfl
        go_wp2
        go_ret
        exact ⟨by rw [HN.out]; rfl, HBr.out⟩

theorem szValue_c (l : List N) (v : Value) (left : Int) (w : World) (S : Nat → Prop) (h0 : 0 ≤ left) (h1 : left ≤ 1048576) (hl : l.length ≤ 140737488355328) (hsz : ∀ x ∈ l, x.text.size ≤ 140737488355328 ∧ x.name.size ≤ 140737488355328) (h : Nods w S v l) (hS : ∀ b, S b → b < w.heap.size) :
    Calls Tryz.prog 8 #[.agg #[v], .int .i64 left] w fun e w' => e = .returned (.int .i64 (if szNs l left < 0 then -1 else szNs l left)) ∧ Below w.heap.size w w' := by
  have HB0 := Lib.hid ((Below.refl w.heap.size w).alloc (Nat.le_refl _) (.cells #[v] 24))
  have HC := Lib.hid (szNodeS_c l v left (w.alloc (.cells #[v] 24)) S h0 h1 hl hsz (Row.frame h (Below.fr HB0.out hS) HB0.out.size) (fun b hb => by have := hS b hb; simp; omega))
  obtain ⟨a, c, rfl⟩ := Row.form h
  clear h hS hsz
  obtain ⟨r, hr⟩ : ∃ r, szNs l left = r := ⟨_, rfl⟩
  rw [hr] at HC ⊢
  by_cases hneg : r < 0
  · go_enter Tryz.func8, Tryz.ntmps8
    go_wp2_with (go_at_call 31; refine HC.out.mono ?_; rintro e w1 ⟨rfl, hB⟩)
    go_ret
    exact ⟨rfl, HB0.out.trans (hB.mono (by simp))⟩
  · have hneg' : decide (r < 0) = false := by simpa using hneg
    go_enter Tryz.func8, Tryz.ntmps8
    go_wp2_with (go_at_call 31; refine HC.out.mono ?_; rintro e w1 ⟨rfl, hB⟩)
    go_ret
    exact ⟨rfl, HB0.out.trans (hB.mono (by simp))⟩

set_option maxRecDepth 100000 in
theorem toNode_c (x : N) (w : World) :
    Calls Tryz.prog 67 #[.agg #[.int .i64 x.kind, .int .i64 x.num, .string x.text, .string x.name, .int .i64 x.up]] w fun e w' => e = .returned (.agg #[.int .i64 x.kind, .int .i64 x.num, .string x.text, .string x.name, .int .i64 x.up]) ∧ Below w.heap.size w w' := by
  go_enter Tryz.func67, Tryz.ntmps67
  go_wp2
  refine bodyPost_ret (v := .agg #[.int .i64 x.kind, .int .i64 x.num, .string x.text, .string x.name, .int .i64 x.up]) (by simp [results, Tryz.results67, go_sem]) rfl ⟨rfl, ?_⟩
  exact (((Below.refl _ _).alloc (Nat.le_refl _) _).alloc (by simp) _).alloc (by simp; omega) _
end Go.Proofs.YtbldchemgkfdcaaGreatDoor
