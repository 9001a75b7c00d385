/- Plain words: the paths of a tree; impl.escaped. -/
import Derived.Test.YtbldchemgkfdcaaGreatDoorWrite
namespace Go.Proofs.YtbldchemgkfdcaaGreatDoor
open Go.RowKit

/-- a name as it stands in a path -/
def escP (s : ByteArray) : List UInt8 := repl 126 47 [126, 48] [126, 49] s.data.toList
theorem escP_len (s : ByteArray) : (escP s).length ≤ 2 * s.size := by
  have h1 := repl_len 126 47 126 48 126 49 (by decide) s.data.toList
  have h2 := cn_le 126 47 (by decide) s.data.toList
  have h3 : s.data.toList.length = s.size := rfl
  unfold escP; omega
/-- the name of part i as it stands in a path -/
def pname (kind : Int) (names : List ByteArray) (i : Nat) : List UInt8 := if kind = 7 then escP (names.getD i ⟨#[]⟩) else Go.Lib.decDigits i
mutual
def T.paths : T → List UInt8 → List (List UInt8)
  | .mk kind _ _ names kids, p => p :: T.pathss kind names kids 0 p
def T.pathss (kind : Int) (names : List ByteArray) : List T → Nat → List UInt8 → List (List UInt8)
  | [], _, _ => []
  | t :: ts, i, p => t.paths (p ++ 47 :: pname kind names i) ++ T.pathss kind names ts (i + 1) p
end
theorem T.pathss_take (kind : Int) (names : List ByteArray) : ∀ (l : List T) (i k : Nat) (p : List UInt8) (h : k < l.length),
    T.pathss kind names (l.take (k + 1)) i p = T.pathss kind names (l.take k) i p ++ (l[k]).paths (p ++ 47 :: pname kind names (i + k))
  | [], _, _, _, h => by simp at h
  | t :: ts, i, 0, p, _ => by simp [T.pathss]
  | t :: ts, i, k + 1, p, h => by
    have := T.pathss_take kind names ts (i + 1) k p (by simpa using h)
    simp only [List.take_succ_cons, T.pathss, List.getElem_cons_succ, this, List.append_assoc]
    rw [show i + 1 + k = i + (k + 1) by omega]
mutual
theorem T.paths_len : (t : T) → (p : List UInt8) → (t.paths p).length = t.cnt
  | .mk kind _ _ names kids, p => by simp only [T.paths, T.cnt, List.length_cons]; rw [T.pathss_len]
theorem T.pathss_len : (kind : Int) → (names : List ByteArray) → (l : List T) → (i : Nat) → (p : List UInt8) → (T.pathss kind names l i p).length = T.cnts l
  | _, _, [], _, _ => by simp [T.pathss, T.cnts]
  | kind, names, t :: ts, i, p => by simp only [T.pathss, T.cnts, List.length_append]; rw [T.paths_len, T.pathss_len]
end
def strv (l : List UInt8) : Value := .string ⟨⟨l⟩⟩

set_option maxRecDepth 100000 in
set_option maxHeartbeats 1000000 in
theorem escaped_c (s : ByteArray) (w : World) (hs : s.size ≤ 1000000) :
    Calls Tryz.prog 76 #[.string s] w fun e w' => e = .returned (.string ⟨⟨escP s⟩⟩) ∧ Below w.heap.size w w' := by
  have HRc := Lib.hid (fun (b : Nat) (w1 : World) (hB : w.heap.size + 1 ≤ w1.heap.size) (hR : NewR (w.heap.size + 1) b 126 47 126 48 126 49 w1) => replace_c (w.heap.size + 1) b s 126 47 126 48 126 49 (by decide) w1 hB (by omega) hR)
  have HB0 := Lib.hid ((Below.refl w.heap.size w).alloc (Nat.le_refl _) (.cells #[.string ⟨⟨[126]⟩⟩, .string ⟨⟨[126, 48]⟩⟩, .string ⟨⟨[47]⟩⟩, .string ⟨⟨[126, 49]⟩⟩] 9))
  have HN := Lib.hid (newR_c w.heap.size 4 126 47 126 48 126 49 (w.alloc (.cells #[.string ⟨⟨[126]⟩⟩, .string ⟨⟨[126, 48]⟩⟩, .string ⟨⟨[47]⟩⟩, .string ⟨⟨[126, 49]⟩⟩] 9)) (cell_blk (blk_new w _) 0) (cell_blk (blk_new w _) 1) (cell_blk (blk_new w _) 2) (cell_blk (blk_new w _) 3))
  go_enter Tryz.func76, Tryz.ntmps76
  go_wp2_with (first | (go_at_call 101; refine HN.out.mono ?_; rintro e w1 ⟨b, rfl, hR, hI⟩; have HX := Lib.hid (HB0.out.trans (hI.mono (by simp))); have HR := Lib.hid hR; have HI := Lib.hid hI; clear hR hI) | (go_at_call 102; refine (HRc.out b _ (by have := HI.out.size; simpa using this) (by simpa using HR.out)).mono ?_; rintro e w2 ⟨rfl, hI2⟩))
  go_ret
  exact ⟨rfl, HX.out.trans (hI2.mono (by omega))⟩
end Go.Proofs.YtbldchemgkfdcaaGreatDoor
