/- spec.l1Shape. -/
import Derived.Test.YtbldchemgkfdcaaGreatDoorFlat
import Derived.Test.YtbldchemgkfdcaaGreatDoorShape
import Derived.Deep.OwnRows
import Derived.BigQuiet
namespace Go.Proofs.YtbldchemgkfdcaaGreatDoor
open Go.RowKit

theorem info_int' : (Tryz.prog.info? 3).map (fun i => (i.zero, i.size, i.bytes)) = some (some (.int .i64 0), 1, 8) := by kernel_rfl
theorem info_str' : (Tryz.prog.info? 9).map (fun i => (i.zero, i.size, i.bytes)) = some (some (.string ⟨#[]⟩), 1, 16) := by kernel_rfl
theorem info_bool' : (Tryz.prog.info? 4).map (fun i => (i.zero, i.size, i.bytes)) = some (some (.bool false), 1, 1) := by kernel_rfl

/-- the arrays of l1Shape, and all that came in -/
structure SH (w : World) (n : Nat) (a : Option Addr) (c : Nat) (fD fL fS : Nat → Value) (wr : World) : Prop where
  box : wr.heap[w.heap.size]? = some (.cells #[.slice a n c] 28)
  rD : wr.rowIs (w.heap.size + 1) 3 n fD
  rL : wr.rowIs (w.heap.size + 1 + 1) 9 n fL
  rS : wr.rowIs (w.heap.size + 1 + 1 + 1) 4 n fS
  bl : Below w.heap.size w wr
def fDep (l : List N) (j k : Nat) : Value := .int .i64 (if k < j then dep l k else 0)
def fName (l : List N) (j k : Nat) : Value := .string (lastName l k j)
def fSome (l : List N) (j k : Nat) : Value := .bool (lastKid l k j).isSome
def fOne (l : List N) (j : Nat) (h : Bool) (k : Nat) : Value := if k = j then .int .i64 (if h then 1 else 0) else fDep l j k
theorem fOne_false (l : List N) (j k : Nat) : fDep l j k = fOne l j false k := by
  unfold fOne fDep
  by_cases h : k = j
  · subst h; simp
  · rw [if_neg h]
theorem fDep_next {l : List N} {j : Nat} {d : Int} {h : Bool} (hd : dep l j = d) (k : Nat) : (if k = j then Value.int .i64 d else fOne l j h k) = fDep l (j + 1) k := by
  unfold fOne fDep
  by_cases hk : k = j
  · subst hk; simp [hd]
  · rw [if_neg hk, if_neg hk]
    by_cases h2 : k < j
    · rw [if_pos h2, if_pos (by omega)]
    · rw [if_neg h2, if_neg (by omega)]
theorem fName_same {l : List N} {j q : Nat} (hj : j < l.length) (hu : l[j].up = (q : Int)) (hq : q < j) (h7 : kindAt l q ≠ 7) (k : Nat) : fName l j k = fName l (j + 1) k := by
  unfold fName
  rw [lastName_succ, isKid_iff hj hu hq]
  by_cases hk : k = q
  · subst hk; simp [h7]
  · simp [hk]
theorem fSome_same {l : List N} {j q : Nat} (hj : j < l.length) (hu : l[j].up = (q : Int)) (hq : q < j) (h7 : kindAt l q ≠ 7) (k : Nat) : fSome l j k = fSome l (j + 1) k := by
  unfold fSome
  rw [lastKid_succ, isKid_iff hj hu hq]
  by_cases hk : k = q
  · subst hk; simp [h7]
  · simp [hk]
theorem fName_put {l : List N} {j q : Nat} (hj : j < l.length) (hu : l[j].up = (q : Int)) (hq : q < j) (h7 : kindAt l q = 7) (k : Nat) : (if k = q then Value.string l[j].name else fName l j k) = fName l (j + 1) k := by
  unfold fName
  rw [lastName_succ, isKid_iff hj hu hq]
  by_cases hk : k = q
  · subst hk; simp [h7, nameAt_get hj]
  · simp [hk]
theorem fSome_put {l : List N} {j q : Nat} (hj : j < l.length) (hu : l[j].up = (q : Int)) (hq : q < j) (h7 : kindAt l q = 7) (k : Nat) : (if k = q then Value.bool true else fSome l j k) = fSome l (j + 1) k := by
  unfold fSome
  rw [lastKid_succ, isKid_iff hj hu hq]
  by_cases hk : k = q
  · subst hk; simp [h7]
  · simp [hk]
theorem fOne_first {l : List N} (hl : 0 < l.length) (k : Nat) : fOne l 0 (holdsB l[0].kind) k = fDep l 1 k := by
  unfold fOne fDep
  by_cases h : k = 0
  · subst h; simp [dep_zero hl]
  · rw [if_neg h, if_neg (by omega), if_neg (by omega)]
theorem fName_first (l : List N) (k : Nat) : fName l 0 k = fName l 1 k := by simp [fName, lastName_succ, isKid_zero]
theorem fSome_first (l : List N) (k : Nat) : fSome l 0 k = fSome l 1 k := by simp [fSome, lastKid_succ, isKid_zero]
theorem SH.dep {w wr : World} {n : Nat} {a : Option Addr} {c : Nat} {fD fD' fL fS : Nat → Value} (h : SH w n a c fD fL fS wr) (hf : ∀ k, k < n → fD k = fD' k) : SH w n a c fD' fL fS wr := ⟨h.box, h.rD.congr hf, h.rL, h.rS, h.bl⟩
theorem SH.name {w wr : World} {n : Nat} {a : Option Addr} {c : Nat} {fD fL' fL fS : Nat → Value} (h : SH w n a c fD fL fS wr) (hf : ∀ k, k < n → fL k = fL' k) : SH w n a c fD fL' fS wr := ⟨h.box, h.rD, h.rL.congr hf, h.rS, h.bl⟩
theorem SH.some' {w wr : World} {n : Nat} {a : Option Addr} {c : Nat} {fD fL fS' fS : Nat → Value} (h : SH w n a c fD fL fS wr) (hf : ∀ k, k < n → fS k = fS' k) : SH w n a c fD fL fS' wr := ⟨h.box, h.rD, h.rL, h.rS.congr hf, h.bl⟩
theorem SH.drew {w wr : World} {n : Nat} {a : Option Addr} {c : Nat} {fD fL fS : Nat → Value} (h : SH w n a c fD fL fS wr) : SH w n a c fD fL fS wr.drew := ⟨h.box, h.rD, h.rL, h.rS, h.bl.drew⟩
theorem SH.drewN {w wr : World} {n : Nat} {a : Option Addr} {c : Nat} {fD fL fS : Nat → Value} (h : SH w n a c fD fL fS wr) (m : Nat) : SH w n a c fD fL fS (wr.drewN m) := ⟨h.box, h.rD, h.rL, h.rS, ⟨h.bl.os, h.bl.tape, h.bl.output, h.bl.size, h.bl.block⟩⟩
theorem SH.alloc {w wr : World} {n : Nat} {a : Option Addr} {c : Nat} {fD fL fS : Nat → Value} (h : SH w n a c fD fL fS wr) (o : Obj) : SH w n a c fD fL fS (wr.alloc o) :=
  ⟨(blk_old wr o (lt_blk h.box)).trans h.box, h.rD.alloc o, h.rL.alloc o, h.rS.alloc o, h.bl.alloc (Nat.le_of_lt (lt_blk h.box)) o⟩
theorem SH.setD {w wr : World} {n : Nat} {a : Option Addr} {c : Nat} {fD fL fS : Nat → Value} (h : SH w n a c fD fL fS wr) (j : Nat) (v : Value) :
    SH w n a c (fun k => if k = j then v else fD k) fL fS (wr.setCell ⟨w.heap.size + 1, j, none⟩ v) :=
  ⟨(Below.heap_setCell _ _ _ _ (by simp)).trans h.box, h.rD.set j v, h.rL.setOther (by simp) v, h.rS.setOther (by simp; omega) v, h.bl.setCell (p := ⟨w.heap.size + 1, j, none⟩) (by simp) v⟩
theorem SH.setL {w wr : World} {n : Nat} {a : Option Addr} {c : Nat} {fD fL fS : Nat → Value} (h : SH w n a c fD fL fS wr) (j : Nat) (v : Value) :
    SH w n a c fD (fun k => if k = j then v else fL k) fS (wr.setCell ⟨w.heap.size + 1 + 1, j, none⟩ v) :=
  ⟨(Below.heap_setCell _ _ _ _ (by simp; omega)).trans h.box, h.rD.setOther (by simp) v, h.rL.set j v, h.rS.setOther (by simp) v, h.bl.setCell (p := ⟨w.heap.size + 1 + 1, j, none⟩) (by simp; omega) v⟩
theorem SH.setS {w wr : World} {n : Nat} {a : Option Addr} {c : Nat} {fD fL fS : Nat → Value} (h : SH w n a c fD fL fS wr) (j : Nat) (v : Value) :
    SH w n a c fD fL (fun k => if k = j then v else fS k) (wr.setCell ⟨w.heap.size + 1 + 1 + 1, j, none⟩ v) :=
  ⟨(Below.heap_setCell _ _ _ _ (by simp; omega)).trans h.box, h.rD.setOther (by simp) v, h.rL.setOther (by simp) v, h.rS.set j v, h.bl.setCell (p := ⟨w.heap.size + 1 + 1 + 1, j, none⟩) (by simp; omega) v⟩
theorem SH.start (w : World) (l : List N) (a : Option Addr) (c : Nat) : SH w l.length a c (fDep l 0) (fName l 0) (fSome l 0)
    ((((w.alloc (.cells #[.slice a l.length c] 28)).alloc (.cells (madeCells #[.int .i64 0] l.length) 3)).alloc (.cells (madeCells #[.string ⟨#[]⟩] l.length) 9)).alloc (.cells (madeCells #[.bool false] l.length) 4)) := by
  obtain ⟨q0, q1, q2, q3, q4, q5⟩ := blk4 w (.cells #[.slice a l.length c] 28) (.cells (madeCells #[.int .i64 0] l.length) 3) (.cells (madeCells #[.string ⟨#[]⟩] l.length) 9) (.cells (madeCells #[.bool false] l.length) 4)
  refine ⟨q0, ⟨_, q1, size_madeCells _ _, fun i hi => ?_⟩, ⟨_, q2, size_madeCells _ _, fun i hi => ?_⟩, ⟨_, q3, size_madeCells _ _, fun i hi => ?_⟩, q5⟩
  · simp [madeCells, hi, Nat.mod_one, fDep]
  · simp [madeCells, hi, Nat.mod_one, fName, lastName_zero]
  · simp [madeCells, hi, Nat.mod_one, fSome, lastKid_zero]

set_option maxRecDepth 100000 in
set_option maxHeartbeats 4000000 in
theorem l1Shape_c (l : List N) (v : Value) (w : World) (S : Nat → Prop) (hl : l.length ≤ 1073741824) (hsz : ∀ x ∈ l, x.text.size ≤ 1099511627776 ∧ x.name.size ≤ 1099511627776) (h : Nods w S v l) (hS : ∀ b, S b → b < w.heap.size) :
    Calls Tryz.prog 63 #[.agg #[v]] w fun e w' => e = .returned (.bool (shape l)) ∧ Below w.heap.size w w' := by
  obtain ⟨a, c, rfl⟩ := Row.form h
  have HR := Lib.hid h; have HS := Lib.hid hS; have Hsz := Lib.hid hsz
  have HB0 := Lib.hid ((Below.refl w.heap.size w).alloc (Nat.le_refl _) (.cells #[.slice a l.length c] 28))
  clear h hS hsz
  have m1 := run_make_row' (P := Tryz.prog) 98 3 _ 8 Tryz.underlying98 info_int' rfl .i64 .i64 l.length (by omega) (by omega)
  have m2 := run_make_row' (P := Tryz.prog) 35 9 _ 16 Tryz.underlying35 info_str' rfl .i64 .i64 l.length (by omega) (by omega)
  have m3 := run_make_row' (P := Tryz.prog) 125 4 _ 1 Tryz.underlying125 info_bool' rfl .i64 .i64 l.length (by omega) (by omega)
  go_enter Tryz.func63, Tryz.ntmps63
  go_wp2_with fail
  go_loopg [24] l.length (fun gh i wr => ∃ j : Nat, j ≤ l.length ∧ gh = l.length - j ∧ i = .int .i64 j ∧ Hid (OKto l j) ∧ Hid (SH w l.length a c (fDep l j) (fName l j) (fSome l j) wr))
  case atStart => exact ⟨0, Nat.zero_le _, rfl, rfl, fun j hj => by omega, SH.start w l a c⟩
  case round =>
    obtain ⟨j, hj, rfl, rfl, HOK, HSH⟩ := hrel
    clear m1 m2 m3
    have e0 : wr.cell? ⟨w.heap.size, 0, none⟩ = some (.slice a l.length c) := cell_blk HSH.out.box 0
    have hz1 := HSH.out.rD.lt
    have hz2 := HSH.out.rL.lt
    have hz3 := HSH.out.rS.lt
    have hz : w.heap.size < wr.heap.size := by omega
    by_cases hlt : j < l.length
    · obtain ⟨g, off, rfl, hSg, x0, x1, x2, x3, x4⟩ := Nods.at HR.out hlt
      have hgb := HS.out g hSg
      have y0 := (HSH.out.bl.cell (p := ⟨g, off + j * 5, none⟩) hgb).trans x0
      have y1 := (HSH.out.bl.cell (p := ⟨g, off + j * 5 + 1, none⟩) hgb).trans x1
      have y2 := (HSH.out.bl.cell (p := ⟨g, off + j * 5 + 2, none⟩) hgb).trans x2
      have y3 := (HSH.out.bl.cell (p := ⟨g, off + j * 5 + 3, none⟩) hgb).trans x3
      have y4 := (HSH.out.bl.cell (p := ⟨g, off + j * 5 + 4, none⟩) hgb).trans x4
      clear x0 x1 x2 x3 x4
      have hxs := Hsz.out _ (List.getElem_mem hlt)
      obtain ⟨x, hx⟩ : ∃ x, l[j] = x := ⟨_, rfl⟩
      rw [hx] at y0 y1 y2 y3 y4 hxs
      have HX := Lib.hid hx
      clear hx
      go_upto_region 7 with fail
      go_cut [70] (fun s70 wx => s70 = .bool (!soundB x) ∧ wx = wr.alloc (.cells #[.int .i64 x.kind, .int .i64 x.num, .string x.text, .string x.name, .int .i64 x.up] 63))
      case first =>
        as_aux_lemma =>
          cases h1 : within x.kind 1 7
          · go_wp2_with (first | (go_at_call 33; refine (l1In_c _ _ _ _).mono ?_; rintro e w' ⟨rfl, rfl⟩) | (go_at_call 90; refine (l1Number_c _ _).mono ?_; rintro e w' ⟨rfl, rfl⟩) | (go_at_call_of 91 (Value.string x.text); refine (l1Printed_c _ _ hxs.1).mono ?_; rintro e w' ⟨rfl, rfl⟩) | (go_at_call_of 91 (Value.string x.name); refine (l1Printed_c _ _ hxs.2).mono ?_; rintro e w' ⟨rfl, rfl⟩))
            go_meet
            exact ⟨by simp [soundB, h1], rfl⟩
          · cases h2 : (x.kind != 4)
            · cases h4 : okNum x.num
              · go_wp2_with (first | (go_at_call 33; refine (l1In_c _ _ _ _).mono ?_; rintro e w' ⟨rfl, rfl⟩) | (go_at_call 90; refine (l1Number_c _ _).mono ?_; rintro e w' ⟨rfl, rfl⟩) | (go_at_call_of 91 (Value.string x.text); refine (l1Printed_c _ _ hxs.1).mono ?_; rintro e w' ⟨rfl, rfl⟩) | (go_at_call_of 91 (Value.string x.name); refine (l1Printed_c _ _ hxs.2).mono ?_; rintro e w' ⟨rfl, rfl⟩))
                go_meet
                exact ⟨by simp [soundB, h1,h2,h4], rfl⟩
              · cases h5 : (x.kind != 5)
                · cases h7 : okStr x.text
                  · go_wp2_with (first | (go_at_call 33; refine (l1In_c _ _ _ _).mono ?_; rintro e w' ⟨rfl, rfl⟩) | (go_at_call 90; refine (l1Number_c _ _).mono ?_; rintro e w' ⟨rfl, rfl⟩) | (go_at_call_of 91 (Value.string x.text); refine (l1Printed_c _ _ hxs.1).mono ?_; rintro e w' ⟨rfl, rfl⟩) | (go_at_call_of 91 (Value.string x.name); refine (l1Printed_c _ _ hxs.2).mono ?_; rintro e w' ⟨rfl, rfl⟩))
                    go_meet
                    exact ⟨by simp [soundB, h1,h2,h4,h5,h7], rfl⟩
                  · cases h8 : okStr x.name
                    · go_wp2_with (first | (go_at_call 33; refine (l1In_c _ _ _ _).mono ?_; rintro e w' ⟨rfl, rfl⟩) | (go_at_call 90; refine (l1Number_c _ _).mono ?_; rintro e w' ⟨rfl, rfl⟩) | (go_at_call_of 91 (Value.string x.text); refine (l1Printed_c _ _ hxs.1).mono ?_; rintro e w' ⟨rfl, rfl⟩) | (go_at_call_of 91 (Value.string x.name); refine (l1Printed_c _ _ hxs.2).mono ?_; rintro e w' ⟨rfl, rfl⟩))
                      go_meet
                      exact ⟨by simp [soundB, h1,h2,h4,h5,h7,h8], rfl⟩
                    · go_wp2_with (first | (go_at_call 33; refine (l1In_c _ _ _ _).mono ?_; rintro e w' ⟨rfl, rfl⟩) | (go_at_call 90; refine (l1Number_c _ _).mono ?_; rintro e w' ⟨rfl, rfl⟩) | (go_at_call_of 91 (Value.string x.text); refine (l1Printed_c _ _ hxs.1).mono ?_; rintro e w' ⟨rfl, rfl⟩) | (go_at_call_of 91 (Value.string x.name); refine (l1Printed_c _ _ hxs.2).mono ?_; rintro e w' ⟨rfl, rfl⟩))
                      go_meet
                      exact ⟨by simp [soundB, h1,h2,h4,h5,h7,h8], rfl⟩
                · cases h6 : isEmp x.text
                  · have h6' := h6
                    unfold isEmp at h6'
                    go_wp2_with (first | (go_at_call 33; refine (l1In_c _ _ _ _).mono ?_; rintro e w' ⟨rfl, rfl⟩) | (go_at_call 90; refine (l1Number_c _ _).mono ?_; rintro e w' ⟨rfl, rfl⟩) | (go_at_call_of 91 (Value.string x.text); refine (l1Printed_c _ _ hxs.1).mono ?_; rintro e w' ⟨rfl, rfl⟩) | (go_at_call_of 91 (Value.string x.name); refine (l1Printed_c _ _ hxs.2).mono ?_; rintro e w' ⟨rfl, rfl⟩))
                    go_meet
                    exact ⟨by simp [soundB, h1,h2,h4,h5,h6], rfl⟩
                  · have h6' := h6
                    unfold isEmp at h6'
                    cases h7 : okStr x.text
                    · go_wp2_with (first | (go_at_call 33; refine (l1In_c _ _ _ _).mono ?_; rintro e w' ⟨rfl, rfl⟩) | (go_at_call 90; refine (l1Number_c _ _).mono ?_; rintro e w' ⟨rfl, rfl⟩) | (go_at_call_of 91 (Value.string x.text); refine (l1Printed_c _ _ hxs.1).mono ?_; rintro e w' ⟨rfl, rfl⟩) | (go_at_call_of 91 (Value.string x.name); refine (l1Printed_c _ _ hxs.2).mono ?_; rintro e w' ⟨rfl, rfl⟩))
                      go_meet
                      exact ⟨by simp [soundB, h1,h2,h4,h5,h6,h7], rfl⟩
                    · cases h8 : okStr x.name
                      · go_wp2_with (first | (go_at_call 33; refine (l1In_c _ _ _ _).mono ?_; rintro e w' ⟨rfl, rfl⟩) | (go_at_call 90; refine (l1Number_c _ _).mono ?_; rintro e w' ⟨rfl, rfl⟩) | (go_at_call_of 91 (Value.string x.text); refine (l1Printed_c _ _ hxs.1).mono ?_; rintro e w' ⟨rfl, rfl⟩) | (go_at_call_of 91 (Value.string x.name); refine (l1Printed_c _ _ hxs.2).mono ?_; rintro e w' ⟨rfl, rfl⟩))
                        go_meet
                        exact ⟨by simp [soundB, h1,h2,h4,h5,h6,h7,h8], rfl⟩
                      · go_wp2_with (first | (go_at_call 33; refine (l1In_c _ _ _ _).mono ?_; rintro e w' ⟨rfl, rfl⟩) | (go_at_call 90; refine (l1Number_c _ _).mono ?_; rintro e w' ⟨rfl, rfl⟩) | (go_at_call_of 91 (Value.string x.text); refine (l1Printed_c _ _ hxs.1).mono ?_; rintro e w' ⟨rfl, rfl⟩) | (go_at_call_of 91 (Value.string x.name); refine (l1Printed_c _ _ hxs.2).mono ?_; rintro e w' ⟨rfl, rfl⟩))
                        go_meet
                        exact ⟨by simp [soundB, h1,h2,h4,h5,h6,h7,h8], rfl⟩
            · cases h3 : (x.num != 0)
              · cases h4 : okNum x.num
                · go_wp2_with (first | (go_at_call 33; refine (l1In_c _ _ _ _).mono ?_; rintro e w' ⟨rfl, rfl⟩) | (go_at_call 90; refine (l1Number_c _ _).mono ?_; rintro e w' ⟨rfl, rfl⟩) | (go_at_call_of 91 (Value.string x.text); refine (l1Printed_c _ _ hxs.1).mono ?_; rintro e w' ⟨rfl, rfl⟩) | (go_at_call_of 91 (Value.string x.name); refine (l1Printed_c _ _ hxs.2).mono ?_; rintro e w' ⟨rfl, rfl⟩))
                  go_meet
                  exact ⟨by simp [soundB, h1,h2,h3,h4], rfl⟩
                · cases h5 : (x.kind != 5)
                  · cases h7 : okStr x.text
                    · go_wp2_with (first | (go_at_call 33; refine (l1In_c _ _ _ _).mono ?_; rintro e w' ⟨rfl, rfl⟩) | (go_at_call 90; refine (l1Number_c _ _).mono ?_; rintro e w' ⟨rfl, rfl⟩) | (go_at_call_of 91 (Value.string x.text); refine (l1Printed_c _ _ hxs.1).mono ?_; rintro e w' ⟨rfl, rfl⟩) | (go_at_call_of 91 (Value.string x.name); refine (l1Printed_c _ _ hxs.2).mono ?_; rintro e w' ⟨rfl, rfl⟩))
                      go_meet
                      exact ⟨by simp [soundB, h1,h2,h3,h4,h5,h7], rfl⟩
                    · cases h8 : okStr x.name
                      · go_wp2_with (first | (go_at_call 33; refine (l1In_c _ _ _ _).mono ?_; rintro e w' ⟨rfl, rfl⟩) | (go_at_call 90; refine (l1Number_c _ _).mono ?_; rintro e w' ⟨rfl, rfl⟩) | (go_at_call_of 91 (Value.string x.text); refine (l1Printed_c _ _ hxs.1).mono ?_; rintro e w' ⟨rfl, rfl⟩) | (go_at_call_of 91 (Value.string x.name); refine (l1Printed_c _ _ hxs.2).mono ?_; rintro e w' ⟨rfl, rfl⟩))
                        go_meet
                        exact ⟨by simp [soundB, h1,h2,h3,h4,h5,h7,h8], rfl⟩
                      · go_wp2_with (first | (go_at_call 33; refine (l1In_c _ _ _ _).mono ?_; rintro e w' ⟨rfl, rfl⟩) | (go_at_call 90; refine (l1Number_c _ _).mono ?_; rintro e w' ⟨rfl, rfl⟩) | (go_at_call_of 91 (Value.string x.text); refine (l1Printed_c _ _ hxs.1).mono ?_; rintro e w' ⟨rfl, rfl⟩) | (go_at_call_of 91 (Value.string x.name); refine (l1Printed_c _ _ hxs.2).mono ?_; rintro e w' ⟨rfl, rfl⟩))
                        go_meet
                        exact ⟨by simp [soundB, h1,h2,h3,h4,h5,h7,h8], rfl⟩
                  · cases h6 : isEmp x.text
                    · have h6' := h6
                      unfold isEmp at h6'
                      go_wp2_with (first | (go_at_call 33; refine (l1In_c _ _ _ _).mono ?_; rintro e w' ⟨rfl, rfl⟩) | (go_at_call 90; refine (l1Number_c _ _).mono ?_; rintro e w' ⟨rfl, rfl⟩) | (go_at_call_of 91 (Value.string x.text); refine (l1Printed_c _ _ hxs.1).mono ?_; rintro e w' ⟨rfl, rfl⟩) | (go_at_call_of 91 (Value.string x.name); refine (l1Printed_c _ _ hxs.2).mono ?_; rintro e w' ⟨rfl, rfl⟩))
                      go_meet
                      exact ⟨by simp [soundB, h1,h2,h3,h4,h5,h6], rfl⟩
                    · have h6' := h6
                      unfold isEmp at h6'
                      cases h7 : okStr x.text
                      · go_wp2_with (first | (go_at_call 33; refine (l1In_c _ _ _ _).mono ?_; rintro e w' ⟨rfl, rfl⟩) | (go_at_call 90; refine (l1Number_c _ _).mono ?_; rintro e w' ⟨rfl, rfl⟩) | (go_at_call_of 91 (Value.string x.text); refine (l1Printed_c _ _ hxs.1).mono ?_; rintro e w' ⟨rfl, rfl⟩) | (go_at_call_of 91 (Value.string x.name); refine (l1Printed_c _ _ hxs.2).mono ?_; rintro e w' ⟨rfl, rfl⟩))
                        go_meet
                        exact ⟨by simp [soundB, h1,h2,h3,h4,h5,h6,h7], rfl⟩
                      · cases h8 : okStr x.name
                        · go_wp2_with (first | (go_at_call 33; refine (l1In_c _ _ _ _).mono ?_; rintro e w' ⟨rfl, rfl⟩) | (go_at_call 90; refine (l1Number_c _ _).mono ?_; rintro e w' ⟨rfl, rfl⟩) | (go_at_call_of 91 (Value.string x.text); refine (l1Printed_c _ _ hxs.1).mono ?_; rintro e w' ⟨rfl, rfl⟩) | (go_at_call_of 91 (Value.string x.name); refine (l1Printed_c _ _ hxs.2).mono ?_; rintro e w' ⟨rfl, rfl⟩))
                          go_meet
                          exact ⟨by simp [soundB, h1,h2,h3,h4,h5,h6,h7,h8], rfl⟩
                        · go_wp2_with (first | (go_at_call 33; refine (l1In_c _ _ _ _).mono ?_; rintro e w' ⟨rfl, rfl⟩) | (go_at_call 90; refine (l1Number_c _ _).mono ?_; rintro e w' ⟨rfl, rfl⟩) | (go_at_call_of 91 (Value.string x.text); refine (l1Printed_c _ _ hxs.1).mono ?_; rintro e w' ⟨rfl, rfl⟩) | (go_at_call_of 91 (Value.string x.name); refine (l1Printed_c _ _ hxs.2).mono ?_; rintro e w' ⟨rfl, rfl⟩))
                          go_meet
                          exact ⟨by simp [soundB, h1,h2,h3,h4,h5,h6,h7,h8], rfl⟩
              · go_wp2_with (first | (go_at_call 33; refine (l1In_c _ _ _ _).mono ?_; rintro e w' ⟨rfl, rfl⟩) | (go_at_call 90; refine (l1Number_c _ _).mono ?_; rintro e w' ⟨rfl, rfl⟩) | (go_at_call_of 91 (Value.string x.text); refine (l1Printed_c _ _ hxs.1).mono ?_; rintro e w' ⟨rfl, rfl⟩) | (go_at_call_of 91 (Value.string x.name); refine (l1Printed_c _ _ hxs.2).mono ?_; rintro e w' ⟨rfl, rfl⟩))
                go_meet
                exact ⟨by simp [soundB, h1,h2,h3], rfl⟩
      case rest =>
        obtain ⟨rfl, rfl⟩ := hcut
        have HBw : Hid (∀ o, Below w.heap.size w (wr.alloc o)) := fun o => HSH.out.bl.alloc (by omega) o
        cases hs : soundB x
        · have HV : Hid (shape l = false) := shape_false hlt (okAt_unsound hlt (by rw [HX.out]; exact hs))
          go_wp2_with fail
          go_ret
          exact ⟨by rw [HV.out]; rfl, HBw.out _⟩
        · have cD : wr.cell? ⟨w.heap.size + 1, j, none⟩ = some (.int .i64 0) := by rw [HSH.out.rD.cell hlt]; simp [fDep]
          have fD := HSH.out.rD.frozen j
          go_upto_if 73 with (go_at_call 92; refine (l1Holds_c _ _).mono ?_; rintro e w' ⟨rfl, rfl⟩)
          go_cut [] (fun wx => ∃ wr2, wx = wr2.alloc (.cells #[.int .i64 x.kind, .int .i64 x.num, .string x.text, .string x.name, .int .i64 x.up] 63) ∧ Hid (SH w l.length (some ⟨g, off, none⟩) c (fOne l j (holdsB x.kind)) (fName l j) (fSome l j) wr2) ∧ wr.heap.size = wr2.heap.size)
          case first =>
            cases hh : holdsB x.kind
            · go_wp2_with fail
              go_meet
              exact ⟨wr, rfl, by rw [hh]; exact HSH.out.dep (fun k _ => fOne_false l j k), rfl⟩
            · go_wp2_with fail
              go_meet
              exact ⟨_, rfl, by rw [hh]; exact HSH.out.setD j _, by simp [World.setCell]⟩
          case rest =>
            obtain ⟨wr2, rfl, HSH2, hwsz⟩ := hcut
            rw [hwsz]
            clear hwsz
            clear cD fD e0 y0 y1 y2 y3 y4 hz hz1 hz2 hz3 HBw
            have e0 : wr2.cell? ⟨w.heap.size, 0, none⟩ = some (.slice (some ⟨g, off, none⟩) l.length c) := cell_blk HSH2.out.box 0
            have hz1 := HSH2.out.rD.lt
            have hz2 := HSH2.out.rL.lt
            have hz3 := HSH2.out.rS.lt
            have hz : w.heap.size < wr2.heap.size := by omega
            have HBw : Hid (∀ o, Below w.heap.size w (wr2.alloc o)) := fun o => HSH2.out.bl.alloc (by omega) o
            by_cases hj0 : j = 0
            · subst hj0
              as_aux_lemma =>
                have HO1 := Lib.hid (okAt_first hlt (by rw [HX.out]; exact hs))
                rw [HX.out] at HO1
                cases hb : (x.up != -1 || !isEmp x.name)
                · rw [hb] at HO1
                  have hb2 : x.up = -1 ∧ isEmp x.name = true := by simpa using hb
                  have hb3 := hb2.2
                  unfold isEmp at hb3
                  go_wp2_with fail
                  go_roundg (l.length - 1)
                  case measure => omega
                  case rel => exact ⟨1, hlt, rfl, by go_num, fun k hk => by obtain rfl : k = 0 := (by omega); exact HO1.out, Lib.hid ((((HSH2.out.alloc _).dep (fun k _ => by rw [← HX.out]; exact fOne_first hlt k)).name (fun k _ => fName_first l k)).some' (fun k _ => fSome_first l k))⟩
                · rw [hb] at HO1
                  have HV : Hid (shape l = false) := shape_false hlt HO1.out
                  by_cases hu : x.up = -1
                  · have hb3 : isEmp x.name = false := by simpa [hu] using hb
                    unfold isEmp at hb3
                    go_wp2_with fail
                    go_ret
                    exact ⟨by rw [HV.out]; rfl, HBw.out _⟩
                  · have hu' : (x.up == -1) = false := by simpa using hu
                    go_wp2_with fail
                    go_ret
                    exact ⟨by rw [HV.out]; rfl, HBw.out _⟩
            · have hj0' : ((j : Int) == 0) = false := by simpa using hj0
              have HO1 := Lib.hid (okAt_later hlt hj0 (by rw [HX.out]; exact hs))
              rw [HX.out] at HO1
              have hw1 : IntKind.i64.wrap ((j : Int) - 1) = (j : Int) - 1 := by rw [IntKind.wrap_i64]; omega
              cases hin : within x.up 0 ((j : Int) - 1)
              · have HV : Hid (shape l = false) := shape_false hlt (by rw [HO1.out, hin]; rfl)
                go_wp2_with (go_at_call 33; refine (l1In_c _ _ _ _).mono ?_; rintro e w' ⟨rfl, rfl⟩)
                go_ret
                exact ⟨by rw [HV.out]; rfl, HBw.out _⟩
              · rw [hin] at HO1
                obtain ⟨q, hq⟩ : ∃ q : Nat, x.up = (q : Int) := by
                  simp only [within, Bool.and_eq_true, decide_eq_true_eq] at hin
                  exact ⟨x.up.toNat, by omega⟩
                have hqj : q < j := by simp only [within, Bool.and_eq_true, decide_eq_true_eq] at hin; omega
                have hql : q < l.length := by omega
                rw [hq] at hin HO1 ⊢
                rw [Int.toNat_natCast, Bool.true_and] at HO1
                obtain ⟨g', off', hgo, _, z0, z1, z2, z3, z4⟩ := Nods.at HR.out hql
                simp only [Option.some.injEq, Addr.mk.injEq, and_true] at hgo
                obtain ⟨rfl, rfl⟩ := hgo
                have y0 := (HSH2.out.bl.cell (p := ⟨g, off + q * 5, none⟩) hgb).trans z0
                have hgw : g < wr2.heap.size := by omega
                clear z0 z1 z2 z3 z4
                rw [kindAt_get hql] at HO1
                cases hho : holdsB l[q].kind
                · have HV : Hid (shape l = false) := shape_false hlt (by rw [HO1.out, hho]; rfl)
                  go_wp2_with (first | (go_at_call 33; refine (l1In_c _ _ _ _).mono ?_; rintro e w' ⟨rfl, rfl⟩) | (go_at_call 92; refine (l1Holds_c _ _).mono ?_; rintro e w' ⟨rfl, rfl⟩))
                  go_ret
                  exact ⟨by rw [HV.out]; rfl, HBw.out _⟩
                · rw [hho, Bool.true_and] at HO1
                  go_wp2_with (first | (go_at_call 33; refine (l1In_c _ _ _ _).mono ?_; rintro e w' ⟨rfl, rfl⟩) | (go_at_call 92; refine (l1Holds_c _ _).mono ?_; rintro e w' ⟨rfl, rfl⟩))
                  go_loop [8] (fun s8 => ∃ (at_ : Int) (fuel : Nat), s8 = .int .i64 at_ ∧ -1 ≤ at_ ∧ at_ < j ∧ at_ + 2 ≤ fuel ∧ Hid (ancF (j + 1) l ((j : Int) - 1) q = ancF fuel l at_ q)) (fun s8 => (intOf s8 + 1).toNat)
                  case atStart => exact ⟨(j : Int) - 1, j + 1, rfl, by omega, by omega, by omega, rfl⟩
                  case round =>
                    obtain ⟨at_, fuel, rfl, ha1, ha2, hfu, HA⟩ := hrel
                    by_cases heq : at_ = (q : Int)
                    · subst heq
                      have HA1 : Hid (ancF (j + 1) l ((j : Int) - 1) q = true) := by
                        obtain ⟨f', rfl⟩ : ∃ f', fuel = f' + 1 := ⟨fuel - 1, by omega⟩
                        exact HA.out.trans (ancF_hit _ _ _)
                      rw [HA1.out, Bool.true_and] at HO1
                      obtain ⟨d0, hd0⟩ : ∃ d0 : Int, d0 = (if holdsB x.kind then 1 else 0) := ⟨_, rfl⟩
                      obtain ⟨d1, hd1⟩ : ∃ d1 : Int, d1 = dep l q := ⟨_, rfl⟩
                      have hd0r : 0 ≤ d0 ∧ d0 ≤ 1 := by rw [hd0]; split <;> omega
                      have hd1r : 0 ≤ d1 ∧ d1 ≤ 6 := by rw [hd1]; exact ⟨dep_nn _ _, dep_le HOK.out hqj⟩
                      have HDep : Hid (dep l j = d0 + d1) := by
                        rw [hd0, hd1, ← HX.out]
                        exact dep_step HOK.out hlt hj0 (by rw [HX.out]; exact hq) hqj
                      have hwd : IntKind.i64.wrap (d0 + d1) = d0 + d1 := by rw [IntKind.wrap_i64]; omega
                      have cDj : wr2.cell? ⟨w.heap.size + 1, j, none⟩ = some (.int .i64 d0) := by rw [HSH2.out.rD.cell hlt, hd0]; simp [fOne]
                      have cDq : wr2.cell? ⟨w.heap.size + 1, q, none⟩ = some (.int .i64 d1) := by rw [HSH2.out.rD.cell hql, hd1]; simp [fOne, fDep, hqj]; omega
                      have fDj := HSH2.out.rD.frozen j
                      have hqlt : (q : Int) < (l.length : Int) := by omega
                      have hjlt : (j : Int) < (l.length : Int) := by omega
                      clear hd0 hd1
                      go_wp2_with fail
                      go_region
                      have hszE : (wr2.setCell ⟨w.heap.size + 1, j, none⟩ (.int .i64 (d0 + d1))).heap.size = wr2.heap.size := by simp [World.setCell]
                      have hsh3 := (HSH2.out.setD j (.int .i64 (d0 + d1))).dep (fun k _ => fDep_next HDep.out k)
                      obtain ⟨wr3, hwr3⟩ : ∃ wx, wx = wr2.setCell ⟨w.heap.size + 1, j, none⟩ (.int .i64 (d0 + d1)) := ⟨_, rfl⟩
                      rw [← hwr3] at hszE hsh3 ⊢
                      rw [← hszE]
                      have HSH3 := Lib.hid hsh3
                      clear hsh3 hwr3 hszE cDj cDq fDj e0 hz hz1 hz2 hz3 y0 HBw HA hgw
                      have e0 : wr3.cell? ⟨w.heap.size, 0, none⟩ = some (.slice (some ⟨g, off, none⟩) l.length c) := cell_blk HSH3.out.box 0
                      have hz1 := HSH3.out.rD.lt
                      have hz2 := HSH3.out.rL.lt
                      have hz3 := HSH3.out.rS.lt
                      have hz : w.heap.size < wr3.heap.size := by omega
                      have hgw : g < wr3.heap.size := by omega
                      have HBw4 : Hid (∀ o, Below w.heap.size w (wr3.alloc o)) := fun o => HSH3.out.bl.alloc (by omega) o
                      obtain ⟨g', off', hgo, _, z0, z1, z2, z3, z4⟩ := Nods.at HR.out hql
                      simp only [Option.some.injEq, Addr.mk.injEq, and_true] at hgo
                      obtain ⟨rfl, rfl⟩ := hgo
                      have y0 := (HSH3.out.bl.cell (p := ⟨g, off + q * 5, none⟩) hgb).trans z0
                      clear z0 z1 z2 z3 z4
                      have cD : wr3.cell? ⟨w.heap.size + 1, j, none⟩ = some (.int .i64 (d0 + d1)) := by rw [HSH3.out.rD.cell hlt]; simp [fDep, HDep.out]
                      rw [nameOKB_at l j q x hq, kindAt_get hql, HDep.out] at HO1
                      have hxu : l[j].up = (q : Int) := by rw [HX.out]; exact hq
                      have HXU := Lib.hid hxu
                      clear hxu
                      by_cases h7 : l[q].kind = 7
                      · rw [if_pos h7] at HO1
                        rw [h7] at y0
                        have cS : wr3.cell? ⟨w.heap.size + 1 + 1 + 1, q, none⟩ = some (.bool (lastKid l q j).isSome) := HSH3.out.rS.cell hql
                        as_aux_lemma =>
                          have cL : wr3.cell? ⟨w.heap.size + 1 + 1, q, none⟩ = some (.string (lastName l q j)) := HSH3.out.rL.cell hql
                          have fS := HSH3.out.rS.frozen q
                          have fL := HSH3.out.rL.frozen q
                          go_upto_region 23 with fail
                          have hsh4 : ∀ wx, SH w l.length (some ⟨g, off, none⟩) c (fDep l (j + 1)) (fName l j) (fSome l j) wx → SH w l.length (some ⟨g, off, none⟩) c (fDep l (j + 1)) (fName l (j + 1)) (fSome l (j + 1)) ((wx.setCell ⟨w.heap.size + 1 + 1, q, none⟩ (.string x.name)).setCell ⟨w.heap.size + 1 + 1 + 1, q, none⟩ (.bool true)) := fun wx hx =>
                            (((hx.setL q (.string x.name)).setS q (.bool true)).name (fL' := fName l (j + 1)) (fun k _ => by rw [← HX.out]; exact fName_put hlt HXU.out hqj (by rw [kindAt_get hql]; exact h7) k)).some' (fS' := fSome l (j + 1)) (fun k _ => fSome_put hlt HXU.out hqj (by rw [kindAt_get hql]; exact h7) k)
                          have HSH4 := Lib.hid hsh4
                          clear hsh4
                          cases hso : (lastKid l q j).isSome
                          · rw [hso] at cS HO1
                            have HN1 : Hid ((!(false && !ltS (lastName l q j) x.name)) = true) := rfl
                            rw [HN1.out, Bool.true_and] at HO1
                            by_cases hd6 : 6 < d0 + d1
                            · have HV : Hid (shape l = false) := shape_false hlt (by rw [HO1.out]; simp; omega)
                              go_quiet (fail)
                              go_wp2_with fail
                              go_ret
                              exact ⟨by rw [HV.out]; rfl, by first | exact (HSH4.out _ ((HSH3.out.alloc _).drewN _)).bl | exact (HSH4.out _ ((HSH3.out.alloc _).drew.drewN _)).bl⟩
                            · have hd6' : decide (6 < d0 + d1) = false := by simpa using hd6
                              go_quiet (fail)
                              go_wp2_with fail
                              go_roundg (l.length - (j + 1))
                              case measure => omega
                              case rel => exact ⟨j + 1, hlt, rfl, by go_num, fun k hk => by
                                  by_cases hkj : k = j
                                  · subst hkj; rw [HO1.out]; simp; omega
                                  · exact HOK.out k (by omega), (by first | exact Lib.hid (HSH4.out _ ((HSH3.out.alloc _).drewN _)) | exact Lib.hid (HSH4.out _ ((HSH3.out.alloc _).drew.drewN _)))⟩
                          · rw [hso] at cS HO1
                            cases hls : Go.Op.bytesLess (lastName l q j).toList x.name.toList
                            · have HV : Hid (shape l = false) := shape_false hlt (by rw [HO1.out]; unfold ltS; rw [hls]; rfl)
                              go_quiet (fail)
                              go_wp2_with fail
                              go_ret
                              exact ⟨by rw [HV.out]; rfl, ((HSH3.out.alloc _).drew.drewN _).bl⟩
                            · have HN1 : Hid ((!(true && !ltS (lastName l q j) x.name)) = true) := by unfold Hid ltS; rw [hls]; rfl
                              rw [HN1.out, Bool.true_and] at HO1
                              by_cases hd6 : 6 < d0 + d1
                              · have HV : Hid (shape l = false) := shape_false hlt (by rw [HO1.out]; simp; omega)
                                go_quiet (fail)
                                go_wp2_with fail
                                go_ret
                                exact ⟨by rw [HV.out]; rfl, by first | exact (HSH4.out _ ((HSH3.out.alloc _).drewN _)).bl | exact (HSH4.out _ ((HSH3.out.alloc _).drew.drewN _)).bl⟩
                              · have hd6' : decide (6 < d0 + d1) = false := by simpa using hd6
                                go_quiet (fail)
                                go_wp2_with fail
                                go_roundg (l.length - (j + 1))
                                case measure => omega
                                case rel => exact ⟨j + 1, hlt, rfl, by go_num, fun k hk => by
                                    by_cases hkj : k = j
                                    · subst hkj; rw [HO1.out]; simp; omega
                                    · exact HOK.out k (by omega), (by first | exact Lib.hid (HSH4.out _ ((HSH3.out.alloc _).drewN _)) | exact Lib.hid (HSH4.out _ ((HSH3.out.alloc _).drew.drewN _)))⟩
                      · have h7' : (l[q].kind == 7) = false := by simpa using h7
                        as_aux_lemma =>
                          rw [if_neg h7] at HO1
                          cases hem : isEmp x.name
                          · have hem' := hem
                            unfold isEmp at hem'
                            have HV : Hid (shape l = false) := shape_false hlt (by rw [HO1.out, hem]; rfl)
                            go_wp2_with fail
                            go_ret
                            exact ⟨by rw [HV.out]; rfl, (HBw4.out _).drew⟩
                          · have hem' := hem
                            unfold isEmp at hem'
                            rw [hem, Bool.true_and] at HO1
                            by_cases hd6 : 6 < d0 + d1
                            · have HV : Hid (shape l = false) := shape_false hlt (by rw [HO1.out]; simp; omega)
                              go_wp2_with fail
                              go_ret
                              exact ⟨by rw [HV.out]; rfl, (HBw4.out _).drew⟩
                            · have hd6' : decide (6 < d0 + d1) = false := by simpa using hd6
                              go_wp2_with fail
                              go_roundg (l.length - (j + 1))
                              case measure => omega
                              case rel => exact ⟨j + 1, hlt, rfl, by go_num, fun k hk => by
                                  by_cases hkj : k = j
                                  · subst hkj; rw [HO1.out]; simp; omega
                                  · exact HOK.out k (by omega), Lib.hid (((HSH3.out.name (fun k _ => fName_same hlt HXU.out hqj (by rw [kindAt_get hql]; exact h7) k)).some' (fun k _ => fSome_same hlt HXU.out hqj (by rw [kindAt_get hql]; exact h7) k)).alloc _ |>.drew)⟩
                    · have heq' : (at_ == (q : Int)) = false := by simpa using heq
                      as_aux_lemma =>
                        obtain ⟨f', rfl⟩ : ∃ f', fuel = f' + 1 := ⟨fuel - 1, by omega⟩
                        by_cases hneg : at_ < 0
                        · have HA1 : Hid (ancF (j + 1) l ((j : Int) - 1) q = false) := HA.out.trans (ancF_neg _ _ _ _ heq hneg)
                          have HV : Hid (shape l = false) := shape_false hlt (by rw [HO1.out, HA1.out]; rfl)
                          have hneg2 : ¬ (0 : Int) ≤ at_ := by omega
                          go_wp2_with fail
                          go_ret
                          exact ⟨by rw [HV.out]; rfl, HBw.out _⟩
                        · obtain ⟨p, rfl⟩ : ∃ p : Nat, at_ = (p : Int) := ⟨at_.toNat, by omega⟩
                          have hpj : p < j := by omega
                          have hpl : p < l.length := by omega
                          have hplt : (p : Int) < (l.length : Int) := by omega
                          obtain ⟨g', off', hgo, _, z0, z1, z2, z3, z4⟩ := Nods.at HR.out hpl
                          simp only [Option.some.injEq, Addr.mk.injEq, and_true] at hgo
                          obtain ⟨rfl, rfl⟩ := hgo
                          have y1 := (HSH2.out.bl.cell (p := ⟨g, off + p * 5 + 4, none⟩) hgb).trans z4
                          clear z0 z1 z2 z3 z4
                          have HA2 : Hid (ancF (j + 1) l ((j : Int) - 1) q = ancF f' l l[p].up q) := HA.out.trans (ancF_step _ _ _ _ heq hpl)
                          have hup : -1 ≤ l[p].up ∧ l[p].up ≤ (p : Int) - 1 := by
                            by_cases hp0 : p = 0
                            · subst hp0; have := okAt_top (HOK.out 0 hpj) hpl; omega
                            · have := okAt_up (HOK.out p hpj) hpl hp0; omega
                          go_wp2_with fail
                          go_round
                          case rel => exact ⟨l[p].up, f', rfl, by omega, by omega, by omega, HA2⟩
                          case measure => simp [intOf]; omega
    · obtain rfl : j = l.length := by omega
      have HV : Hid (shape l = within l.length 1 80) := shape_end HOK.out
      go_wp2_with (go_at_call 33; refine (l1In_c _ _ _ _).mono ?_; rintro e w' ⟨rfl, rfl⟩)
      go_ret
      exact ⟨by rw [HV.out]; rfl, HSH.out.bl⟩
end Go.Proofs.YtbldchemgkfdcaaGreatDoor
