/- impl.PathsIn. -/
import Derived.Test.YtbldchemgkfdcaaGreatDoorPaths
import Derived.Test.YtbldchemgkfdcaaGreatDoorStrS
import Derived.Test.YtbldchemgkfdcaaGreatDoorLaw2
namespace Go.Proofs.YtbldchemgkfdcaaGreatDoor
open Go.RowKit

theorem valOf_tree {l : List N} {t : T} (h : valOf l = some t) : t.wn ∧ t.bounded = true ∧ t.cnt ≤ 80 := by
  have hs := valOf_shape h
  obtain ⟨t', hp, _, hb, hv⟩ := shape_valOf hs
  have hl := (shape_parts hs).2.2.2
  have hok := (pv_ok _).1 _ _ _ _ _ hp
  rw [h] at hv
  split at hv
  · cases hv
    exact ⟨hok.1, hb, by omega⟩
  · cases hv

def longP (s : ByteArray) : Bool := decide ((60 : Int) < (s.size : Int))
theorem pathsIn1_c (s : ByteArray) (w : World) :
    Calls Tryz.prog 48 #[.string s] w fun e w' => e = .returned (.bool (longP s)) ∧ w = w' := by
  go_enter Tryz.func48, Tryz.ntmps48
  go_wp2
  go_ret
  exact ⟨rfl, rfl⟩
theorem long_true {s : ByteArray} (h : longP s = true) : (60 : Int) < (s.size : Int) := of_decide_eq_true h
theorem long_false {s : ByteArray} (h : longP s = false) : ¬ (60 : Int) < (s.size : Int) := of_decide_eq_false h

set_option maxHeartbeats 400000 in
theorem indexLong_c (l : List ByteArray) (v : Value) (w : World) (S : Nat → Prop) (h : Strs w S v l) (hl : l.length ≤ 1099511627776) :
    Calls Tryz.prog 77 #[v, .func (.func 48) #[] #[]] w fun e w' => e = .returned (.int .i64 (fidx longP l 0)) ∧ w = w' := by
  obtain ⟨a, c, rfl⟩ := Row.form h
  have HR := Lib.hid h
  clear h
  go_enter Tryz.func77, Tryz.ntmps77
  go_wp2
  go_loop [8] (fun i => ∃ k : Nat, k ≤ l.length ∧ i = .int .i64 k ∧ Hid (fidx longP l 0 = fidx longP (l.drop k) k)) (fun i => l.length - (intOf i).toNat)
  case atStart => exact ⟨0, Nat.zero_le _, rfl, rfl⟩
  case round =>
    obtain ⟨k, hk, rfl, H⟩ := hrel
    by_cases hlt : k < l.length
    · obtain ⟨g, off, hak, hSg, hcell⟩ := HR.out.at hlt
      subst hak
      have HG := Lib.hid (show l.getD k ⟨#[]⟩ = l[k] by simp [hlt])
      rw [HG.out] at hcell
      have HF := Lib.hid (fidx_step longP l k hlt)
      cases hb : longP l[k]
      · go_wp2_with (go_at_call 48; refine (pathsIn1_c _ _).mono ?_; rintro e w' ⟨rfl, rfl⟩)
        go_round
        case rel => exact ⟨k + 1, hlt, by go_num, by rw [H.out, HF.out, hb]; rfl⟩
        case measure => simp [intOf]; omega
      · go_wp2_with (go_at_call 48; refine (pathsIn1_c _ _).mono ?_; rintro e w' ⟨rfl, rfl⟩)
        go_ret
        exact ⟨by rw [H.out, HF.out, hb]; rfl, rfl⟩
    · go_wp2
      go_ret
      exact ⟨by rw [H.out, List.drop_of_length_le (by omega)]; rfl, rfl⟩
theorem containsLong_c (l : List ByteArray) (v : Value) (w : World) (S : Nat → Prop) (h : Strs w S v l) (hl : l.length ≤ 1099511627776) :
    Calls Tryz.prog 47 #[v, .func (.func 48) #[] #[]] w fun e w' => e = .returned (.bool (l.any longP)) ∧ w = w' := by
  go_enter Tryz.func47, Tryz.ntmps47
  go_wp2_with (go_at_call 77; refine (indexLong_c l v w S h hl).mono ?_; rintro e w' ⟨rfl, rfl⟩)
  go_ret
  exact ⟨by rw [← fidx_any _ _ 0]; rfl, rfl⟩

/-- impl.PathsIn -/
def pathsIn (l : List N) : Option (List ByteArray) := match valOf l with
  | none => none
  | some t => if ((t.paths []).map fun x => (⟨⟨x⟩⟩ : ByteArray)).any longP then none else some ((t.paths []).map fun x => ⟨⟨x⟩⟩)
theorem MadeS.strs {w : World} {B : Nat} {v : Value} {l : List ByteArray} (h : MadeS w B v l) : Strs w (fun b => B ≤ b ∧ b < w.heap.size) v l := (Row.of_owns h (fun _ hb => hb)).mono (fun _ h1 h2 => ⟨h1, h2⟩)
theorem MadeS.call {w w' : World} {B : Nat} {v : Value} {l : List ByteArray} (h : MadeS w B v l) (hb : Below w.heap.size w w') : MadeS w' B v l := owns_call h hb
/-- texts that are told, or none -/
def StrsPost (w : World) (r : Option (List ByteArray)) (e : Ending) (w' : World) : Prop :=
  ∃ sv, e = .returned (.tuple #[sv, .bool r.isSome]) ∧ MadeS w' w.heap.size sv (r.getD []) ∧ Below w.heap.size w w'

set_option maxRecDepth 100000 in
set_option maxHeartbeats 1000000 in
theorem implPathsIn_c (l : List N) (v : Value) (w : World) (S : Nat → Prop) (B : Nat) (hf : Fits l) (h : Nods w S v l) (hS : ∀ b, S b → b < w.heap.size) (hB : B ≤ w.heap.size) (ht : Tb B w) :
    Calls Tryz.prog 16 #[.agg #[v]] w (StrsPost w (pathsIn l)) := by
  have HB0 := Lib.hid ((Below.refl w.heap.size w).alloc (Nat.le_refl _) (.cells #[v] 28))
  have hvo := valOf_c l v (w.alloc (.cells #[v] 28)) S B hf (Row.frame h (Below.fr HB0.out hS) HB0.out.size) (fun b hb => by have := hS b hb; simp; omega) (by simp; omega) (ht.on (HB0.out.mono hB))
  obtain ⟨a, c, rfl⟩ := Row.form h
  have HT := Lib.hid ht
  have HF := Lib.hid hf
  clear h hS ht hf
  rcases hr : valOf l with _ | t
  · have HP : Hid (pathsIn l = none) := by unfold Hid pathsIn; rw [hr]
    rw [hr] at hvo
    have HVO := Lib.hid hvo
    clear hvo hr
    go_enter Tryz.func16, Tryz.ntmps16
    go_wp2_with fail
    refine HVO.out.mono ?_
    rintro e w1 ⟨hI, rfl⟩
    go_wp2
    go_ret2
    rw [HP.out]
    exact ⟨_, rfl, World.ownsRow_nil _ _ _ _, HB0.out.trans (hI.mono (by simp))⟩
  · have hsh := valOf_tree hr
    have hcnt : t.cnt ≤ 80 := hsh.2.2
    have HW := Lib.hid hsh.1; have HBd := Lib.hid hsh.2.1
    obtain ⟨ps, hps⟩ : ∃ ps, (t.paths []).map (fun x => (⟨⟨x⟩⟩ : ByteArray)) = ps := ⟨_, rfl⟩
    have HP : Hid (pathsIn l = if ps.any longP then none else some ps) := by unfold Hid pathsIn; rw [hr]; simp only; rw [hps]
    have HPs : Hid ((t.paths []).map strv = ps.map Value.string) := by unfold Hid; rw [← hps, List.map_map]; rfl
    have hpl : ps.length = t.cnt := by rw [← hps, List.length_map, T.paths_len]
    rw [hr] at hvo
    have HVO := Lib.hid hvo
    have HPl := Lib.hid hpl
    have hpl' : ps.length ≤ 80 := by omega
    clear hvo hr hsh hps hpl
    have hvt : ∀ u w1 (S1 : Nat → Prop), IsVal w1 S1 t u → (∀ b, S1 b → b < w1.heap.size) → Below w.heap.size w w1 → Calls Tryz.prog 46 #[u, .slice none 0 0, .string ⟨#[]⟩] w1 fun e w' => ∃ sv, e = .returned sv ∧ MadeS w' w1.heap.size sv ps ∧ Below w1.heap.size w1 w' := fun u w1 S1 hu hS1 hb1 => by
      refine (paths_c _ t u w1 S1 ⟨#[]⟩ (.slice none 0 0) 0 w1.heap.size [] (Nat.le_refl _) (by omega) (by show 0 + _ ≤ _; omega) HW.out HBd.out hu hS1 (Nat.le_refl _) ((HT.out.on (hb1.mono hB)).up (Nat.le_trans hB hb1.size)) (World.ownsRow_nil _ _ _ _)).mono ?_
      rintro e w' ⟨out', rfl, ho, hI⟩
      refine ⟨out', rfl, ?_, hI⟩
      rw [Nat.zero_add, List.nil_append, ← HPl.out] at ho
      unfold MadeS
      rw [← HPs.out]
      exact ho
    have HVT := Lib.hid hvt
    clear hvt
    cases hany : ps.any longP
    all_goals
      rw [hany] at HP
      go_enter Tryz.func16, Tryz.ntmps16
      go_wp2_with fail
      refine HVO.out.mono ?_
      rintro e w1 ⟨hI, u, rfl, hu⟩
      obtain ⟨bu, rfl, _⟩ := hu.ptr
      have HU := Lib.hid hu
      have HX := Lib.hid (HB0.out.trans (hI.mono (by simp)))
      clear hI hu
      go_wp2_with fail
      refine (HVT.out _ w1 _ (IsVal.lt HU.out) (fun b hb => hb.2) HX.out).mono ?_
      rintro e w2 ⟨sv, rfl, hm, hI⟩
      have HM := Lib.hid hm
      have HX2 := Lib.hid (HX.out.trans (hI.mono HX.out.size))
      have HCo := Lib.hid (containsLong_c ps sv w2 _ hm.strs (by omega))
      obtain ⟨xs, ys, rfl⟩ := owns_form hm
      rw [hany] at HCo
      clear hm hI
      go_wp2_with fail
      refine HCo.out.mono ?_
      rintro e w3 ⟨rfl, rfl⟩
      go_wp2
      go_ret2
      rw [HP.out]
    · exact ⟨_, rfl, owns_base HM.out HX.out.size, HX2.out⟩
    · exact ⟨_, rfl, World.ownsRow_nil _ _ _ _, HX2.out⟩
end Go.Proofs.YtbldchemgkfdcaaGreatDoor
