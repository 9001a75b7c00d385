/- words for the rows: the table, the arguments opened, the arguments read again. -/
import Derived.Test.YtbldchemgkfdcaaGreatDoorRows
import Derived.Test.YtbldchemgkfdcaaGreatDoorWrite
import Derived.ProofKit
import Derived.OpenShut
import Derived.Deep.DeepHandedRow
import Derived.Deep.Slices
import Derived.Deep.Fields
import Derived.Lib.LaidTab
import Derived.LaidSub
import Derived.ReadAgain
import Derived.SizedLaws
import Derived.ChangeSame
import Derived.Lib.SmallJoins
namespace Go.Proofs.YtbldchemgkfdcaaGreatDoor
open Go.ChangeShapes Go.WideShapes Go.ChangeAt Go.RowKit Go.Deep Go.Joins

theorem rk_own : ownKnob Tryz.prog.godebug = none := by kernel_rfl
theorem rk_kids : Kids Tryz.prog (· < Tryz.prog.types.size) := kids_rows (by kernel_rfl) (by kernel_rfl)
theorem rk_full : ∀ t e, t < Tryz.prog.types.size → Tryz.prog.underlying t = some (.slice e) → 0 < Tryz.prog.cellsOf e := slices_full_of Tryz.prog (by kernel_rfl)
theorem rk_gTab : Tryz.prog.globalNamed "internal/strconv.uint64pow10" = some 1 := by kernel_rfl
theorem rk_gTabType : (Tryz.prog.globals[1]?).map (·.type) = some 172 := by kernel_rfl
theorem rk_cells20 : Tryz.prog.cellsOf 172 = 20 := by kernel_rfl
theorem rk_cells1 : Tryz.prog.cellsOf 162 = 1 := by kernel_rfl
/-- the table of powers of ten stands where the row lists it -/
theorem tb_of {l : List (String × DataW Unit)} (hl : l.filter (fun x => x.1 == "internal/strconv.uint64pow10") = [("internal/strconv.uint64pow10", Lib.tabData .u64 Lib.pow10Tab)]) {W : World} (h : laidMetH Tryz.prog l W) : Tb W.heap.size W :=
  Lib.tabBelow_of_tabIs (Lib.tabIs_of_head (rest := []) rk_gTab rk_gTabType Tryz.underlying172 Tryz.underlying162 rk_cells1 rk_cells20 (by have := h.filter (fun x => x.1 == "internal/strconv.uint64pow10"); rw [hl] at this; exact this))

section
variable {H : Type} {enc : TypeId × Value → H}
/-- the arguments read again behind the call -/
theorem args_again {ts : List TypeId} (hT : ∀ t ∈ ts, t < Tryz.prog.types.size) {W W' : World} : ∀ {vs : List Value} {ds : List (DataW H)} {ps : List MemPlace}, DataW.TrodAll enc Tryz.prog W 0 (fun _ => true) true ts vs ds ps → (∀ p ∈ ps, W.sameAt W' p) → DataW.TrodAll enc Tryz.prog W' 0 (fun _ => true) true ts vs ds ps := by
  induction ts with
  | nil =>
    intro vs ds ps h _
    cases vs <;> cases ds <;> exact h
  | cons t ts ih =>
    intro vs ds ps h hs
    cases vs with
    | nil => cases ds <;> exact h
    | cons v vs =>
      cases ds with
      | nil => exact h
      | cons d ds =>
        obtain ⟨p, q, ⟨n, h1⟩, h2, rfl⟩ := h
        exact ⟨p, q, ⟨n, DataW.trod_carry n t _ _ h1 (fun x hx => hs x (List.mem_append_left _ hx))⟩, ih (fun t ht => hT t (List.mem_cons_of_mem _ ht)) h2 (fun x hx => hs x (List.mem_append_right _ hx)), rfl⟩

theorem post_of_below {P : Program} {f : Func} {s : ChangeSpec} {apart fresh handsOn again : Bool} {W W' : World} {args : Array Value} {v : Value} {ds gs : List (DataW H)} {before pa pv : List MemPlace}
    (hW : DataW.Whole enc P f.params.toList s.vars apart W args.toList ds gs before)
    (hres : ∀ (b : Nat) (sp : Nat → Bool) (hd : Bool), DataW.TrodAll enc P W' b sp hd f.resultTypes.toList (v.resultList f.resultTypes.size) (s.fn H (ds ++ gs)).results [])
    (hargs : ∀ sp : Nat → Bool, (∀ p ∈ before, sp p.block = true) → DataW.TrodAll enc P W' 0 sp true f.params.toList args.toList (s.fn H (ds ++ gs)).args pa)
    (hvars : ∀ sp : Nat → Bool, (∀ p ∈ before, sp p.block = true) → DataW.TrodVars enc P W' sp s.vars (s.fn H (ds ++ gs)).vars pv)
    (hps : before = pa ++ pv) (hb : Below W.heap.size W W')
    (hok : ∀ (j : Nat) (t : TypeId) (r : Value), f.resultTypes[j]? = some t → (v.resultList f.resultTypes.size)[j]? = some r → Value.okWide P W' .any 0 t r) :
    s.post enc P f apart fresh handsOn again W args v W' := by
  have hlt : ∀ p ∈ before, p.block < W.heap.size := fun p hp => hW.lt p hp
  have hold : ∀ p ∈ before, (fun b => decide (b < W.heap.size)) p.block = true := fun p hp => by simpa using hlt p hp
  refine ⟨ds, gs, before, [], pa, pv, hW, hres _ _ _, hargs _ hold, hvars _ hold, World.keptBut_mono (fun p hp => ⟨hp, ?_⟩) (hb.frame (· ∈ before)), fun _ => ?_⟩
  · rw [hps, List.mem_append] at hp
    exact Or.inr hp
  · obtain ⟨_, _, _, _, _, hz, hn⟩ := hW
    refine ⟨hok, _, _, ([] ++ pa) ++ pv, ⟨[] ++ pa, pv, trodAll_append (hargs _ (fun _ _ => rfl)) (hres _ _ _), hvars _ (fun _ _ => rfl), rfl, ?_, ?_⟩, ?_⟩
    · intro b off hp
      have hin : MemPlace.cell b off ∈ before := by rw [hps]; simpa using hp
      rw [hb.frozen (hlt _ hin)]
      exact hz b off hin
    · intro ha
      have := hn ha
      rw [hps] at this
      simpa using this
    · intro p hp _
      rw [hps]
      simpa using hp
theorem same_below {B : Nat} {W W' : World} (hb : Below B W W') {p : MemPlace} (hp : p.block < B) : W.sameAt W' p := by
  cases p with
  | cell b off => exact hb.cell (p := ⟨b, off, none⟩) hp
  | map b => exact hb.block b hp

set_option maxRecDepth 100000 in
theorem ok_true (W' : World) : Value.okWide Tryz.prog W' .any 0 4 (.bool true) := okWide_bool_mk (P := Tryz.prog) (W' := W') (t := 4) Tryz.underlying4 true
theorem one_true : Value.resultList 1 (Value.bool true) = [Value.bool true] := by simp [Value.resultList]
set_option maxRecDepth 100000 in
/-- a law's row: true, the arguments as they were -/
theorem law_post {f : Func} {s : ChangeSpec} {W W' : World} {args : Array Value} {ds gs : List (DataW H)} {before : List MemPlace}
    (hT : ∀ t ∈ f.params.toList, t < Tryz.prog.types.size) (hvars : s.vars = []) (hfn : s.fn H (ds ++ []) = { results := [.lit (.bool true)], args := ds })
    (hres : f.resultTypes = #[4])
    (hW : DataW.Whole enc Tryz.prog f.params.toList s.vars false W args.toList ds gs before) (hb : Below W.heap.size W W') :
    s.post enc Tryz.prog f false true false false W args (.bool true) W' := by
  have hW' := hW
  obtain ⟨p, q, hA, hV, rfl, hfz, hn⟩ := hW
  rw [hvars] at hV
  obtain ⟨rfl, rfl⟩ := trodVars_none hV
  simp only [List.append_nil] at hW'
  have hlt : ∀ x ∈ p, x.block < W.heap.size := fun x hx => hW'.lt x (by simpa using hx)
  have hA' := args_again hT hA (fun x hx => same_below hb (hlt x hx))
  refine post_of_below (pv := []) (pa := p) hW' (fun _ _ _ => ?_) (fun sp hsp => ?_) (fun _ _ => ?_) (by simp) hb ?_
  · rw [hfn, hres]; exact trodAll_mk1 (shut_bool Tryz.underlying4 _)
  · rw [hfn]; exact DataW.TrodAll.respare rk_kids rk_full hT hA' (fun x hx => hsp x (by simpa using hx))
  · rw [hfn, hvars]; rfl
  · exact ok_one (v := .bool true) hres one_true (ok_true W')
end
end Go.Proofs.YtbldchemgkfdcaaGreatDoor
