/- laws.FnExactCleanOf answers true and leaves its arguments as they were, for every value, where the tables that its row lists stand. -/
import Derived.Test.YtbldchemgkfdcaaGreatDoorCards
import Derived.Test.YtbldchemgkfdcaaGreatDoorTie
import Derived.Test.YtbldchemgkfdcaaGreatDoorOpen
import Derived.Test.YtbldchemgkfdcaaGreatDoorRowTab
import Derived.Test.YtbldchemgkfdcaaGreatDoorFnClean
namespace Go.Proofs.YtbldchemgkfdcaaGreatDoor
open Go.ChangeShapes Go.WideShapes Go.ChangeAt Go.RowKit

set_option maxRecDepth 100000 in
theorem cleanOf_contract (H : Type) (enc : TypeId × Value → H) (W : World) (base : Nat) (args : Array Value) (ds gs : List (DataW H)) (before : List MemPlace)
    (hval : ∀ (j : Nat) t v, Tryz.f5.params[j]? = some t → args[j]? = some v → Value.okWide Tryz.prog W .any base t v)
    (hW : DataW.Whole enc Tryz.prog Tryz.f5.params.toList Rows.fnExactCleanOfSpec.vars false W args.toList ds gs before)
    (hwt : (DataW.weightsEach Tryz.prog (Tryz.f5.params.toList ++ (OpenSpec.ofChange Rows.fnExactCleanOfSpec).bare.plain.varTypes Tryz.prog) (ds ++ gs)).all (· ≤ reachBytes) = true) (hL : laidMetH Tryz.prog Rows.fnExactCleanOfRow.laid W) :
    Calls Tryz.prog 5 args W fun e W' => ∃ v, e = .returned v ∧ Rows.fnExactCleanOfSpec.post enc Tryz.prog Tryz.f5 false true false false W args v W' := by
  have hW' := hW
  obtain ⟨p, q, hA0, hV, rfl, hfz, hnd⟩ := hW
  have hA : DataW.TrodAll enc Tryz.prog W 0 (fun _ => true) true Tryz.f5.params.toList args.toList ds p := hA0
  rw [Tryz.params5] at hA hval hwt
  obtain ⟨v0, vs0, d0, ds0, p0, q0, hargs, rfl, rfl, h0, r0⟩ := trodAll_cons hA
  obtain ⟨rfl, rfl, rfl⟩ := trodAll_nil r0
  obtain rfl : args = #[v0] := by cases args; simp_all
  have hw0 : ∀ n ∈ d0.weights Tryz.prog 24, n ≤ reachBytes := fun n hn => by
    have := List.all_eq_true.1 hwt n (DataW.weights_mem_each (j := 0) rfl rfl n hn)
    simpa using this
  obtain ⟨sv, l, rfl, hN, hl, hsz⟩ := open_value (hval 0 24 v0 rfl rfl) h0 hw0
  have ht : Tb W.heap.size W := tb_of (by rfl) hL
  refine (fnClean_c l sv W _ W.heap.size hl hsz hN (fun b hb => hb) (Nat.le_refl _) ht).mono ?_
  rintro e W' ⟨rfl, hB⟩
  exact ⟨_, rfl, law_post (by rw [Tryz.params5]; decide) rfl rfl rfl hW' hB⟩

theorem cleanOf_met (os : Os) : laidMet Tryz.prog Rows.fnExactCleanOfRow.laid ((laidW Rows.fnExactCleanOfRow.laid os).forCall (fun _ _ => 0) ⟨#[], #[.agg #[.slice none 0 0]], []⟩).memory :=
  laidMet_of_run' 8 (by kernel_rfl) (by kernel_rfl)
theorem cleanOf_reads (os : Os) {H : Type} (enc : TypeId × Value → H) : ∃ places, DataW.whole enc Tryz.prog ((laidW Rows.fnExactCleanOfRow.laid os).forCall (fun _ _ => 0) ⟨#[], #[.agg #[.slice none 0 0]], []⟩).memory Tryz.f5.params.toList Rows.fnExactCleanOfSpec.vars false #[Value.agg #[.slice none 0 0]].toList 8 = some ([.agg [.nil]], [], places) :=
  ⟨[], by kernel_rfl⟩

set_option maxRecDepth 100000 in
theorem cleanOf_lifted (os : Os) (started : os.Started) (H : Type) (enc : TypeId × Value → H) (F : Stop.Interp) :
    ReturnsInHanded {} Tryz.checked os 5 .any ((OpenSpec.ofChange Rows.fnExactCleanOfSpec).preRow enc Tryz.prog Tryz.f5 Rows.fnExactCleanOfRow.domain false Rows.fnExactCleanOfRow.laid) (((OpenSpec.ofChange Rows.fnExactCleanOfSpec).at F).post enc Tryz.prog Tryz.f5 false true false false) := by
  obtain ⟨places, hx⟩ := cleanOf_reads os enc
  refine returnsInHanded_of_row (C := Tryz.checked) (s := OpenSpec.ofChange Rows.fnExactCleanOfSpec) rk_own started (by kernel_rfl) Tryz.func5
    (witness_row_at (enc := enc) (C := Tryz.checked) false (laidW Rows.fnExactCleanOfRow.laid os) #[.agg #[.slice none 0 0]] rfl (by kernel_rfl) (by kernel_rfl) (by kernel_rfl)
      (OpenSpec.preRow_of_cond 8 hx (by kernel_rfl) (fun k hk => by cases hk) (by kernel_rfl) (cleanOf_met os))) ?_
  intro W base args ds gs before hval hW _ _ hwt hL _ _
  exact cleanOf_contract H enc W base args ds gs before hval hW hwt hL

theorem cleanOf_said : Rows.FnExactCleanOfSaid :=
  OpenClaim.holds_of_cond 5 Tryz.f5 rfl rfl rfl rfl rfl rfl rfl ⟨rfl, rfl, rfl, rfl, rfl⟩ rfl rfl rfl rfl rfl (by kernel_rfl) Tryz.func5 (by kernel_rfl)
    (of_decide_eq_true (by kernel_rfl)) (by unfold Func.isWrapper; first | (rw [if_pos (by decide +kernel)]; kernel_rfl) | (rw [if_neg (by decide +kernel)]; exact ⟨rfl, rfl⟩))
    (fun os started H enc _ F => by rw [OpenClaim.pre_eq_preRow]; exact cleanOf_lifted os started H enc F)
theorem cleanOf_plain (f : FuncId) (fn : Func) (hf : Tryz.pinned.checked.prog.funcNamed "loop.example/g00274/laws.FnExactCleanOf" = some f) (hfn : Tryz.pinned.checked.prog.funcs[f]? = some fn) :
    true = Tryz.pinned.checked.prog.looks [] ∧ ∀ (j : Nat) t, fn.params[j]? = some t → Tryz.pinned.checked.prog.wantsStandIn t = false := by
  obtain rfl : f = 5 := Option.some.inj ((show Tryz.prog.funcNamed "loop.example/g00274/laws.FnExactCleanOf" = some 5 by kernel_rfl).symm.trans hf) |>.symm
  obtain rfl : fn = Tryz.f5 := (Option.some.inj (Tryz.func5.symm.trans hfn)).symm
  refine ⟨by kernel_rfl, fun j t ht => ?_⟩
  rw [Tryz.params5] at ht
  have hm := Array.mem_of_getElem? ht
  simp only [List.mem_toArray, List.mem_cons, List.not_mem_nil, or_false] at hm
  subst hm
  exact (show Tryz.prog.wantsStandIn 24 = false by kernel_rfl)
/-- the statement -/
theorem cleanOf_card : Rows.FnExactCleanOfCardSaid :=
  Claim7.holds_tied_plain_at .later [] _ _ _ _ cleanOf_said (fun _ h => by cases h) (by kernel_rfl) (fun _ h => by cases h) fnExactCleanOf_row_tie rfl ⟨rfl, rfl⟩ (by kernel_rfl) rfl cleanOf_plain (by kernel_rfl)
end Go.Proofs.YtbldchemgkfdcaaGreatDoor
#print axioms Go.Proofs.YtbldchemgkfdcaaGreatDoor.cleanOf_card
