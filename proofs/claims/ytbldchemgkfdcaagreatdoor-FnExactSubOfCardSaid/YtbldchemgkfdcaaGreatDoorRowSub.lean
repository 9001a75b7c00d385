/- laws.FnExactSubOf answers true and leaves its arguments as they were, for every value and every number, where the tables that its row lists stand. -/
import Derived.Test.YtbldchemgkfdcaaGreatDoorCards
import Derived.Test.YtbldchemgkfdcaaGreatDoorTie
import Derived.Test.YtbldchemgkfdcaaGreatDoorOpen
import Derived.Test.YtbldchemgkfdcaaGreatDoorFnSub
namespace Go.Proofs.YtbldchemgkfdcaaGreatDoor
open Go.ChangeShapes Go.WideShapes Go.ChangeAt Go.RowKit

/-- the cells of a table -/
def tabCells : DataW Unit → Array Value
  | .agg xs => (xs.map fun | .lit (.int k z) => Value.int k z | _ => undef).toArray
  | _ => #[]
/-- a world in which the listed tables stand -/
noncomputable def laidW (laid : List (String × DataW Unit)) (os : Os) : World :=
  laid.foldl (fun w x => match Tryz.prog.globalNamed x.1 with
    | some g => { w with heap := w.heap.modify g fun
      | .cells _ t frozen => .cells (tabCells x.2) t frozen
      | o => o }
    | none => w) (World.holding Tryz.prog os ⟨#[], #[], []⟩)

set_option maxRecDepth 100000 in
theorem subOf_contract (H : Type) (enc : TypeId × Value → H) (W : World) (base : Nat) (args : Array Value) (ds gs : List (DataW H)) (before : List MemPlace)
    (hval : ∀ (j : Nat) t v, Tryz.f3.params[j]? = some t → args[j]? = some v → Value.okWide Tryz.prog W .any base t v)
    (hW : DataW.Whole enc Tryz.prog Tryz.f3.params.toList Rows.fnExactSubOfSpec.vars false W args.toList ds gs before)
    (hwt : (DataW.weightsEach Tryz.prog (Tryz.f3.params.toList ++ (OpenSpec.ofChange Rows.fnExactSubOfSpec).bare.plain.varTypes Tryz.prog) (ds ++ gs)).all (· ≤ reachBytes) = true) (hL : laidMetH Tryz.prog Rows.fnExactSubOfRow.laid W) :
    Calls Tryz.prog 3 args W fun e W' => ∃ v, e = .returned v ∧ Rows.fnExactSubOfSpec.post enc Tryz.prog Tryz.f3 false true false false W args v W' := by
  have hW' := hW
  obtain ⟨p, q, hA0, hV, rfl, hfz, hnd⟩ := hW
  have hA : DataW.TrodAll enc Tryz.prog W 0 (fun _ => true) true Tryz.f3.params.toList args.toList ds p := hA0
  rw [Tryz.params3] at hA hval hwt
  obtain ⟨v0, vs0, d0, ds0, p0, q0, hargs, rfl, rfl, h0, r0⟩ := trodAll_cons hA
  obtain ⟨v1, vs1, d1, ds1, p1, q1, rfl, rfl, rfl, h1, r1⟩ := trodAll_cons r0
  obtain ⟨rfl, rfl, rfl⟩ := trodAll_nil r1
  obtain rfl : args = #[v0, v1] := by cases args; simp_all
  obtain ⟨z, rfl, rfl, rfl, hz⟩ := open_int Tryz.underlying3 (hval 1 3 v1 rfl rfl) h1
  have hw0 : ∀ n ∈ d0.weights Tryz.prog 24, n ≤ reachBytes := fun n hn => by
    have := List.all_eq_true.1 hwt n (DataW.weights_mem_each (j := 0) rfl rfl n hn)
    simpa using this
  obtain ⟨sv, l, rfl, hN, hl, hsz⟩ := open_value (hval 0 24 v0 rfl rfl) h0 hw0
  have ht : Tb W.heap.size W := tb_of (by rfl) hL
  refine (fnSub_c l sv z W _ W.heap.size hl hsz hN (fun b hb => hb) (Nat.le_refl _) ht).mono ?_
  rintro e W' ⟨rfl, hB⟩
  exact ⟨_, rfl, law_post (by rw [Tryz.params3]; decide) rfl rfl rfl hW' hB⟩

theorem subOf_met (os : Os) : laidMet Tryz.prog Rows.fnExactSubOfRow.laid ((laidW Rows.fnExactSubOfRow.laid os).forCall (fun _ _ => 0) ⟨#[], #[.agg #[.slice none 0 0], .int .i64 0], []⟩).memory :=
  laidMet_of_run' 8 (by kernel_rfl) (by kernel_rfl)
theorem subOf_reads (os : Os) {H : Type} (enc : TypeId × Value → H) : ∃ places, DataW.whole enc Tryz.prog ((laidW Rows.fnExactSubOfRow.laid os).forCall (fun _ _ => 0) ⟨#[], #[.agg #[.slice none 0 0], .int .i64 0], []⟩).memory Tryz.f3.params.toList Rows.fnExactSubOfSpec.vars false #[Value.agg #[.slice none 0 0], .int .i64 0].toList 8 = some ([.agg [.nil], .lit (.int .i64 0)], [], places) :=
  ⟨[], by kernel_rfl⟩

set_option maxRecDepth 100000 in
theorem subOf_lifted (os : Os) (started : os.Started) (H : Type) (enc : TypeId × Value → H) (F : Stop.Interp) :
    ReturnsInHanded {} Tryz.checked os 3 .any ((OpenSpec.ofChange Rows.fnExactSubOfSpec).preRow enc Tryz.prog Tryz.f3 Rows.fnExactSubOfRow.domain false Rows.fnExactSubOfRow.laid) (((OpenSpec.ofChange Rows.fnExactSubOfSpec).at F).post enc Tryz.prog Tryz.f3 false true false false) := by
  obtain ⟨places, hx⟩ := subOf_reads os enc
  refine returnsInHanded_of_row (C := Tryz.checked) (s := OpenSpec.ofChange Rows.fnExactSubOfSpec) rk_own started (by kernel_rfl) Tryz.func3
    (witness_row_at (enc := enc) (C := Tryz.checked) false (laidW Rows.fnExactSubOfRow.laid os) #[.agg #[.slice none 0 0], .int .i64 0] rfl (by kernel_rfl) (by kernel_rfl) (by kernel_rfl)
      (OpenSpec.preRow_of_cond 8 hx (by kernel_rfl) (fun k hk => by cases hk) (by kernel_rfl) (subOf_met os))) ?_
  intro W base args ds gs before hval hW _ _ hwt hL _ _
  exact subOf_contract H enc W base args ds gs before hval hW hwt hL

theorem subOf_said : Rows.FnExactSubOfSaid :=
  OpenClaim.holds_of_cond 3 Tryz.f3 rfl rfl rfl rfl rfl rfl rfl ⟨rfl, rfl, rfl, rfl, rfl⟩ rfl rfl rfl rfl rfl (by kernel_rfl) Tryz.func3 (by kernel_rfl)
    (of_decide_eq_true (by kernel_rfl)) (by unfold Func.isWrapper; first | (rw [if_pos (by decide +kernel)]; kernel_rfl) | (rw [if_neg (by decide +kernel)]; exact ⟨rfl, rfl⟩))
    (fun os started H enc _ F => by rw [OpenClaim.pre_eq_preRow]; exact subOf_lifted os started H enc F)
theorem subOf_plain (f : FuncId) (fn : Func) (hf : Tryz.pinned.checked.prog.funcNamed "loop.example/g00274/laws.FnExactSubOf" = some f) (hfn : Tryz.pinned.checked.prog.funcs[f]? = some fn) :
    true = Tryz.pinned.checked.prog.looks [] ∧ ∀ (j : Nat) t, fn.params[j]? = some t → Tryz.pinned.checked.prog.wantsStandIn t = false := by
  obtain rfl : f = 3 := Option.some.inj ((show Tryz.prog.funcNamed "loop.example/g00274/laws.FnExactSubOf" = some 3 by kernel_rfl).symm.trans hf) |>.symm
  obtain rfl : fn = Tryz.f3 := (Option.some.inj (Tryz.func3.symm.trans hfn)).symm
  refine ⟨by kernel_rfl, fun j t ht => ?_⟩
  rw [Tryz.params3] at ht
  have hm := Array.mem_of_getElem? ht
  simp only [List.mem_toArray, List.mem_cons, List.not_mem_nil, or_false] at hm
  rcases hm with rfl | rfl
  · exact (show Tryz.prog.wantsStandIn 24 = false by kernel_rfl)
  · exact (show Tryz.prog.wantsStandIn 3 = false by kernel_rfl)
/-- the statement -/
theorem subOf_card : Rows.FnExactSubOfCardSaid :=
  Claim7.holds_tied_plain_at .later [] _ _ _ _ subOf_said (fun _ h => by cases h) (by kernel_rfl) (fun _ h => by cases h) fnExactSubOf_row_tie rfl ⟨rfl, rfl⟩ (by kernel_rfl) rfl subOf_plain (by kernel_rfl)
end Go.Proofs.YtbldchemgkfdcaaGreatDoor
#print axioms Go.Proofs.YtbldchemgkfdcaaGreatDoor.subOf_card
