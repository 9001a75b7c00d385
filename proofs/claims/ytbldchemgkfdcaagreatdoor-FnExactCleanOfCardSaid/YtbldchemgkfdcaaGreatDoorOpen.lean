/- the arguments of the laws opened: a slice of nodes, a value. -/
import Derived.Test.YtbldchemgkfdcaaGreatDoorRowKit
namespace Go.Proofs.YtbldchemgkfdcaaGreatDoor
open Go.ChangeShapes Go.WideShapes Go.RowKit Go.Deep Go.Joins

theorem list_of {α : Type} {Q : Nat → α → Prop} : ∀ n, (∀ i, i < n → ∃ x, Q i x) → ∃ l : List α, l.length = n ∧ ∀ i (h : i < l.length), Q i l[i]
  | 0, _ => ⟨[], rfl, fun i h => by simp at h⟩
  | n + 1, h => by
    obtain ⟨l, hl, hq⟩ := list_of n (fun i hi => h i (by omega))
    obtain ⟨x, hx⟩ := h n (by omega)
    refine ⟨l ++ [x], by simp [hl], fun i hi => ?_⟩
    by_cases hin : i < l.length
    · rw [List.getElem_append_left hin]; exact hq i hin
    · have : i = l.length := by simp at hi; omega
      subst this
      rw [List.getElem_append_right (Nat.le_refl _)]
      simp only [Nat.sub_self, List.getElem_cons_zero]
      rw [hl]; exact hx

section
variable {H : Type} {enc : TypeId × Value → H} {P : Program} {w : World} {base : Nat} {spare : Nat → Bool} {held : Bool}
theorem open_slice_fields {t e : TypeId} {fs : Array Field} {fuel : Nat} {cs : List Value} {x : DataW H × List MemPlace} (ht : P.underlying t = some (.slice e)) (he : P.underlying e = some (.struct fs))
    (hone : oneCellFields P fs = true) (hC : P.cellsOf e = fs.size) (h : DataW.trod enc P w base spare held fuel t cs = some x) :
    (cs = [.slice none 0 0] ∧ x = (.nil, [])) ∨
    ∃ (a : Addr) (len cap m : Nat) (D : Nat → DataW H) (Pl : Nat → List MemPlace), cs = [.slice (some a) len cap] ∧ base ≤ a.block ∧ len ≤ cap ∧ cap ≤ maxLen ∧ m = (if spare a.block then cap else len) ∧
      x = (.slice ((List.range len).map D) ((List.range (m - len)).map fun j => D (len + j)), MemPlace.row a (m * fs.size) ++ (List.range m).flatMap Pl) ∧
      ∀ i, i < m → ∃ (ys : List (DataW H × List MemPlace)) (n : Nat), D i = .agg (ys.map (·.1)) ∧ Pl i = ys.flatMap (·.2) ∧ ys.length = fs.size ∧
        ∀ (j : Nat) (f : Field), fs[j]? = some f → ∃ (v : Value) (y : DataW H × List MemPlace), w.cell? (a.add (i * fs.size + j)) = some v ∧ ys[j]? = some y ∧ DataW.trod enc P w base spare held n f.type [v] = some y := by
  rcases open_slice ht h with h0 | ⟨a, len, cap, m, n, D, Pl, hcs, hb, hl, hm, hmm, hx, hi⟩
  · exact .inl h0
  · refine .inr ⟨a, len, cap, m, D, Pl, hcs, hb, hl, hm, hmm, by rw [hC] at hx; exact hx, fun i him => ?_⟩
    obtain ⟨cs', hc, ht'⟩ := hi i him
    rw [hC] at hc
    obtain ⟨ys, n', hn', hy, hlen, hyl, hf⟩ := DataW.trod_struct he ht'
    obtain ⟨_, hcl, hat⟩ := World.cells?_some hc
    simp only [Prod.mk.injEq] at hy
    refine ⟨ys, n', hy.1, hy.2, hyl, fun j f hj => ?_⟩
    obtain ⟨ho, hk⟩ := hone_of hone j f hj
    have hjl : j < fs.size := (Array.getElem?_eq_some_iff.1 hj).1
    have hcell := hat j hjl
    have hv : cs'[j]? = some (cs'[j]'(by omega)) := List.getElem?_eq_getElem (by omega)
    have h1 := hf j f hj
    rw [ho, hk] at h1
    have hone' : (cs'.drop j).take 1 = [cs'[j]'(by omega)] := by
      rw [List.drop_eq_getElem_cons (by omega)]
      rfl
    rw [hone'] at h1
    have hys : ys[j]? = some (ys[j]'(by omega)) := List.getElem?_eq_getElem (by omega)
    refine ⟨_, _, ?_, hys, h1.trans hys⟩
    rw [← Go.Deep.add_add, hcell, hv]
theorem open_agg1 {r : Reach} {b0 : Nat} {t : TypeId} {f0 : Field} {v : Value} {d : DataW H} {p : List MemPlace} (hs : P.underlying t = some (.struct #[f0])) (hone : oneCellFields P #[f0] = true) (hC : P.cellsOf t = 1)
    (hv : Value.okWide P w r b0 t v) (h : DataW.Trod enc P w base spare held t v d p) :
    ∃ (v0 : Value) (y0 : DataW H × List MemPlace) (n : Nat), v = .agg #[v0] ∧ d = .agg [y0.1] ∧ p = y0.2 ∧ DataW.trod enc P w base spare held n f0.type [v0] = some y0 := by
  obtain ⟨cs, rfl, hsz⟩ := okWide_struct hs hv
  obtain ⟨l⟩ := cs
  match l, hsz.trans hC with
  | [c0], _ =>
    obtain ⟨fuel, hf⟩ := h
    obtain ⟨xs, n, _, hx, _, hlen, hg⟩ := DataW.trod_struct hs hf
    obtain ⟨o0, k0⟩ := hone_of hone 0 f0 rfl
    match xs, hlen with
    | [y0], _ =>
      simp only [Prod.mk.injEq] at hx
      exact ⟨c0, y0, n, rfl, by simpa using hx.1, by simpa using hx.2, by simpa [Value.cells, o0, k0] using hg 0 f0 rfl⟩
theorem weightsAll_mem {e : TypeId} : ∀ {l : List (DataW H)} {d : DataW H}, d ∈ l → ∀ n ∈ d.weights P e, n ∈ DataW.weightsAll P e l
  | d' :: r, d, hd, n, hn => by
    simp only [DataW.weightsAll, List.mem_append]
    rcases List.mem_cons.1 hd with rfl | h
    · exact Or.inl hn
    · exact Or.inr (weightsAll_mem h n hn)
end

section
variable {H : Type} {enc : TypeId × Value → H} {w : World}
theorem uNodeL : ∃ f0 f1 f2 f3 f4, Tryz.prog.underlying 95 = some (.struct #[f0, f1, f2, f3, f4]) ∧ f0.type = 3 ∧ f1.type = 3 ∧ f2.type = 9 ∧ f3.type = 9 ∧ f4.type = 3 ∧ oneCellFields Tryz.prog #[f0, f1, f2, f3, f4] = true :=
  ⟨_, _, _, _, _, Tryz.underlying95, rfl, rfl, rfl, rfl, rfl, by kernel_rfl⟩
theorem cNodeL : Tryz.prog.cellsOf 95 = 5 := by kernel_rfl
theorem uValueL : ∃ f0, Tryz.prog.underlying 24 = some (.struct #[f0]) ∧ f0.type = 22 ∧ oneCellFields Tryz.prog #[f0] = true :=
  ⟨_, Tryz.underlying24, rfl, by kernel_rfl⟩
theorem cValueL : Tryz.prog.cellsOf 24 = 1 := by kernel_rfl
theorem bNodeL : Tryz.prog.bytesOf 95 = 56 := by kernel_rfl

/-- one node's cells and what they read as -/
theorem open_node {n : Nat} {a : Addr} {i : Nat} {ys : List (DataW H × List MemPlace)} {f0 f1 f2 f3 f4 : Field} (t0 : f0.type = 3) (t1 : f1.type = 3) (t2 : f2.type = 9) (t3 : f3.type = 9) (t4 : f4.type = 3)
    (hl : ys.length = 5) (hf : ∀ (j : Nat) (f : Field), (#[f0, f1, f2, f3, f4] : Array Field)[j]? = some f → ∃ (v : Value) (y : DataW H × List MemPlace), w.cell? (a.add (i * 5 + j)) = some v ∧ ys[j]? = some y ∧ DataW.trod enc Tryz.prog w 0 (fun _ => true) true n f.type [v] = some y) :
    ∃ x : N, (∀ (j : Nat) (u : Value), x.cells[j]? = some u → w.cell? (a.add (i * 5 + j)) = some u) ∧ ys.map (·.1) = [.lit (.int .i64 x.kind), .lit (.int .i64 x.num), .lit (.string x.text.data.toList), .lit (.string x.name.data.toList), .lit (.int .i64 x.up)] := by
  obtain ⟨v0, y0, c0, e0, r0⟩ := hf 0 f0 rfl
  obtain ⟨v1, y1, c1, e1, r1⟩ := hf 1 f1 rfl
  obtain ⟨v2, y2, c2, e2, r2⟩ := hf 2 f2 rfl
  obtain ⟨v3, y3, c3, e3, r3⟩ := hf 3 f3 rfl
  obtain ⟨v4, y4, c4, e4, r4⟩ := hf 4 f4 rfl
  rw [t0] at r0; rw [t1] at r1; rw [t2] at r2; rw [t3] at r3; rw [t4] at r4
  obtain ⟨n0, h0, rfl, _⟩ := DataW.trod_int Tryz.underlying3 r0
  obtain ⟨n1, h1, rfl, _⟩ := DataW.trod_int Tryz.underlying3 r1
  obtain ⟨n2, h2, rfl, _⟩ := DataW.trod_string Tryz.underlying9 r2
  obtain ⟨n3, h3, rfl, _⟩ := DataW.trod_string Tryz.underlying9 r3
  obtain ⟨n4, h4, rfl, _⟩ := DataW.trod_int Tryz.underlying3 r4
  simp only [List.cons.injEq, and_true] at h0 h1 h2 h3 h4
  subst h0; subst h1; subst h2; subst h3; subst h4
  match ys, hl with
  | [z0, z1, z2, z3, z4], _ =>
    simp only [List.getElem?_cons_zero, List.getElem?_cons_succ, Option.some.injEq] at e0 e1 e2 e3 e4
    subst e0; subst e1; subst e2; subst e3; subst e4
    refine ⟨⟨n0, n1, n2, n3, n4⟩, fun j u hu => ?_, rfl⟩
    match j, hu with
    | 0, hu => simp only [N.cells, List.getElem?_cons_zero, Option.some.injEq] at hu; subst hu; exact c0
    | 1, hu => simp only [N.cells, List.getElem?_cons_zero, List.getElem?_cons_succ, Option.some.injEq] at hu; subst hu; exact c1
    | 2, hu => simp only [N.cells, List.getElem?_cons_zero, List.getElem?_cons_succ, Option.some.injEq] at hu; subst hu; exact c2
    | 3, hu => simp only [N.cells, List.getElem?_cons_zero, List.getElem?_cons_succ, Option.some.injEq] at hu; subst hu; exact c3
    | 4, hu => simp only [N.cells, List.getElem?_cons_zero, List.getElem?_cons_succ, Option.some.injEq] at hu; subst hu; exact c4
    | _ + 5, hu => simp [N.cells] at hu

theorem cellsN_len (l : List N) : (l.flatMap N.cells).length = l.length * 5 := by
  induction l with
  | nil => rfl
  | cons x l ih => rw [List.flatMap_cons, List.length_append, ih, List.length_cons]; show 5 + _ = _; omega
theorem cellsN_at : ∀ (l : List N) (j : Nat) (u : Value), (l.flatMap N.cells)[j]? = some u → ∃ i, ∃ h : i < l.length, ∃ k, k < 5 ∧ j = i * 5 + k ∧ (l[i]).cells[k]? = some u
  | [], j, u, h => by simp at h
  | x :: l, j, u, h => by
    rw [List.flatMap_cons] at h
    by_cases hj : j < 5
    · rw [List.getElem?_append_left (by simpa [N.cells] using hj)] at h
      exact ⟨0, by simp, j, hj, by omega, h⟩
    · rw [List.getElem?_append_right (by simp [N.cells]; omega)] at h
      obtain ⟨i, hi, k, hk, he, hc⟩ := cellsN_at l _ u h
      exact ⟨i + 1, by simpa using hi, k, hk, by simp [N.cells] at he; omega, by simpa using hc⟩

set_option maxRecDepth 100000 in
/-- a slice of nodes that came in -/
theorem open_nodes {fuel : Nat} {v0 : Value} {x : DataW H × List MemPlace} (h : DataW.trod enc Tryz.prog w 0 (fun _ => true) true fuel 22 [v0] = some x) (hw : ∀ n ∈ x.1.weights Tryz.prog 22, n ≤ reachBytes) :
    ∃ l, Nods w (fun b => b < w.heap.size) v0 l ∧ l.length ≤ 140737488355328 ∧ ∀ y ∈ l, y.text.size ≤ 140737488355328 ∧ y.name.size ≤ 140737488355328 := by
  obtain ⟨f0, f1, f2, f3, f4, hu, t0, t1, t2, t3, t4, hone⟩ := uNodeL
  rcases open_slice_fields Tryz.underlying22 hu hone cNodeL h with ⟨hcs, hx⟩ | ⟨a, len, cap, m, D, Pl, hcs, _, hlc, hcm, hm, rfl, hi⟩
  · simp only [List.cons.injEq, and_true] at hcs
    subst hcs
    exact ⟨[], Row.nil _ _ _, by simp, fun y hy => by cases hy⟩
  · simp only [List.cons.injEq, and_true] at hcs
    subst hcs
    simp only [if_true] at hm
    subst hm
    obtain ⟨l, hl, hq⟩ := list_of (Q := fun i (x : N) => (∀ (j : Nat) (u : Value), x.cells[j]? = some u → w.cell? (a.add (i * 5 + j)) = some u) ∧ D i = .agg [.lit (.int .i64 x.kind), .lit (.int .i64 x.num), .lit (.string x.text.data.toList), .lit (.string x.name.data.toList), .lit (.int .i64 x.up)]) len (fun i hlt => by
      obtain ⟨ys, n, hD, _, hyl, hf⟩ := hi i (by omega)
      obtain ⟨x, h1, h2⟩ := open_node t0 t1 t2 t3 t4 hyl hf
      exact ⟨x, h1, by rw [hD, h2]⟩)
    have hwt : ∀ (i : Nat) (hlt : i < l.length), ∀ n ∈ (D i).weights Tryz.prog 95, n ≤ reachBytes := fun i hlt n hn => hw n (by
      simp only [DataW.weights, Tryz.underlying22, List.mem_cons, List.mem_append]
      exact Or.inr (Or.inl (weightsAll_mem (List.mem_map_of_mem (List.mem_range.2 (by omega))) n hn)))
    have hlen : len * 56 ≤ reachBytes := by
      have := hw ((((List.range len).map D).length + ((List.range (m - len)).map fun j => D (len + j)).length) * 56) (by
        simp only [DataW.weights, Tryz.underlying22, List.mem_cons, bNodeL, true_or])
      simp only [List.length_map, List.length_range] at this
      omega
    have hrb : reachBytes = 140737488351232 := rfl
    refine ⟨l, ⟨cellsN_len l, some a, m, by rw [hl], by omega, hcm, ?_⟩, by omega, fun y hy => ?_⟩
    · by_cases h0 : l.length = 0
      · exact .inl h0
      · have hc0 := (hq 0 (by omega)).1 0 _ rfl
        have hsp : a.spot = none := by
          cases hs : a.spot with
          | none => rfl
          | some k =>
            exfalso
            have : (a.add (0 * 5 + 0)) = a := by unfold Addr.add; simp
            rw [this] at hc0
            unfold World.cell? at hc0
            split at hc0
            · simp [hs] at hc0
            · cases hc0
        obtain ⟨g, off, sp⟩ := a
        simp only at hsp
        subst hsp
        refine .inr ⟨g, off, rfl, ?_, ?_, fun j u hu => ?_⟩
        · rw [add_off] at hc0; exact lt_cell hc0
        · rw [add_off] at hc0; exact lt_cell hc0
        · obtain ⟨i, hlt, k, hk, rfl, hc⟩ := cellsN_at l j u hu
          have := (hq i hlt).1 k u hc
          rwa [add_off] at this
    · obtain ⟨i, hlt, rfl⟩ := List.getElem_of_mem hy
      have hD := (hq i hlt).2
      have h1 := hwt i hlt
      rw [hD] at h1
      have hue := hu
      simp only [DataW.weights, hue, List.map_cons, List.map_nil, DataW.weightsEach, t0, t1, t2, t3, t4, List.mem_append, List.mem_singleton, List.not_mem_nil, or_false, false_or] at h1
      have ha := h1 l[i].text.data.toList.length (.inl rfl)
      have hb := h1 l[i].name.data.toList.length (.inr rfl)
      rw [hrb] at ha hb
      refine ⟨?_, ?_⟩
      · show l[i].text.data.toList.length ≤ _; omega
      · show l[i].name.data.toList.length ≤ _; omega

set_option maxRecDepth 100000 in
/-- a value that came in -/
theorem open_value {r : Reach} {b0 : Nat} {v : Value} {d : DataW H} {p : List MemPlace} (hv : Value.okWide Tryz.prog w r b0 24 v) (h : DataW.Trod enc Tryz.prog w 0 (fun _ => true) true 24 v d p)
    (hw : ∀ n ∈ d.weights Tryz.prog 24, n ≤ reachBytes) :
    ∃ v0 l, v = .agg #[v0] ∧ Nods w (fun b => b < w.heap.size) v0 l ∧ l.length ≤ 140737488355328 ∧ ∀ y ∈ l, y.text.size ≤ 140737488355328 ∧ y.name.size ≤ 140737488355328 := by
  obtain ⟨f0, hu, t0, hone⟩ := uValueL
  obtain ⟨v0, y0, n, rfl, rfl, rfl, ht⟩ := open_agg1 hu hone cValueL hv h
  rw [t0] at ht
  obtain ⟨l, h1, h2, h3⟩ := open_nodes ht (fun n hn => hw n (by simp only [DataW.weights, hu, List.map_cons, List.map_nil, DataW.weightsEach, t0, List.append_nil]; exact hn))
  exact ⟨v0, l, rfl, h1, h2, h3⟩
end
end Go.Proofs.YtbldchemgkfdcaaGreatDoor
