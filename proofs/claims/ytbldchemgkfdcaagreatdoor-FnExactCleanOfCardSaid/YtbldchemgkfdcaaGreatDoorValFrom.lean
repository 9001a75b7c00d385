/- impl.valFrom: a tree of the nodes from one on. -/
import Derived.Test.YtbldchemgkfdcaaGreatDoorNodeOK
import Derived.Deep.AppendLies
namespace Go.Proofs.YtbldchemgkfdcaaGreatDoor
open Go.RowKit

theorem Nods.at {w : World} {S : Nat → Prop} {n c : Nat} {a : Option Addr} {l : List N} (h : Nods w S (.slice a n c) l) {k : Nat} (hk : k < l.length) :
    ∃ g off, a = some ⟨g, off, none⟩ ∧ S g ∧ w.cell? ⟨g, off + k * 5, none⟩ = some (.int .i64 l[k].kind) ∧ w.cell? ⟨g, off + k * 5 + 1, none⟩ = some (.int .i64 l[k].num) ∧
      w.cell? ⟨g, off + k * 5 + 2, none⟩ = some (.string l[k].text) ∧ w.cell? ⟨g, off + k * 5 + 3, none⟩ = some (.string l[k].name) ∧ w.cell? ⟨g, off + k * 5 + 4, none⟩ = some (.int .i64 l[k].up) := by
  obtain ⟨hl, a', c', hv, _, _, h3⟩ := h
  simp only [Value.slice.injEq] at hv
  obtain ⟨rfl, rfl, rfl⟩ := hv
  rcases h3 with h3 | ⟨g, off, ha, hS, hg, hc⟩
  · omega
  · have key : ∀ j, j < 5 → (l.flatMap N.cells)[k * 5 + j]? = (l[k]).cells[j]? := by
      intro j hj
      clear hc hl
      induction l generalizing k with
      | nil => simp at hk
      | cons x l ih =>
        cases k with
        | zero => simp only [List.flatMap_cons, Nat.zero_mul, Nat.zero_add, List.getElem_cons_zero]; rw [List.getElem?_append_left (by simpa [N.cells] using hj)]
        | succ k =>
          simp only [List.flatMap_cons, List.getElem_cons_succ]
          rw [List.getElem?_append_right (by simp [N.cells]; omega)]
          rw [← ih (k := k) (by simpa using hk) (by simp at *; omega)]; congr 1; simp [N.cells]; omega
    refine ⟨g, off, ha, hS, ?_, ?_, ?_, ?_, ?_⟩
    · have := hc (k * 5 + 0) _ (by rw [key 0 (by omega)]; rfl); exact this
    · have := hc (k * 5 + 1) _ (by rw [key 1 (by omega)]; rfl); rwa [← Nat.add_assoc] at this
    · have := hc (k * 5 + 2) _ (by rw [key 2 (by omega)]; rfl); rwa [← Nat.add_assoc] at this
    · have := hc (k * 5 + 3) _ (by rw [key 3 (by omega)]; rfl); rwa [← Nat.add_assoc] at this
    · have := hc (k * 5 + 4) _ (by rw [key 4 (by omega)]; rfl); rwa [← Nat.add_assoc] at this

/-- what valFrom has built so far: the node in block bo, its rows of names and of parts; 'us' lead to 'ts' (the parts, and one that is not yet put) -/
structure VB (w : World) (B bo : Nat) (kind num : Int) (text : ByteArray) (an : Option Addr) (cn : Nat) (names : List ByteArray) (ak : Option Addr) (ck : Nat) (vs us : List Value) (ts : List T) : Prop where
  hbo : B ≤ bo
  blk : w.heap[bo]? = some (.cells #[.int .i64 kind, .int .i64 num, .string text, .slice an names.length cn, .slice ak vs.length ck] 103 (0, 0))
  on : w.ownsRow B 9 1 (.slice an names.length cn) names.length (names.map Value.string)
  ok : w.ownsRow B 64 1 (.slice ak vs.length ck) vs.length vs
  kids : IsVals w (fun b => B ≤ b ∧ b ≠ bo ∧ (Value.slice an 0 0).ownBlock ≠ some b ∧ (Value.slice ak 0 0).ownBlock ≠ some b) ts us

theorem ownBlock_slice (a : Option Addr) (n c n' c' : Nat) : (Value.slice a n c).ownBlock = (Value.slice a n' c').ownBlock := by cases a <;> rfl

theorem VB.call {w w' : World} {B bo : Nat} {kind num : Int} {text : ByteArray} {an : Option Addr} {cn : Nat} {names : List ByteArray} {ak : Option Addr} {ck : Nat} {vs us : List Value} {ts : List T}
    (h : VB w B bo kind num text an cn names ak ck vs us ts) (hb : Below w.heap.size w w') : VB w' B bo kind num text an cn names ak ck vs us ts := by
  have hg : w.grownBy w' none := ⟨hb.os, hb.tape, hb.output, hb.size, fun k hk _ => hb.block k hk⟩
  refine ⟨h.hbo, (hb.block bo (lt_blk h.blk)).trans h.blk, h.on.kept hg ?_, h.ok.kept hg ?_, IsVals.frame (fun b _ hb' => hb.block b hb') hb.size h.kids⟩
  · cases an <;> simp [Value.ownBlock]
  · cases ak <;> simp [Value.ownBlock]

theorem VB.pend {w w' : World} {B bo : Nat} {kind num : Int} {text : ByteArray} {an : Option Addr} {cn : Nat} {names : List ByteArray} {ak : Option Addr} {ck : Nat} {vs us : List Value} {ts : List T}
    (h : VB w B bo kind num text an cn names ak ck vs us ts) (hb : Below w.heap.size w w') (hB : B ≤ w.heap.size) {t : T} {v : Value} (ht : IsVal w' (fun b => w.heap.size ≤ b) t v) :
    VB w' B bo kind num text an cn names ak ck vs (us ++ [v]) (ts ++ [t]) := by
  have h' := h.call hb
  refine { h' with kids := IsVals.snoc h'.kids (IsVal.mono ?_ ht) }
  intro b hb1 _
  have h1 := lt_blk h.blk
  refine ⟨by omega, by omega, fun e => ?_, fun e => ?_⟩
  · have := (h.on.lt b ((ownBlock_slice _ _ _ _ _).trans e)).2; omega
  · have := (h.ok.lt b ((ownBlock_slice _ _ _ _ _).trans e)).2; omega

theorem VB.putName {w w1 : World} {B bo : Nat} {kind num : Int} {text : ByteArray} {an : Option Addr} {cn : Nat} {names : List ByteArray} {ak : Option Addr} {ck : Nat} {vs us : List Value} {ts : List T}
    (h : VB w B bo kind num text an cn names ak ck vs us ts) (hB : B ≤ w.heap.size) (o : Obj) {nm : ByteArray} {g cap : Nat}
    (hown : w1.ownsRow B 9 1 (.slice (some ⟨g, 0, none⟩) (names.length + 1) cap) (names.length + 1) (names.map Value.string ++ [.string nm]))
    (hgr : (w.alloc o).grownBy w1 (Value.slice an names.length cn).ownBlock) (hlies : (Value.slice an names.length cn).ownBlock = some g ∨ g = w.heap.size + 1) :
    VB (w1.setCell ⟨bo, 3, none⟩ (.slice (some ⟨g, 0, none⟩) (names.length + 1) cap)) B bo kind num text (some ⟨g, 0, none⟩) cap (names ++ [nm]) ak ck vs us ts ∧ Below B w (w1.setCell ⟨bo, 3, none⟩ (.slice (some ⟨g, 0, none⟩) (names.length + 1) cap)) := by
  have hbl := lt_blk h.blk
  have hn1 : (Value.slice an names.length cn).ownBlock ≠ some bo := Lib.ownBlock_ne h.on h.blk (by decide)
  have hn2 : (Value.slice ak vs.length ck).ownBlock ≠ some bo := Lib.ownBlock_ne h.ok h.blk (by decide)
  have hn3 : (Value.slice ak vs.length ck).ownBlock = none ∨ (Value.slice ak vs.length ck).ownBlock ≠ (Value.slice an names.length cn).ownBlock := by
    rcases h.ok.2 with ⟨h1, _⟩ | ⟨g', cap', cur, h1, _, hg', _⟩
    · left; rw [h1]; rfl
    · right; intro e; rw [h1] at e; exact Lib.ownBlock_ne h.on hg' (by decide) e.symm
  have hb1 : w1.heap[bo]? = some (.cells #[.int .i64 kind, .int .i64 num, .string text, .slice an names.length cn, .slice ak vs.length ck] 103 (0, 0)) := by
    rw [hgr.block bo (by simp; omega) (fun e => hn1 e.symm), blk_old w o hbl]; exact h.blk
  have hold : ∀ b, b < w.heap.size → b ≠ bo → (Value.slice an names.length cn).ownBlock ≠ some b → (w1.setCell ⟨bo, 3, none⟩ (.slice (some ⟨g, 0, none⟩) (names.length + 1) cap)).heap[b]? = w.heap[b]? := fun b hb hne hrow => by
    rw [Below.heap_setCell _ _ _ _ (by simpa using hne), hgr.block b (by simp; omega) (fun e => hrow e.symm), blk_old w o hb]
  have hsz : w.heap.size ≤ w1.heap.size := by have := hgr.size; simp at this; omega
  have hset : w1.grownBy (w1.setCell ⟨bo, 3, none⟩ (.slice (some ⟨g, 0, none⟩) (names.length + 1) cap)) (some bo) := ⟨rfl, rfl, rfl, by simp [World.setCell], fun k _ hk => Below.heap_setCell _ _ _ _ (fun e => hk (by simp [e]))⟩
  have hgbo : g ≠ bo := by
    rcases hlies with e | e
    · intro e'; subst e'; exact hn1 e
    · omega
  refine ⟨⟨h.hbo, ?_, ?_, ?_, ?_⟩, ?_⟩
  · simp [World.setCell, Array.getElem?_modify, hb1]
  · have := hown.kept hset (Or.inr (by simpa [Value.ownBlock] using hgbo))
    simpa using this
  · exact ((h.ok.alloc o).kept hgr hn3).kept hset (Or.inr hn2)
  · have k1 : IsVals w (fun b => (B ≤ b ∧ b ≠ bo ∧ (Value.slice (some ⟨g, 0, none⟩) 0 0).ownBlock ≠ some b ∧ (Value.slice ak 0 0).ownBlock ≠ some b) ∧ b < w.heap.size ∧ (Value.slice an names.length cn).ownBlock ≠ some b) ts us := by
      refine IsVals.mono (fun b hb hlt => ?_) h.kids
      have h3 : (Value.slice an names.length cn).ownBlock ≠ some b := by rw [ownBlock_slice an names.length cn 0 0]; exact hb.2.2.1
      refine ⟨⟨hb.1, hb.2.1, ?_, hb.2.2.2⟩, hlt, h3⟩
      intro e
      simp only [Value.ownBlock, Option.some.injEq] at e
      rcases hlies with e' | e'
      · exact h3 (e'.trans (congrArg some e))
      · omega
    exact IsVals.mono (fun b hb _ => hb.1) (IsVals.frame (fun b hb _ => hold b hb.2.1 hb.1.2.1 hb.2.2) (by simp [World.setCell]; exact hsz) k1)
  · exact (((Below.refl B w).alloc hB o).grown hgr (by simp; omega) (fun k hk => (h.on.lt k hk).1)).setCell (p := ⟨bo, 3, none⟩) h.hbo _

theorem VB.putKid {w w1 : World} {B bo : Nat} {kind num : Int} {text : ByteArray} {an : Option Addr} {cn : Nat} {names : List ByteArray} {ak : Option Addr} {ck : Nat} {vs us : List Value} {ts : List T}
    (h : VB w B bo kind num text an cn names ak ck vs us ts) (hB : B ≤ w.heap.size) (o : Obj) {u : Value} {g cap : Nat}
    (hown : w1.ownsRow B 64 1 (.slice (some ⟨g, 0, none⟩) (vs.length + 1) cap) (vs.length + 1) (vs ++ [u]))
    (hgr : (w.alloc o).grownBy w1 (Value.slice ak vs.length ck).ownBlock) (hlies : (Value.slice ak vs.length ck).ownBlock = some g ∨ g = w.heap.size + 1) :
    VB (w1.setCell ⟨bo, 4, none⟩ (.slice (some ⟨g, 0, none⟩) (vs.length + 1) cap)) B bo kind num text an cn names (some ⟨g, 0, none⟩) cap (vs ++ [u]) us ts ∧ Below B w (w1.setCell ⟨bo, 4, none⟩ (.slice (some ⟨g, 0, none⟩) (vs.length + 1) cap)) := by
  have hbl := lt_blk h.blk
  have hn1 : (Value.slice an names.length cn).ownBlock ≠ some bo := Lib.ownBlock_ne h.on h.blk (by decide)
  have hn2 : (Value.slice ak vs.length ck).ownBlock ≠ some bo := Lib.ownBlock_ne h.ok h.blk (by decide)
  have hn3 : (Value.slice an names.length cn).ownBlock = none ∨ (Value.slice an names.length cn).ownBlock ≠ (Value.slice ak vs.length ck).ownBlock := by
    rcases h.on.2 with ⟨h1, _⟩ | ⟨g', cap', cur, h1, _, hg', _⟩
    · left; rw [h1]; rfl
    · right; intro e; rw [h1] at e; exact Lib.ownBlock_ne h.ok hg' (by decide) e.symm
  have hb1 : w1.heap[bo]? = some (.cells #[.int .i64 kind, .int .i64 num, .string text, .slice an names.length cn, .slice ak vs.length ck] 103 (0, 0)) := by
    rw [hgr.block bo (by simp; omega) (fun e => hn2 e.symm), blk_old w o hbl]; exact h.blk
  have hold : ∀ b, b < w.heap.size → b ≠ bo → (Value.slice ak vs.length ck).ownBlock ≠ some b → (w1.setCell ⟨bo, 4, none⟩ (.slice (some ⟨g, 0, none⟩) (vs.length + 1) cap)).heap[b]? = w.heap[b]? := fun b hb hne hrow => by
    rw [Below.heap_setCell _ _ _ _ (by simpa using hne), hgr.block b (by simp; omega) (fun e => hrow e.symm), blk_old w o hb]
  have hsz : w.heap.size ≤ w1.heap.size := by have := hgr.size; simp at this; omega
  have hset : w1.grownBy (w1.setCell ⟨bo, 4, none⟩ (.slice (some ⟨g, 0, none⟩) (vs.length + 1) cap)) (some bo) := ⟨rfl, rfl, rfl, by simp [World.setCell], fun k _ hk => Below.heap_setCell _ _ _ _ (fun e => hk (by simp [e]))⟩
  have hgbo : g ≠ bo := by
    rcases hlies with e | e
    · intro e'; subst e'; exact hn2 e
    · omega
  refine ⟨⟨h.hbo, ?_, ?_, ?_, ?_⟩, ?_⟩
  · simp [World.setCell, Array.getElem?_modify, hb1]
  · exact ((h.on.alloc o).kept hgr hn3).kept hset (Or.inr hn1)
  · have := hown.kept hset (Or.inr (by simpa [Value.ownBlock] using hgbo))
    simpa using this
  · have k1 : IsVals w (fun b => (B ≤ b ∧ b ≠ bo ∧ (Value.slice an 0 0).ownBlock ≠ some b ∧ (Value.slice (some ⟨g, 0, none⟩) 0 0).ownBlock ≠ some b) ∧ b < w.heap.size ∧ (Value.slice ak vs.length ck).ownBlock ≠ some b) ts us := by
      refine IsVals.mono (fun b hb hlt => ?_) h.kids
      have h3 : (Value.slice ak vs.length ck).ownBlock ≠ some b := by rw [ownBlock_slice ak vs.length ck 0 0]; exact hb.2.2.2
      refine ⟨⟨hb.1, hb.2.1, hb.2.2.1, ?_⟩, hlt, h3⟩
      intro e
      simp only [Value.ownBlock, Option.some.injEq] at e
      rcases hlies with e' | e'
      · exact h3 (e'.trans (congrArg some e))
      · omega
    exact IsVals.mono (fun b hb _ => hb.1) (IsVals.frame (fun b hb _ => hold b hb.2.1 hb.1.2.1 hb.2.2) (by simp [World.setCell]; exact hsz) k1)
  · exact (((Below.refl B w).alloc hB o).grown hgr (by simp; omega) (fun k hk => (h.ok.lt k hk).1)).setCell (p := ⟨bo, 4, none⟩) h.hbo _

theorem VB.mid {w w1 : World} {B bo : Nat} {kind num : Int} {text : ByteArray} {an : Option Addr} {cn : Nat} {names : List ByteArray} {ak : Option Addr} {ck : Nat} {vs us : List Value} {ts : List T}
    (h : VB w B bo kind num text an cn names ak ck vs us ts) (o : Obj) {row : Option Nat} (hgr : (w.alloc o).grownBy w1 row) (hrow : row = (Value.slice an names.length cn).ownBlock ∨ row = (Value.slice ak vs.length ck).ownBlock) :
    w1.heap[bo]? = some (.cells #[.int .i64 kind, .int .i64 num, .string text, .slice an names.length cn, .slice ak vs.length ck] 103 (0, 0)) := by
  have hbl := lt_blk h.blk
  have hn1 : (Value.slice an names.length cn).ownBlock ≠ some bo := Lib.ownBlock_ne h.on h.blk (by decide)
  have hn2 : (Value.slice ak vs.length ck).ownBlock ≠ some bo := Lib.ownBlock_ne h.ok h.blk (by decide)
  rw [hgr.block bo (by simp; omega) (fun e => by rcases hrow with r | r <;> rw [r] at e <;> first | exact hn1 e.symm | exact hn2 e.symm), blk_old w o hbl]; exact h.blk

theorem VB.val {w : World} {B bo : Nat} {kind num : Int} {text : ByteArray} {an : Option Addr} {cn : Nat} {names : List ByteArray} {ak : Option Addr} {ck : Nat} {vs : List Value} {ts : List T}
    (h : VB w B bo kind num text an cn names ak ck vs vs ts) (hl : vs.length = ts.length) : IsVal w (fun b => B ≤ b) (.mk kind num text names ts) (.pointer (some ⟨bo, 0, none⟩)) :=
  ⟨bo, _, _, vs, rfl, h.hbo, h.blk, Row.of_owns h.on (fun _ h => h), by have := Row.of_owns h.ok (S := fun b => B ≤ b) (fun _ h => h); rw [hl] at this ⊢; exact this, IsVals.mono (fun _ h _ => h.1) h.kids⟩

def VFPost (w : World) (r : Option (T × Nat)) (e : Ending) (w' : World) : Prop :=
  Below w.heap.size w w' ∧ match r with
  | none => e = .returned (.tuple #[.pointer none, .int .i64 0])
  | some (t, k) => ∃ v, e = .returned (.tuple #[v, .int .i64 k]) ∧ IsVal w' (fun b => w.heap.size ≤ b) t v

theorem val_cells {w : World} {b : Nat} {v0 v1 v2 v3 v4 : Value} {ty : TypeId} {fr : Nat × Nat} (h : w.heap[b]? = some (.cells #[v0, v1, v2, v3, v4] ty fr)) :
    w.cell? ⟨b, 0, none⟩ = some v0 ∧ w.cell? ⟨b, 1, none⟩ = some v1 ∧ w.cell? ⟨b, 2, none⟩ = some v2 ∧ w.cell? ⟨b, 3, none⟩ = some v3 ∧ w.cell? ⟨b, 4, none⟩ = some v4 :=
  ⟨cell_blk h 0, cell_blk h 1, cell_blk h 2, cell_blk h 3, cell_blk h 4⟩

theorem info_str : (Tryz.prog.info? 9).map (fun i => (i.zero, i.size, i.bytes)) = some (some (.string ⟨#[]⟩), 1, 16) := by kernel_rfl
theorem info_pval : (Tryz.prog.info? 64).map (fun i => (i.zero, i.size, i.bytes)) = some (some (.pointer none), 1, 8) := by kernel_rfl

theorem pv_le (n : Nat) : (∀ l k up t e, pv n l k up = some (t, e) → k < e ∧ e ≤ l.length) ∧ (∀ l k x e names kids t e', e ≤ l.length → pk n l k x e names kids = some (t, e') → e ≤ e' ∧ e' ≤ l.length) := by
  induction n with
  | zero => exact ⟨fun _ _ _ _ _ h => by simp [pv] at h, fun _ _ _ _ _ _ _ _ _ h => by simp [pk] at h⟩
  | succ n ih =>
    constructor
    · intro l k up t e h
      simp only [pv] at h
      split at h
      · cases h
      · rename_i x hx
        have hk : k < l.length := (List.getElem?_eq_some_iff.1 hx).1
        split at h
        · have := ih.2 l k x (k + 1) [] [] t e (by omega) h; omega
        · cases h
    · intro l k x e names kids t e' he h
      simp only [pk] at h
      split at h
      · simp only [Option.some.injEq, Prod.mk.injEq] at h; omega
      · rename_i y hy
        have hk : e < l.length := (List.getElem?_eq_some_iff.1 hy).1
        split at h
        · split at h
          · cases h
          · split at h
            · cases h
            · rename_i t1 e1 h1
              have a := ih.1 l e x.kind t1 e1 h1
              have := ih.2 l k x e1 _ _ t e' (by omega) h
              omega
        · simp only [Option.some.injEq, Prod.mk.injEq] at h; omega

set_option maxRecDepth 100000 in
set_option maxHeartbeats 2000000 in
theorem valFrom_c (n : Nat) : ∀ (l : List N) (k : Nat) (up : Int) (v : Value) (w : World) (S : Nat → Prop), k < l.length → l.length ≤ 1099511627776 → 2 * (l.length - k) ≤ n →
    (∀ x ∈ l, x.text.size ≤ 1099511627776 ∧ x.name.size ≤ 1099511627776) → Nods w S v l → (∀ b, S b → b < w.heap.size) →
    Calls Tryz.prog 39 #[v, .int .i64 k, .int .i64 up] w (VFPost w (pv n l k up)) := by
  induction n using Nat.strongRecOn with
  | ind n ih =>
  intro l k up v w S hk hl hn hsz h hS
  obtain ⟨m, rfl⟩ : ∃ m, n = m + 1 := ⟨n - 1, by omega⟩
  have HP : Hid (pv (m + 1) l k up = if nodeOKB l[k] up then pk m l k l[k] (k + 1) [] [] else none) := by
    simp only [Hid, pv]; rw [List.getElem?_eq_getElem hk]
  obtain ⟨a, c, rfl⟩ := Row.form h
  have HR := Lib.hid h; have HS := Lib.hid hS; have Hsz := Lib.hid hsz; have IH := Lib.hid ih
  obtain ⟨g, off, rfl, hSg, x0, x1, x2, x3, x4⟩ := Nods.at h hk
  have hgb := hS g hSg
  clear h hS hsz ih
  cases hok : nodeOKB l[k] up
  · rw [hok] at HP
    go_enter Tryz.func39, Tryz.ntmps39
    go_wp2_with (first
      | (go_at_call 68; refine (nodeOK_c l[k] up _ (Hsz.out _ (List.getElem_mem hk)).1 (Hsz.out _ (List.getElem_mem hk)).2).mono ?_; rintro e w1 ⟨rfl, hB1⟩; obtain ⟨hc1, hf1⟩ := bcell hB1; have HB1 := Lib.hid hB1; clear hB1 hf1))
    go_ret2
    rw [HP.out]
    exact ⟨(((Below.refl w.heap.size w).alloc (Nat.le_refl _) _).trans (HB1.out.mono (by simp))), rfl⟩
  · have HP2 : Hid (pv (m + 1) l k up = pk m l k l[k] (k + 1) [] []) := by rw [HP.out, hok]; rfl
    clear HP
    go_enter Tryz.func39, Tryz.ntmps39
    go_wp2_with (first
      | (go_at_call 68; refine (nodeOK_c l[k] up _ (Hsz.out _ (List.getElem_mem hk)).1 (Hsz.out _ (List.getElem_mem hk)).2).mono ?_; rintro e w1 ⟨rfl, hB1⟩; obtain ⟨hc1, hf1⟩ := bcell hB1; have HB1 := Lib.hid hB1; clear hB1 hf1))
    have hsz0 : w.heap.size < w1.heap.size := by have := HB1.out.size; simp at this; omega
    have hx := val_cells ((HB1.out.block w.heap.size (by simp)).trans (blk_new w _))
    obtain ⟨y0, y1, y2, y3, y4⟩ := hx
    have HR1 := Lib.hid (Row.frame HR.out (w' := w1) (fun b hb hlt => (HB1.out.block b (by simp; omega)).trans (blk_old w _ hlt)) (by omega))
    have HBw := Lib.hid (((Below.refl w.heap.size w).alloc (Nat.le_refl _) (.cells #[.int .i64 l[k].kind, .int .i64 l[k].num, .string l[k].text, .string l[k].name, .int .i64 l[k].up] 63)).trans (HB1.out.mono (by simp)))
    have hgb1 : g < w1.heap.size := by omega
    clear hc1 HR x0 x1 x2 x3 x4
    obtain ⟨m', rfl⟩ : ∃ m', m = m' + 1 := ⟨m - 1, by omega⟩
    go_loopg [10] (l.length - (k + 1)) (fun gh s10 wr => ∃ (e m2 : Nat) (names : List ByteArray) (kids : List T) (an : Option Addr) (cn : Nat) (ak : Option Addr) (ck : Nat) (vs : List Value), k + 1 ≤ e ∧ e ≤ l.length ∧ gh = l.length - e ∧ s10 = .int .i64 e ∧
      2 * (l.length - e) ≤ m2 ∧ m2 ≤ m' ∧ names.length ≤ e ∧ vs.length ≤ e ∧ Hid (vs.length = kids.length) ∧ Hid (pk (m' + 1) l k l[k] (k + 1) [] [] = pk (m2 + 1) l k l[k] e names kids) ∧
      Hid (VB wr w1.heap.size w1.heap.size l[k].kind l[k].num l[k].text an cn names ak ck vs vs kids) ∧ Hid (Below w1.heap.size w1 wr))
    case atStart =>
      refine ⟨k + 1, m', [], [], none, 0, none, 0, [], Nat.le_refl _, hk, rfl, by go_num, by omega, Nat.le_refl _, by simp, by simp, rfl, rfl, ?_, ?_⟩
      · exact ⟨Nat.le_refl _, blk_new w1 _, World.ownsRow_nil _ _ _ _, World.ownsRow_nil _ _ _ _, trivial⟩
      · exact (Below.refl _ _).alloc (Nat.le_refl _) _
    case round =>
      obtain ⟨e, m2, names, kids, an, cn, ak, ck, vs, he1, he2, rfl, rfl, hm2, hm2', hnl, hvl, HVK, HK, HV, HBr⟩ := hrel
      obtain ⟨hcr, hfr⟩ := bcell HBr.out
      clear hfr
      obtain ⟨d0, d1, d2, d3, d4⟩ := val_cells HV.out.blk
      have hend : ∀ (wx : World), Hid (Below w1.heap.size w1 wr) → wx = wr → Hid (pk (m' + 1) l k l[k] (k + 1) [] [] = some (.mk l[k].kind l[k].num l[k].text names kids, e)) →
          VFPost w (pv (m' + 1 + 1) l k up) (.returned (.tuple #[.pointer (some ⟨w1.heap.size, 0, none⟩), .int .i64 e])) wx := by
        intro wx hb hwx hp
        subst hwx
        rw [HP2.out, hp.out]
        exact ⟨HBw.out.trans (hb.out.mono (by omega)), _, rfl, IsVal.mono (fun b hb _ => by omega) (HV.out.val HVK.out)⟩
      have HEnd := Lib.hid hend
      have hnil : ∀ (wx : World), Below w1.heap.size w1 wx → Hid (pk (m' + 1) l k l[k] (k + 1) [] [] = none) →
          VFPost w (pv (m' + 1 + 1) l k up) (.returned (.tuple #[.pointer none, .int .i64 0])) wx := by
        intro wx hb hp
        rw [HP2.out, hp.out]
        exact ⟨HBw.out.trans (hb.mono (by omega)), rfl⟩
      have HNil := Lib.hid hnil
      clear hend hnil
      cases hh : holdsB l[k].kind
      · have HE : Hid (pk (m' + 1) l k l[k] (k + 1) [] [] = some (.mk l[k].kind l[k].num l[k].text names kids, e)) := by
          rw [HK.out]; show pk _ _ _ _ _ _ _ = _; rw [pk]; split
          · rfl
          · rw [hh]; rfl
        go_wp2_with (go_at_call 69; refine (holds_c _ _).mono ?_; rintro e w' ⟨rfl, rfl⟩)
        go_ret2
        exact HEnd.out _ HBr rfl HE
      · by_cases hlt : e < l.length
        · obtain ⟨g', off', hgo, _, z0, z1, z2, z3, z4⟩ := Nods.at HR1.out hlt
          simp only [Option.some.injEq, Addr.mk.injEq, and_true] at hgo
          obtain ⟨rfl, rfl⟩ := hgo
          have hpk : pk (m2 + 1) l k l[k] e names kids = if l[e].up == (k : Int) then (if badName l[k].kind names l[e].name then none else match pv m2 l e l[k].kind with
            | none => none
            | some (t, e') => pk m2 l k l[k] e' (if l[k].kind = 7 then names ++ [l[e].name] else names) (kids ++ [t])) else some (.mk l[k].kind l[k].num l[k].text names kids, e) := by
            rw [pk, List.getElem?_eq_getElem hlt]; simp only [hh, Bool.true_and]; rfl
          rw [hpk] at HK
          clear hpk
          cases hup : l[e].up == (k : Int)
          · rw [hup] at HK
            go_wp2_with (go_at_call 69; refine (holds_c _ _).mono ?_; rintro e w' ⟨rfl, rfl⟩)
            go_ret2
            exact HEnd.out _ HBr rfl HK
          · have HK2 : Hid (pk (m' + 1) l k l[k] (k + 1) [] [] = (if badName l[k].kind names l[e].name then none else match pv m2 l e l[k].kind with
                | none => none
                | some (t, e') => pk m2 l k l[k] e' (if l[k].kind = 7 then names ++ [l[e].name] else names) (kids ++ [t]))) := by rw [HK.out, hup]; rfl
            clear HK
            have HRr := Lib.hid (Row.mono (Row.frame HR1.out (fun b hb hlt => HBr.out.block b hlt) HBr.out.size) (fun b hb _ => show b < w1.heap.size by have := HS.out b hb; omega))
            have hSr : ∀ b, b < w1.heap.size → b < wr.heap.size := fun b hb => by have := HBr.out.size; omega
            have HSr := Lib.hid hSr
            clear hSr
            have ihe := IH.out m2 (by omega) l e l[k].kind (.slice (some ⟨g, off, none⟩) l.length c) wr (fun b => b < w1.heap.size) hlt hl (by omega) Hsz.out HRr.out HSr.out
            have hwr : w1.heap.size ≤ wr.heap.size := HBr.out.size
            have hbo := lt_blk HV.out.blk
            have hxr : w.heap.size < wr.heap.size := by omega
            obtain ⟨m3, rfl⟩ : ∃ m3, m2 = m3 + 1 := ⟨m2 - 1, by omega⟩
            obtain ⟨ip, hip, hp0, hp1, hp2⟩ := info_parts info_pval
            cases h7 : l[k].kind == 7
            · have HK3 : Hid (pk (m' + 1) l k l[k] (k + 1) [] [] = (match pv (m3 + 1) l e l[k].kind with
                | none => none
                | some (t, e') => pk (m3 + 1) l k l[k] e' names (kids ++ [t]))) := by
                unfold Hid
                rw [HK2.out]; simp only [badName, h7]; have : ¬ l[k].kind = 7 := by simpa using h7
                simp [this]
              clear HK2
              rcases hpv : pv (m3 + 1) l e l[k].kind with _ | ⟨t, e'⟩ <;> rw [hpv] at ihe HK3 <;> have IHe := Lib.hid ihe <;> have HPv := Lib.hid hpv <;> clear ihe hpv
              · go_wp2_with (first | (go_at_call 69; refine (holds_c _ _).mono ?_; rintro e w' ⟨rfl, rfl⟩) | (go_at_call 39; refine IHe.out.mono ?_; rintro ee w2 ⟨hB2, rfl⟩))
                go_ret2
                exact HNil.out _ (HBr.out.trans (hB2.mono hwr)) HK3
              · have hpl := (pv_le (m3 + 1)).1 _ _ _ _ _ HPv.out
                go_wp2_with (first | (go_at_call 69; refine (holds_c _ _).mono ?_; rintro e w' ⟨rfl, rfl⟩) | (go_at_call 39; refine IHe.out.mono ?_; rintro ee w2 ⟨hB2, u, rfl, hkid⟩; obtain ⟨hc2, hf2⟩ := bcell hB2; have HVB2 := Lib.hid (HV.out.pend hB2 hwr hkid); obtain ⟨bu, rfl, _⟩ := hkid.ptr; have hz2 : w1.heap.size ≤ w2.heap.size := Nat.le_trans hwr hB2.size; have HB2 := Lib.hid hB2; clear hf2 hB2 hkid) | (at_builtin; go_loud (refine wpList_append_lies _ rfl _ _ 87 rfl w1.heap.size 64 ip _ 1 8 Tryz.underlying87 hip hp0 hp1 hp2 rfl (by decide) _ _ _ rfl (HVB2.out.ok.alloc _) ⟨w2.heap.size, 0, none⟩ 1 1 [.pointer (some ⟨bu, 0, none⟩)] rfl rfl (by intro j u hu; exact cells_new hu) (by intro u hu; simp at hu; subst hu; rfl) (by omega) (by unfold maxLen; omega) (by omega) (by simp; omega) (w2.heap.size + 1) (by simp) ?_); intro g2 cap2 w3 hown3 hgr3 hlies3 hlt3; have hm := VB.mid HVB2.out _ hgr3 (Or.inr rfl); obtain ⟨q0, q1, q2, q3, q4⟩ := val_cells hm; have qf := fro_blk hm 4; have HO3 := Lib.hid hown3; have HG3 := Lib.hid hgr3; have HL3 := Lib.hid hlies3; clear hm hown3 hgr3 hlies3))
                obtain ⟨hvb, hbb⟩ := HVB2.out.putKid hz2 _ HO3.out HG3.out HL3.out
                go_roundg (l.length - e')
                case measure => omega
                case rel =>
                  exact ⟨e', m3, names, kids ++ [t], an, cn, some ⟨g2, 0, none⟩, cap2, vs ++ [.pointer (some ⟨bu, 0, none⟩)], by omega, by omega, rfl, rfl, by omega, by omega, by omega, by simp; omega, by simp [Hid, HVK.out], HK3, Lib.hid hvb, Lib.hid ((HBr.out.trans (HB2.out.mono hwr)).trans hbb)⟩
            · have h7e : l[k].kind = 7 := by simpa using h7
              have H7 := Lib.hid h7e
              clear h7e
              have fin : ∀ (_ : badName l[k].kind names l[e].name = false), Hid (pk (m' + 1) l k l[k] (k + 1) [] [] = (match pv (m3 + 1) l e l[k].kind with
                | none => none
                | some (t, e') => pk (m3 + 1) l k l[k] e' (names ++ [l[e].name]) (kids ++ [t]))) := by
                intro hbn
                unfold Hid
                rw [HK2.out, hbn, H7.out]; rfl
              have Fin := Lib.hid fin
              clear fin
              by_cases hn0 : 0 < names.length
              · obtain ⟨gn, offn, han, _, hcn⟩ := Strs.at (Row.of_owns (S := fun _ => True) HV.out.on (fun _ _ => trivial)) (k := names.length - 1) (by omega)
                subst han
                cases hb : Go.Op.bytesLess (names.getD (names.length - 1) ⟨#[]⟩).toList l[e].name.toList
                · have HK3 : Hid (pk (m' + 1) l k l[k] (k + 1) [] [] = none) := by
                    unfold Hid
                    rw [HK2.out, if_pos]
                    simp only [badName, h7, ltS, hb, hn0]; rfl
                  clear HK2 ihe
                  simp only [List.getD_eq_getElem?_getD] at hb
                  go_wp2_with (first | (go_at_call 69; refine (holds_c _ _).mono ?_; rintro e w' ⟨rfl, rfl⟩))
                  go_ret2
                  exact HNil.out _ HBr.out HK3
                · have HK3 := Fin.out (by simp only [badName, h7, ltS, hb, hn0]; rfl)
                  clear HK2 Fin
                  simp only [List.getD_eq_getElem?_getD] at hb
                  rcases hpv : pv (m3 + 1) l e l[k].kind with _ | ⟨t, e'⟩ <;> rw [hpv] at ihe HK3 <;> have IHe := Lib.hid ihe <;> have HPv := Lib.hid hpv <;> clear ihe hpv
                  · go_wp2_with (first | (go_at_call 69; refine (holds_c _ _).mono ?_; rintro e w' ⟨rfl, rfl⟩) | (go_at_call 39; refine IHe.out.mono ?_; rintro ee w2 ⟨hB2, rfl⟩))
                    go_ret2
                    exact HNil.out _ (HBr.out.trans (hB2.mono hwr)) HK3
                  · have hpl := (pv_le (m3 + 1)).1 _ _ _ _ _ HPv.out
                    obtain ⟨iq, hiq, hq0, hq1, hq2⟩ := info_parts info_str
                    go_wp2_with (first | (go_at_call 69; refine (holds_c _ _).mono ?_; rintro e w' ⟨rfl, rfl⟩) | (go_at_call 39; refine IHe.out.mono ?_; rintro ee w2 ⟨hB2, u, rfl, hkid⟩; obtain ⟨hc2, hf2⟩ := bcell hB2; have HVB2 := Lib.hid (HV.out.pend hB2 hwr hkid); obtain ⟨bu, rfl, _⟩ := hkid.ptr; have hz2 : w1.heap.size ≤ w2.heap.size := Nat.le_trans hwr hB2.size; have HB2 := Lib.hid hB2; clear hf2 hB2 hkid) | (at_builtin; refine wpList_append_lies _ rfl (.tmp 97) (.tmp 99) 35 rfl w1.heap.size 9 iq _ 1 16 Tryz.underlying35 hiq hq0 hq1 hq2 rfl (by decide) _ _ _ rfl (HVB2.out.on.alloc _) ⟨w2.heap.size, 0, none⟩ 1 1 [.string l[e].name] rfl rfl (by intro j u hu; exact cells_new hu) (by intro u hu; simp at hu; subst hu; rfl) (by omega) (by unfold maxLen; omega) (by omega) (by simp; omega) (w2.heap.size + 1) (by simp) ?_; intro g2 cap2 w3 hown3 hgr3 hlies3 hlt3; have hm := VB.mid HVB2.out _ hgr3 (Or.inl rfl); obtain ⟨q0, q1, q2, q3, q4⟩ := val_cells hm; have qf := fro_blk hm 3; obtain ⟨hvb, hbb⟩ := HVB2.out.putName hz2 _ hown3 hgr3 hlies3; have HVB3 := Lib.hid hvb; have HB3 := Lib.hid hbb; have hz3 : w1.heap.size ≤ w3.heap.size := Nat.le_trans hz2 (Nat.le_trans (by simp) hgr3.size); clear hm hown3 hgr3 hlies3 hvb hbb) | (at_builtin; refine wpList_append_lies _ rfl (.tmp 107) (.tmp 109) 87 rfl w1.heap.size 64 ip _ 1 8 Tryz.underlying87 hip hp0 hp1 hp2 rfl (by decide) _ _ _ rfl (HVB3.out.ok.alloc _) ⟨w3.heap.size, 0, none⟩ 1 1 [.pointer (some ⟨bu, 0, none⟩)] rfl rfl (by intro j u hu; exact cells_new' (by simp) hu) (by intro u hu; simp at hu; subst hu; rfl) (by omega) (by unfold maxLen; omega) (by omega) (by simp; omega) (w3.heap.size + 1) (by simp) ?_; intro g4 cap4 w5 hown5 hgr5 hlies5 hlt5; have hm := VB.mid HVB3.out _ hgr5 (Or.inr rfl); obtain ⟨s0, s1, s2, s3, s4⟩ := val_cells hm; have sf := fro_blk hm 4; obtain ⟨hvb, hbb⟩ := HVB3.out.putKid (by simpa using hz3) _ hown5 hgr5 (hlies5.imp id (fun e => e.trans (by simp))); have HVB5 := Lib.hid hvb; have HB5 := Lib.hid hbb; clear hm hown5 hgr5 hlies5 hvb hbb))
                    go_roundg (l.length - e')
                    case measure => omega
                    case rel =>
                      exact ⟨e', m3, names ++ [l[e].name], kids ++ [t], _, cap2, some ⟨g4, 0, none⟩, cap4, vs ++ [.pointer (some ⟨bu, 0, none⟩)], by omega, by omega, rfl, rfl, by omega, by omega, by simp; omega, by simp; omega, by simp [Hid, HVK.out], HK3, HVB5, Lib.hid (((HBr.out.trans (HB2.out.mono hwr)).trans HB3.out).trans HB5.out)⟩
              · have HK3 := Fin.out (by simp only [badName, h7, hn0]; rfl)
                clear HK2 Fin
                rcases hpv : pv (m3 + 1) l e l[k].kind with _ | ⟨t, e'⟩ <;> rw [hpv] at ihe HK3 <;> have IHe := Lib.hid ihe <;> have HPv := Lib.hid hpv <;> clear ihe hpv
                · go_wp2_with (first | (go_at_call 69; refine (holds_c _ _).mono ?_; rintro e w' ⟨rfl, rfl⟩) | (go_at_call 39; refine IHe.out.mono ?_; rintro ee w2 ⟨hB2, rfl⟩))
                  go_ret2
                  exact HNil.out _ (HBr.out.trans (hB2.mono hwr)) HK3
                · have hpl := (pv_le (m3 + 1)).1 _ _ _ _ _ HPv.out
                  obtain ⟨iq, hiq, hq0, hq1, hq2⟩ := info_parts info_str
                  go_wp2_with (first | (go_at_call 69; refine (holds_c _ _).mono ?_; rintro e w' ⟨rfl, rfl⟩) | (go_at_call 39; refine IHe.out.mono ?_; rintro ee w2 ⟨hB2, u, rfl, hkid⟩; obtain ⟨hc2, hf2⟩ := bcell hB2; have HVB2 := Lib.hid (HV.out.pend hB2 hwr hkid); obtain ⟨bu, rfl, _⟩ := hkid.ptr; have hz2 : w1.heap.size ≤ w2.heap.size := Nat.le_trans hwr hB2.size; have HB2 := Lib.hid hB2; clear hf2 hB2 hkid) | (at_builtin; refine wpList_append_lies _ rfl (.tmp 97) (.tmp 99) 35 rfl w1.heap.size 9 iq _ 1 16 Tryz.underlying35 hiq hq0 hq1 hq2 rfl (by decide) _ _ _ rfl (HVB2.out.on.alloc _) ⟨w2.heap.size, 0, none⟩ 1 1 [.string l[e].name] rfl rfl (by intro j u hu; exact cells_new hu) (by intro u hu; simp at hu; subst hu; rfl) (by omega) (by unfold maxLen; omega) (by omega) (by simp; omega) (w2.heap.size + 1) (by simp) ?_; intro g2 cap2 w3 hown3 hgr3 hlies3 hlt3; have hm := VB.mid HVB2.out _ hgr3 (Or.inl rfl); obtain ⟨q0, q1, q2, q3, q4⟩ := val_cells hm; have qf := fro_blk hm 3; obtain ⟨hvb, hbb⟩ := HVB2.out.putName hz2 _ hown3 hgr3 hlies3; have HVB3 := Lib.hid hvb; have HB3 := Lib.hid hbb; have hz3 : w1.heap.size ≤ w3.heap.size := Nat.le_trans hz2 (Nat.le_trans (by simp) hgr3.size); clear hm hown3 hgr3 hlies3 hvb hbb) | (at_builtin; refine wpList_append_lies _ rfl (.tmp 107) (.tmp 109) 87 rfl w1.heap.size 64 ip _ 1 8 Tryz.underlying87 hip hp0 hp1 hp2 rfl (by decide) _ _ _ rfl (HVB3.out.ok.alloc _) ⟨w3.heap.size, 0, none⟩ 1 1 [.pointer (some ⟨bu, 0, none⟩)] rfl rfl (by intro j u hu; exact cells_new' (by simp) hu) (by intro u hu; simp at hu; subst hu; rfl) (by omega) (by unfold maxLen; omega) (by omega) (by simp; omega) (w3.heap.size + 1) (by simp) ?_; intro g4 cap4 w5 hown5 hgr5 hlies5 hlt5; have hm := VB.mid HVB3.out _ hgr5 (Or.inr rfl); obtain ⟨s0, s1, s2, s3, s4⟩ := val_cells hm; have sf := fro_blk hm 4; obtain ⟨hvb, hbb⟩ := HVB3.out.putKid (by simpa using hz3) _ hown5 hgr5 (hlies5.imp id (fun e => e.trans (by simp))); have HVB5 := Lib.hid hvb; have HB5 := Lib.hid hbb; clear hm hown5 hgr5 hlies5 hvb hbb))
                  go_roundg (l.length - e')
                  case measure => omega
                  case rel =>
                    exact ⟨e', m3, names ++ [l[e].name], kids ++ [t], _, cap2, some ⟨g4, 0, none⟩, cap4, vs ++ [.pointer (some ⟨bu, 0, none⟩)], by omega, by omega, rfl, rfl, by omega, by omega, by simp; omega, by simp; omega, by simp [Hid, HVK.out], HK3, HVB5, Lib.hid (((HBr.out.trans (HB2.out.mono hwr)).trans HB3.out).trans HB5.out)⟩
        · have he : e = l.length := by omega
          subst he
          have HE : Hid (pk (m' + 1) l k l[k] (k + 1) [] [] = some (.mk l[k].kind l[k].num l[k].text names kids, l.length)) := by
            rw [HK.out]; show pk _ _ _ _ _ _ _ = _; rw [pk, List.getElem?_eq_none (Nat.le_refl _)]
          go_wp2_with (go_at_call 69; refine (holds_c _ _).mono ?_; rintro e w' ⟨rfl, rfl⟩)
          go_ret2
          exact HEnd.out _ HBr rfl HE
end Go.Proofs.YtbldchemgkfdcaaGreatDoor
