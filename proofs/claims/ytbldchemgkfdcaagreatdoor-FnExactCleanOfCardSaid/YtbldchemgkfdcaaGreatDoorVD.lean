/- a map that is being built: its node in block bo, the rows of its names and parts, which its headers may not yet show. -/
import Derived.Test.YtbldchemgkfdcaaGreatDoorValFrom
namespace Go.Proofs.YtbldchemgkfdcaaGreatDoor
open Go.RowKit

structure VD (w : World) (B bo : Nat) (h3 h4 : Value) (nv : Value) (nn : List ByteArray) (kv : Value) (kn : List Value) (P : Nat → Prop) (ts : List T) (us : List Value) : Prop where
  hbo : B ≤ bo
  blk : w.heap[bo]? = some (.cells #[.int .i64 7, .int .i64 0, .string ⟨#[]⟩, h3, h4] 103 (0, 0))
  on : w.ownsRow B 9 1 nv nn.length (nn.map Value.string)
  ok : w.ownsRow B 64 1 kv kn.length kn
  kids : IsVals w (fun b => P b ∧ b ≠ bo ∧ nv.ownBlock ≠ some b ∧ kv.ownBlock ≠ some b) ts us
section
variable {w w' w1 : World} {B bo : Nat} {h3 h4 nv kv nv' kv' : Value} {nn : List ByteArray} {kn us : List Value} {P : Nat → Prop} {ts : List T}
theorem VD.lt (h : VD w B bo h3 h4 nv nn kv kn P ts us) : bo < w.heap.size := lt_blk h.blk
theorem VD.call (h : VD w B bo h3 h4 nv nn kv kn P ts us) (hb : Below w.heap.size w w') : VD w' B bo h3 h4 nv nn kv kn P ts us := by
  have hg : w.grownBy w' none := ⟨hb.os, hb.tape, hb.output, hb.size, fun k hk _ => hb.block k hk⟩
  refine ⟨h.hbo, (hb.block bo (lt_blk h.blk)).trans h.blk, h.on.kept hg ?_, h.ok.kept hg ?_, IsVals.frame (fun b _ hb' => hb.block b hb') hb.size h.kids⟩
  · cases hv : nv.ownBlock <;> simp
  · cases hv : kv.ownBlock <;> simp
theorem VD.pend (h : VD w B bo h3 h4 nv nn kv kn P ts us) {Q : Nat → Prop} {t : T} {v : Value} (ht : IsVal w Q t v) (hQ : ∀ b, Q b → P b ∧ b ≠ bo ∧ nv.ownBlock ≠ some b ∧ kv.ownBlock ≠ some b) :
    VD w B bo h3 h4 nv nn kv kn P (ts ++ [t]) (us ++ [v]) := { h with kids := IsVals.snoc h.kids (IsVal.mono (fun b hb _ => hQ b hb) ht) }
theorem VD.nb (h : VD w B bo h3 h4 nv nn kv kn P ts us) : nv.ownBlock ≠ some bo ∧ kv.ownBlock ≠ some bo := ⟨Lib.ownBlock_ne h.on h.blk (by decide), Lib.ownBlock_ne h.ok h.blk (by decide)⟩
theorem VD.nk (h : VD w B bo h3 h4 nv nn kv kn P ts us) : kv.ownBlock = none ∨ kv.ownBlock ≠ nv.ownBlock := by
  rcases h.ok.2 with ⟨h1, _⟩ | ⟨g', cap', cur, h1, _, hg', _⟩
  · left; rw [h1]; rfl
  · right; intro e; rw [h1] at e; exact Lib.ownBlock_ne h.on hg' (by decide) e.symm
theorem VD.kn' (h : VD w B bo h3 h4 nv nn kv kn P ts us) : nv.ownBlock = none ∨ nv.ownBlock ≠ kv.ownBlock := by
  rcases h.on.2 with ⟨h1, _⟩ | ⟨g', cap', cur, h1, _, hg', _⟩
  · left; rw [h1]; rfl
  · right; intro e; rw [h1] at e; exact Lib.ownBlock_ne h.ok hg' (by decide) e.symm
theorem VD.appN (h : VD w B bo h3 h4 nv nn kv kn P ts us) {nm : ByteArray} (hown : w1.ownsRow B 9 1 nv' (nn.length + 1) (nn.map Value.string ++ [.string nm])) (hgr : w.grownBy w1 nv.ownBlock)
    (hl : nv'.ownBlock = nv.ownBlock ∨ ∃ g, nv'.ownBlock = some g ∧ w.heap.size ≤ g) : VD w1 B bo h3 h4 nv' (nn ++ [nm]) kv kn P ts us := by
  obtain ⟨hn1, hn2⟩ := h.nb
  refine ⟨h.hbo, (hgr.block bo h.lt (fun e => hn1 e.symm)).trans h.blk, by simpa using hown, h.ok.kept hgr h.nk, ?_⟩
  have k1 : IsVals w (fun b => (P b ∧ b ≠ bo ∧ nv'.ownBlock ≠ some b ∧ kv.ownBlock ≠ some b) ∧ nv.ownBlock ≠ some b) ts us := by
    refine IsVals.mono (fun b hb hlt => ⟨⟨hb.1, hb.2.1, ?_, hb.2.2.2⟩, hb.2.2.1⟩) h.kids
    intro e
    rcases hl with e' | ⟨g, e', hg⟩
    · exact hb.2.2.1 (e'.symm.trans e)
    · rw [e'] at e; cases e; omega
  exact IsVals.mono (fun b hb _ => hb.1) (IsVals.frame (fun b hb hlt => hgr.block b hlt (fun e => hb.2 e.symm)) hgr.size k1)
theorem VD.appK (h : VD w B bo h3 h4 nv nn kv kn P ts us) {u : Value} (hown : w1.ownsRow B 64 1 kv' (kn.length + 1) (kn ++ [u])) (hgr : w.grownBy w1 kv.ownBlock)
    (hl : kv'.ownBlock = kv.ownBlock ∨ ∃ g, kv'.ownBlock = some g ∧ w.heap.size ≤ g) : VD w1 B bo h3 h4 nv nn kv' (kn ++ [u]) P ts us := by
  obtain ⟨hn1, hn2⟩ := h.nb
  refine ⟨h.hbo, (hgr.block bo h.lt (fun e => hn2 e.symm)).trans h.blk, h.on.kept hgr h.kn', by simpa using hown, ?_⟩
  have k1 : IsVals w (fun b => (P b ∧ b ≠ bo ∧ nv.ownBlock ≠ some b ∧ kv'.ownBlock ≠ some b) ∧ kv.ownBlock ≠ some b) ts us := by
    refine IsVals.mono (fun b hb hlt => ⟨⟨hb.1, hb.2.1, hb.2.2.1, ?_⟩, hb.2.2.2⟩) h.kids
    intro e
    rcases hl with e' | ⟨g, e', hg⟩
    · exact hb.2.2.2 (e'.symm.trans e)
    · rw [e'] at e; cases e; omega
  exact IsVals.mono (fun b hb _ => hb.1) (IsVals.frame (fun b hb hlt => hgr.block b hlt (fun e => hb.2 e.symm)) hgr.size k1)
theorem VD.set3 (h : VD w B bo h3 h4 nv nn kv kn P ts us) (x : Value) : VD (w.setCell ⟨bo, 3, none⟩ x) B bo x h4 nv nn kv kn P ts us := by
  obtain ⟨hn1, hn2⟩ := h.nb
  have hset : w.grownBy (w.setCell ⟨bo, 3, none⟩ x) (some bo) := ⟨rfl, rfl, rfl, by simp [World.setCell], fun k _ hk => Below.heap_setCell _ _ _ _ (fun e => hk (by simp [e]))⟩
  refine ⟨h.hbo, ?_, h.on.kept hset (Or.inr hn1), h.ok.kept hset (Or.inr hn2), IsVals.frame (fun b hb _ => hset.block b (by assumption) (fun e => hb.2.1 (by cases e; rfl))) hset.size h.kids⟩
  simp [World.setCell, Array.getElem?_modify, h.blk]
theorem VD.set4 (h : VD w B bo h3 h4 nv nn kv kn P ts us) (x : Value) : VD (w.setCell ⟨bo, 4, none⟩ x) B bo h3 x nv nn kv kn P ts us := by
  obtain ⟨hn1, hn2⟩ := h.nb
  have hset : w.grownBy (w.setCell ⟨bo, 4, none⟩ x) (some bo) := ⟨rfl, rfl, rfl, by simp [World.setCell], fun k _ hk => Below.heap_setCell _ _ _ _ (fun e => hk (by simp [e]))⟩
  refine ⟨h.hbo, ?_, h.on.kept hset (Or.inr hn1), h.ok.kept hset (Or.inr hn2), IsVals.frame (fun b hb _ => hset.block b (by assumption) (fun e => hb.2.1 (by cases e; rfl))) hset.size h.kids⟩
  simp [World.setCell, Array.getElem?_modify, h.blk]
theorem VD.len (h : VD w B bo h3 h4 nv nn kv kn P ts us) : us.length = ts.length := (h.kids.get).1
theorem lies_own {v : Value} {g n c H : Nat} (h : v.ownBlock = some g ∨ g = H) : (Value.slice (some ⟨g, 0, none⟩) n c).ownBlock = v.ownBlock ∨ ∃ g', (Value.slice (some ⟨g, 0, none⟩) n c).ownBlock = some g' ∧ H ≤ g' := by
  rcases h with h | h
  · exact .inl h.symm
  · exact .inr ⟨g, rfl, by omega⟩
/-- the map is built -/
theorem VD.val (h : VD w B bo nv kv nv nn kv kn P ts kn) (hl : kn.length = ts.length) (hP : ∀ b, B ≤ b → P b) : IsVal w P (.mk 7 0 ⟨#[]⟩ nn ts) (.pointer (some ⟨bo, 0, none⟩)) :=
  ⟨bo, _, _, kn, rfl, hP _ h.hbo, h.blk, Row.of_owns h.on hP, by have := Row.of_owns h.ok (S := P) hP; rw [hl] at this; exact this, IsVals.mono (fun _ h _ => h.1) h.kids⟩
end
end Go.Proofs.YtbldchemgkfdcaaGreatDoor
