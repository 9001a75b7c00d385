/- words for the laws: what a told value is, and what stands in memory while a law runs. -/
import Derived.Test.YtbldchemgkfdcaaGreatDoorTo
import Derived.Test.YtbldchemgkfdcaaGreatDoorEq
import Derived.Test.YtbldchemgkfdcaaGreatDoorMarkV
namespace Go.Proofs.YtbldchemgkfdcaaGreatDoor
open Go.RowKit

theorem szFold_bounds : ∀ (l : List N) (left : Int), ¬ szFold l left < 0 → 0 ≤ left ∧ ∀ x ∈ l, (x.text.size : Int) ≤ left ∧ (x.name.size : Int) ≤ left
  | [], left, h => ⟨by simp only [szFold] at h; omega, fun x hx => by cases hx⟩
  | x :: xs, left, h => by
    simp only [szFold] at h
    have hs : szN x left < 0 ∨ 0 ≤ szN x left := by omega
    rcases hs with hs | hs
    · rw [if_pos hs] at h; omega
    · rw [if_neg (by omega)] at h
      obtain ⟨h1, h2⟩ := szFold_bounds xs _ h
      have key : (x.text.size : Int) ≤ left ∧ (x.name.size : Int) ≤ left ∧ szN x left ≤ left := by
        unfold szN at hs ⊢
        split at hs
        · omega
        · split at hs
          · omega
          · rename_i a b; rw [if_neg a, if_neg b]; omega
      refine ⟨by omega, fun y hy => ?_⟩
      cases hy with
      | head => exact ⟨key.1, key.2.1⟩
      | tail _ hy => have := h2 y hy; omega
theorem szNs_bounds (l : List N) (left : Int) (h : ¬ szNs l left < 0) : (l.length : Int) ≤ left ∧ ∀ x ∈ l, (x.text.size : Int) ≤ left ∧ (x.name.size : Int) ≤ left := by
  unfold szNs at h
  have hs : left - (l.length : Int) < 0 ∨ 0 ≤ left - (l.length : Int) := by omega
  rcases hs with hs | hs
  · rw [if_pos hs] at h; omega
  · rw [if_neg (by omega)] at h
    obtain ⟨_, h2⟩ := szFold_bounds l _ h
    exact ⟨by omega, fun x hx => by have := h2 x hx; omega⟩

/-- the nodes that are told -/
def resL (r : Option T) : List N := match r with | none => [] | some t => t.flat ⟨#[]⟩ (-1) 0
theorem ToldPost.uni {w w' : World} {r : Option T} {e : Ending} (h : ToldPost w r e w') : ∃ sv, e = .returned (.tuple #[.agg #[sv], .bool r.isSome]) ∧ Made w' w.heap.size sv (resL r) ∧ Below w.heap.size w w' := by
  obtain ⟨hb, h⟩ := h
  cases r with
  | none => exact ⟨_, h, World.ownsRow_nil _ _ _ _, hb⟩
  | some t => obtain ⟨sv, h1, h2⟩ := h; exact ⟨sv, h1, h2, hb⟩

theorem Made.lt {w : World} {B : Nat} {v : Value} {l : List N} (h : Made w B v l) : ∀ g, v.ownBlock = some g → B ≤ g ∧ g < w.heap.size := World.ownsRow.lt h
theorem Made.call {w w' : World} {B : Nat} {v : Value} {l : List N} (h : Made w B v l) (hb : Below w.heap.size w w') : Made w' B v l := owns_call h hb
theorem Made.nods {w : World} {B : Nat} {v : Value} {l : List N} (h : Made w B v l) : Nods w (fun b => B ≤ b ∧ b < w.heap.size) v l := (Row.of_owns h (fun _ hb => hb)).mono (fun _ h1 h2 => ⟨h1, h2⟩)
theorem Made.kept {w w' : World} {B : Nat} {v : Value} {l : List N} {row : Option Nat} (h : Made w B v l) (hg : w.grownBy w' row) (hne : ∀ g, v.ownBlock = some g → row ≠ some g) : Made w' B v l := by
  refine World.ownsRow.kept h hg ?_
  cases hv : v.ownBlock with
  | none => exact .inl rfl
  | some g => exact .inr (fun e => hne g hv e.symm)

/-- while a law runs: the argument's box b0, the expected answer's variable bw, the argument's copy's bx, the answer's bg -/
structure LEnv (ws w : World) (b0 bw bx bg : Nat) (v sv0 svx svg : Value) (l0 : List N) : Prop where
  below : Below ws.heap.size ws w
  c0 : w.cell? ⟨b0, 0, none⟩ = some v
  cw : w.cell? ⟨bw, 0, none⟩ = some sv0
  cx : w.cell? ⟨bx, 0, none⟩ = some svx
  cg : w.cell? ⟨bg, 0, none⟩ = some svg
  r0 : Nods w (fun b => b < bw) sv0 l0
  h0 : ws.heap.size ≤ b0
  h1 : b0 < bw
  h2 : bw < bx
  h3 : bx < bg
  h4 : bg < w.heap.size
section
variable {ws w w' : World} {b0 bw bx bg : Nat} {v sv0 svx svg : Value} {l0 : List N}
theorem LEnv.call (h : LEnv ws w b0 bw bx bg v sv0 svx svg l0) (hb : Below w.heap.size w w') : LEnv ws w' b0 bw bx bg v sv0 svx svg l0 := by
  have h1 := h.h1; have h2 := h.h2; have h3 := h.h3; have h4 := h.h4; have h5 := hb.size
  exact ⟨h.below.trans (hb.mono h.below.size), (hb.cell (p := ⟨b0, 0, none⟩) (by simp; omega)).trans h.c0, (hb.cell (p := ⟨bw, 0, none⟩) (by simp; omega)).trans h.cw, (hb.cell (p := ⟨bx, 0, none⟩) (by simp; omega)).trans h.cx, (hb.cell (p := ⟨bg, 0, none⟩) (by simp; omega)).trans h.cg,
    Row.call h.r0 hb, h.h0, h1, h2, h3, by omega⟩
theorem LEnv.mark (h : LEnv ws w b0 bw bx bg v sv0 svx svg l0) {row : Option Nat} (hg : w.grownBy w' row) (hr : ∀ g, row = some g → bw < g ∧ g ≠ bx ∧ g ≠ bg) : LEnv ws w' b0 bw bx bg v sv0 svx svg l0 := by
  have h0 := h.h0; have h1 := h.h1; have h2 := h.h2; have h3 := h.h3; have h4 := h.h4; have h5 := hg.size
  have hk : ∀ k, k ≤ bw ∨ k = bx ∨ k = bg → some k ≠ row := fun k hk e => by have := hr k e.symm; omega
  exact ⟨h.below.grown hg h.below.size (fun k hk => by have := hr k hk; omega), hg.cell h.c0 (hk _ (.inl (by simp; omega))), hg.cell h.cw (hk _ (.inl (Nat.le_refl _))), hg.cell h.cx (hk _ (.inr (.inl rfl))), hg.cell h.cg (hk _ (.inr (.inr rfl))),
    Row.frame h.r0 (fun b hb hlt => hg.block b hlt (hk b (.inl (Nat.le_of_lt hb)))) h5, h0, h1, h2, h3, by omega⟩
theorem LEnv.alloc (h : LEnv ws w b0 bw bx bg v sv0 svx svg l0) (o : Obj) : LEnv ws (w.alloc o) b0 bw bx bg v sv0 svx svg l0 := h.call ((Below.refl _ _).alloc (Nat.le_refl _) o)
theorem LEnv.drew (h : LEnv ws w b0 bw bx bg v sv0 svx svg l0) : LEnv ws w.drew b0 bw bx bg v sv0 svx svg l0 := h.call (Below.refl _ _).drew
end
end Go.Proofs.YtbldchemgkfdcaaGreatDoor
