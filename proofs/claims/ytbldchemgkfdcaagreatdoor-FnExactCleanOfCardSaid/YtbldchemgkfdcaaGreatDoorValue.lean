/- impl.value. -/
import Derived.Test.YtbldchemgkfdcaaGreatDoorValOf
namespace Go.Proofs.YtbldchemgkfdcaaGreatDoor
open Go.RowKit

theorem owns_base {w : World} {B B' : Nat} {e : TypeId} {size n : Nat} {v : Value} {xs : List Value} (h : w.ownsRow B e size v n xs) (hB : B' ≤ B) : w.ownsRow B' e size v n xs := by
  obtain ⟨hl, h⟩ := h
  refine ⟨hl, ?_⟩
  rcases h with h | ⟨g, cap, cur, hv, hb, r⟩
  · exact .inl h
  · exact .inr ⟨g, cap, cur, hv, by omega, r⟩
theorem owns_call {w w' : World} {B : Nat} {e : TypeId} {size n : Nat} {v : Value} {xs : List Value} (h : w.ownsRow B e size v n xs) (hb : Below w.heap.size w w') : w'.ownsRow B e size v n xs :=
  h.kept (row := none) ⟨hb.os, hb.tape, hb.output, hb.size, fun k hk _ => hb.block k hk⟩ (by cases hv : v.ownBlock <;> simp)

/-- the value of a tree lies in the row behind v, all in blocks from B on -/
def Made (w : World) (B : Nat) (v : Value) (l : List N) : Prop := w.ownsRow B 63 5 v l.length (l.flatMap N.cells)
theorem T.flat_len : (t : T) → (name : ByteArray) → (up : Int) → (a : Nat) → (t.flat name up a).length = t.cnt
  | .mk kind num text names kids, name, up, a => by simp only [T.flat, T.cnt, List.length_cons]; rw [T.flats_len]
where T.flats_len : (kind : Int) → (names : List ByteArray) → (l : List T) → (i s a : Nat) → (T.flats kind names l i s a).length = T.cnts l
  | _, _, [], _, _, _ => by simp [T.flats, T.cnts]
  | kind, names, t :: ts, i, s, a => by simp only [T.flats, T.cnts, List.length_append]; rw [T.flat_len, T.flats_len]

set_option maxRecDepth 100000 in
set_option maxHeartbeats 1000000 in
theorem value_c (t : T) (v : Value) (w : World) (S : Nat → Prop) (hwn : t.wn) (hc : t.cnt ≤ 1099511627776) (hv : IsVal w S t v) (hS : ∀ b, S b → b < w.heap.size) :
    Calls Tryz.prog 40 #[v] w fun e w' => ∃ sv, e = .returned (.agg #[sv]) ∧ Made w' w.heap.size sv (t.flat ⟨#[]⟩ (-1) 0) ∧ Below w.heap.size w w' := by
  have HV := Lib.hid hv; have HS := Lib.hid hS; have HW := Lib.hid hwn
  have HB0 := Lib.hid ((Below.refl w.heap.size w).alloc (Nat.le_refl _) (.cells #[.slice none 0 0] 28))
  have HN := Lib.hid (nodes_c _ t v (w.alloc (.cells #[.slice none 0 0] 28)) S ⟨#[]⟩ (-1) (.slice none 0 0) 0 (w.heap.size + 1) [] (Nat.le_refl _) (by omega) hwn
    (hv.frame (fun b hb hlt => blk_old w _ hlt) (by simp)) (fun b hb => by have := hS b hb; omega) (by simp) (World.ownsRow_nil _ _ _ _))
  clear hv hS hwn
  go_enter Tryz.func40, Tryz.ntmps40
  go_wp2_with (go_at_call 70; refine HN.out.mono ?_; rintro e w1 ⟨sv, rfl, ho, hI⟩; rw [Nat.zero_add, List.nil_append] at ho; have hbk := (hI.block w.heap.size (by omega)).trans (blk_new w _); obtain ⟨a1, q1, rfl⟩ := owns_form ho; have k0 : w1.cell? ⟨w.heap.size, 0, none⟩ = some (.slice none 0 0) := cell_blk hbk 0; have f0 := fro_blk hbk 0; have HO := Lib.hid ho; have HI := Lib.hid hI; have HBk := Lib.hid hbk; clear ho hI hbk)
  have k1 := World.cell?_setCell_same w1 ⟨w.heap.size, 0, none⟩ (.slice a1 t.cnt q1) k0
  refine bodyPost_ret (v := .agg #[.slice a1 t.cnt q1]) (by simp [results, Tryz.results40, go_sem, k1]) rfl ⟨_, rfl, ?_, ?_⟩
  · show World.ownsRow _ _ _ _ _ _ _
    rw [T.flat_len]
    exact owns_base (ownsRow_setCell_below HO.out (by simp) _) (by omega)
  · exact (HB0.out.trans (HI.out.mono (by omega))).setCell (p := ⟨w.heap.size, 0, none⟩) (Nat.le_refl _) _

/-- told: the value of a good tree, else nothing -/
def ToldPost (w : World) (r : Option T) (e : Ending) (w' : World) : Prop :=
  Below w.heap.size w w' ∧ match r with
  | none => e = .returned (.tuple #[.agg #[.slice none 0 0], .bool false])
  | some t => ∃ sv, e = .returned (.tuple #[.agg #[sv], .bool true]) ∧ Made w' w.heap.size sv (t.flat ⟨#[]⟩ (-1) 0)
end Go.Proofs.YtbldchemgkfdcaaGreatDoor
