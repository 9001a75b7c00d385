/- strings.NewReplacer, buildOnce, (*byteStringReplacer).Replace, (*Replacer).Replace at two bytes with two texts of two bytes each. -/
import Derived.Test.YtbldchemgkfdcaaGreatDoorRepl
import Derived.Test.YtbldchemgkfdcaaGreatDoorShelf
namespace Go.Proofs.YtbldchemgkfdcaaGreatDoor
open Go.RowKit

/-- what stands for a byte -/
def rp (o1 o2 : UInt8) (s1 s2 : List UInt8) (b : UInt8) : List UInt8 := if b = o1 then s1 else if b = o2 then s2 else [b]
def repl (o1 o2 : UInt8) (s1 s2 : List UInt8) (l : List UInt8) : List UInt8 := l.flatMap (rp o1 o2 s1 s2)

/-- a new Replacer in block b -/
def NewR (B b : Nat) (o1 o2 a1 a2 c1 c2 : UInt8) (w : World) : Prop :=
  ∃ g cap, B ≤ b ∧ w.heap[b]? = some (.cells #[.int .u32 0, .int .i32 0, .int .u32 0, .nilIface, .slice (some ⟨g, 0, none⟩) 4 cap] 152 (0, 0)) ∧ g ≠ b ∧
    w.cell? ⟨g, 0, none⟩ = some (.string ⟨⟨[o1]⟩⟩) ∧ w.cell? ⟨g, 1, none⟩ = some (.string ⟨⟨[a1, a2]⟩⟩) ∧ w.cell? ⟨g, 2, none⟩ = some (.string ⟨⟨[o2]⟩⟩) ∧ w.cell? ⟨g, 3, none⟩ = some (.string ⟨⟨[c1, c2]⟩⟩)

set_option maxRecDepth 100000 in
set_option maxHeartbeats 1000000 in
theorem newR_c (g : Nat) (c : Nat) (o1 o2 a1 a2 c1 c2 : UInt8) (w : World)
    (h0 : w.cell? ⟨g, 0, none⟩ = some (.string ⟨⟨[o1]⟩⟩)) (h1 : w.cell? ⟨g, 1, none⟩ = some (.string ⟨⟨[a1, a2]⟩⟩)) (h2 : w.cell? ⟨g, 2, none⟩ = some (.string ⟨⟨[o2]⟩⟩)) (h3 : w.cell? ⟨g, 3, none⟩ = some (.string ⟨⟨[c1, c2]⟩⟩)) :
    Calls Tryz.prog 101 #[.slice (some ⟨g, 0, none⟩) 4 c] w fun e w' => ∃ b, e = .returned (.pointer (some ⟨b, 0, none⟩)) ∧ NewR w.heap.size b o1 o2 a1 a2 c1 c2 w' ∧ Below w.heap.size w w' := by
  obtain ⟨i0, hi, hz0, hz1, hz2⟩ := info_parts infoStr
  go_enter Tryz.func101, Tryz.ntmps101
  go_wp2_with (at_builtin; go_loud (refine wpList_append_own _ rfl _ _ 35 rfl w.heap.size 9 i0 (.string ⟨#[]⟩) 1 16 Tryz.underlying35 hi hz0 hz1 hz2 rfl (by decide) _ _ _ rfl (World.ownsRow_nil _ _ _ _) ⟨g, 0, none⟩ 4 c [.string ⟨⟨[o1]⟩⟩, .string ⟨⟨[a1, a2]⟩⟩, .string ⟨⟨[o2]⟩⟩, .string ⟨⟨[c1, c2]⟩⟩] rfl rfl (by intro j u hj; rw [add_off, Nat.zero_add]; match j, hj with | 0, hj => simpa [h0] using hj | 1, hj => simpa [h1] using hj | 2, hj => simpa [h2] using hj | 3, hj => simpa [h3] using hj | _ + 4, hj => simp at hj) (by intro u hu; simp at hu; rcases hu with rfl | rfl | rfl | rfl <;> rfl) (by unfold maxLen; omega) (by omega) (Nat.le_refl _) ?_))
  intro v' w4 hown4 hgr4 _
  have hB4 := (Below.refl w.heap.size w).grown hgr4 (Nat.le_refl _) (fun k hk => by simp [Value.ownBlock] at hk)
  obtain ⟨g', cap, cur, rfl, hg', hgb, _, _, hsz, htk⟩ : ∃ g' cap cur, v' = .slice (some ⟨g', 0, none⟩) (0 + 4) cap ∧ w.heap.size ≤ g' ∧ w4.heap[g']? = some (.cells cur 9 (0, 0)) ∧ 0 + 4 ≤ cap ∧ cap ≤ maxLen ∧ cur.size = cap * 1 ∧ cur.toList.take ((0 + 4) * 1) = [] ++ [.string ⟨⟨[o1]⟩⟩, .string ⟨⟨[a1, a2]⟩⟩, .string ⟨⟨[o2]⟩⟩, .string ⟨⟨[c1, c2]⟩⟩] := by
    rcases hown4.2 with ⟨_, h⟩ | h
    · omega
    · exact h
  have ht : ∀ (j : Nat) (u : Value), [Value.string ⟨⟨[o1]⟩⟩, .string ⟨⟨[a1, a2]⟩⟩, .string ⟨⟨[o2]⟩⟩, .string ⟨⟨[c1, c2]⟩⟩][j]? = some u → (w4.alloc (.cells #[.int .u32 0, .int .i32 0, .int .u32 0, .nilIface, .slice (some ⟨g', 0, none⟩) 4 cap] 152)).cell? ⟨g', j, none⟩ = some u := fun j u hu => by
    rw [cell_blk ((blk_old w4 _ (lt_blk hgb)).trans hgb)]
    rw [List.nil_append] at htk
    rw [← htk, List.getElem?_take] at hu
    split at hu
    · simpa using hu
    · cases hu
  have HT := Lib.hid ht; have HB4 := Lib.hid hB4
  have hlt := lt_blk hgb
  clear ht hB4 hgr4 hown4 htk hsz hgb
  go_wp2
  go_ret
  exact ⟨_, rfl, ⟨g', cap, HB4.out.size, blk_new w4 _, by omega, HT.out 0 _ rfl, HT.out 1 _ rfl, HT.out 2 _ rfl, HT.out 3 _ rfl⟩, HB4.out.alloc HB4.out.size _⟩

/-- a Replacer that was built, in block b -/
def OldR (B b p : Nat) (d0 d1 : Int) (o1 o2 : UInt8) (s1 s2 : List UInt8) (w : World) : Prop :=
  w.heap[b]? = some (.cells #[.int .u32 d0, .int .i32 d1, .int .u32 0, .iface 189 (.pointer (some ⟨p, 0, none⟩)), .slice none 0 0] 152 (0, 0)) ∧ Bst B p o1 o2 s1 s2 2 w

theorem Bst.of {B p : Nat} {o1 o2 : UInt8} {s1 s2 : List UInt8} {st : Nat} {w w' : World} {b : Nat} (h : Bst B p o1 o2 s1 s2 st w) (hg : w.grownBy w' (some b)) {cs : Array Value} {fr : Nat × Nat} (hb : w.heap[b]? = some (.cells cs 152 fr)) : Bst B p o1 o2 s1 s2 st w' := by
  obtain ⟨tr, v1, v2, hR, hO, hp, h1, h2⟩ := h
  have key : ∀ (q : Nat) (cs' : Array Value) (T : TypeId) (fr' : Nat × Nat), T ≠ 152 → w.heap[q]? = some (.cells cs' T fr') → w'.heap[q]? = w.heap[q]? := fun q cs' T fr' hT hq => hg.block q (lt_blk hq) (by
    rintro hqb
    simp only [Option.some.injEq] at hqb
    subst hqb
    rw [hb] at hq
    simp only [Option.some.injEq, Obj.cells.injEq] at hq
    exact hT hq.2.1.symm)
  refine ⟨tr, v1, v2, ?_, ?_, hp, fun h => (h1 h).of_block fun q cs fr hq => key q cs _ fr (by decide) hq, fun h => (h2 h).of_block fun q cs fr hq => key q cs _ fr (by decide) hq⟩
  · obtain ⟨cs', hb', h⟩ := hR
    exact ⟨cs', (key p cs' _ _ (by decide) hb').trans hb', h⟩
  · refine ⟨hO.1, ?_⟩
    rcases hO.2 with h | ⟨g, cap, cur, hv, hbg, hgg, r⟩
    · exact .inl h
    · exact .inr ⟨g, cap, cur, hv, hbg, (key g cur _ _ (by decide) hgg).trans hgg, r⟩

set_option maxRecDepth 100000 in
set_option maxHeartbeats 1000000 in
theorem buildOnce_c (b g cap : Nat) (d0 d1 : Int) (o1 o2 a1 a2 c1 c2 : UInt8) (hne : o1 ≠ o2) (w : World)
    (hb : w.heap[b]? = some (.cells #[.int .u32 d0, .int .i32 d1, .int .u32 0, .nilIface, .slice (some ⟨g, 0, none⟩) 4 cap] 152 (0, 0)))
    (h0 : w.cell? ⟨g, 0, none⟩ = some (.string ⟨⟨[o1]⟩⟩)) (h1 : w.cell? ⟨g, 1, none⟩ = some (.string ⟨⟨[a1, a2]⟩⟩)) (h2 : w.cell? ⟨g, 2, none⟩ = some (.string ⟨⟨[o2]⟩⟩)) (h3 : w.cell? ⟨g, 3, none⟩ = some (.string ⟨⟨[c1, c2]⟩⟩)) :
    Calls Tryz.prog 117 #[.pointer (some ⟨b, 0, none⟩)] w fun e w' => e = .returned (.tuple #[]) ∧ (∃ p, OldR w.heap.size b p d0 d1 o1 o2 [a1, a2] [c1, c2] w') ∧ w.grownBy w' (some b) := by
  have HB := Lib.hid hb
  have HC := Lib.hid (build_c b g cap _ _ _ _ o1 o2 a1 a2 c1 c2 hne w hb h0 h1 h2 h3)
  clear hb h0 h1 h2 h3
  go_enter Tryz.func117, Tryz.ntmps117
  go_wp2_with (go_at_call 130; refine HC.out.mono ?_; rintro e w1 ⟨p, rfl, hS, hI⟩; have hb1 := (hI.block b (lt_blk HB.out)).trans HB.out; have HS := Lib.hid hS; have HI := Lib.hid hI; have HB1 := Lib.hid hb1; have k3 := cell_blk hb1 3; have k4 := cell_blk hb1 4; have f3 := fro_blk hb1 3; have f4 := fro_blk hb1 4; simp only [List.getElem?_toArray, List.getElem?_cons_zero, List.getElem?_cons_succ] at k3 k4; clear hS hI hb1)
  go_end0
  have g1 : w1.grownBy ((w1.setCell ⟨b, 3, none⟩ (.iface 189 (.pointer (some ⟨p, 0, none⟩)))).setCell ⟨b, 4, none⟩ (.slice none 0 0)) (some b) :=
    ⟨rfl, rfl, rfl, by simp, fun k _ hk => (heap_setCell_other _ _ k _ (fun e => hk (by rw [e]))).trans (heap_setCell_other w1 _ k _ (fun e => hk (by rw [e])))⟩
  refine ⟨rfl, ⟨p, ?_, HS.out.of g1 HB1.out⟩, ⟨g1.os.trans HI.out.os, g1.tape.trans HI.out.tape, g1.output.trans HI.out.output, Nat.le_trans HI.out.size g1.size, fun k hk hn => (g1.block k (Nat.lt_of_lt_of_le hk HI.out.size) hn).trans (HI.out.block k hk)⟩⟩
  have e1 := heap_setCell_same w1 b 3 _ _ (.iface 189 (.pointer (some ⟨p, 0, none⟩))) HB1.out
  exact heap_setCell_same _ b 4 _ _ (.slice none 0 0) e1
end Go.Proofs.YtbldchemgkfdcaaGreatDoor
