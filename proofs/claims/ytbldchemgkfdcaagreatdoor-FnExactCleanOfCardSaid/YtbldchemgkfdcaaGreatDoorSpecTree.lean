/- spec.l1Tree: the tree of a node. -/
import Derived.Test.YtbldchemgkfdcaaGreatDoorText
import Derived.Deep.RegionLaw
import Derived.Deep.DeepCutAuto
namespace Go.Proofs.YtbldchemgkfdcaaGreatDoor
open Go.RowKit

theorem IsVs.snoc {w : World} {S : Nat → Prop} : ∀ {ts : List T} {vs : List (List Value)} {t : T} {v : List Value}, IsVs w S ts vs → IsV w S t v → IsVs w S (ts ++ [t]) (vs ++ [v])
  | [], [], _, _, _, h => ⟨h, trivial⟩
  | _ :: _, _ :: _, _, _, h, k => ⟨h.1, IsVs.snoc h.2 k⟩
  | [], _ :: _, _, _, h, _ => h.elim
  | _ :: _, [], _, _, h, _ => h.elim
theorem IsV.form {w : World} {S : Nat → Prop} : ∀ {t : T} {v : List Value}, IsV w S t v → ∃ an cn ak ck, v = [.int .i64 t.kind, .int .i64 t.num, .string t.text, .slice an t.names.length cn, .slice ak t.kids.length ck]
  | .mk .., _, ⟨sn, sk, vs, hv, h1, h2, _⟩ => by
    obtain ⟨an, cn, rfl⟩ := Row.form h1
    obtain ⟨ak, ck, rfl⟩ := h2.form
    exact ⟨an, cn, ak, ck, hv⟩
/-- below B all is as it was, but block bo -/
structure Ext (B bo : Nat) (w w' : World) : Prop where
  os : w'.os = w.os
  tape : w'.tape = w.tape
  output : w'.output = w.output
  size : w.heap.size ≤ w'.heap.size
  block : ∀ b, b < B → b ≠ bo → w'.heap[b]? = w.heap[b]?
theorem Ext.refl (B bo : Nat) (w : World) : Ext B bo w w := ⟨rfl, rfl, rfl, Nat.le_refl _, fun _ _ _ => rfl⟩
theorem Ext.of {B bo : Nat} {w w' : World} (h : Below B w w') : Ext B bo w w' := ⟨h.os, h.tape, h.output, h.size, fun b hb _ => h.block b hb⟩
theorem Ext.trans {B bo : Nat} {w w' w'' : World} (h : Ext B bo w w') (h' : Ext B bo w' w'') : Ext B bo w w'' :=
  ⟨h'.os.trans h.os, h'.tape.trans h.tape, h'.output.trans h.output, Nat.le_trans h.size h'.size, fun b hb hn => (h'.block b hb hn).trans (h.block b hb hn)⟩
theorem Ext.below {B bo B' : Nat} {w w' : World} (h : Ext B bo w w') (h1 : B' ≤ B) (h2 : B' ≤ bo) : Below B' w w' := ⟨h.os, h.tape, h.output, h.size, fun b hb => h.block b (by omega) (by omega)⟩
theorem Ext.set {B bo : Nat} {w w' : World} (h : Below B w w') (i : Nat) (v : Value) : Ext B bo w (w'.setCell ⟨bo, i, none⟩ v) :=
  ⟨h.os, h.tape, h.output, by simpa [World.setCell] using h.size, fun b hb hn => (Below.heap_setCell _ _ _ _ (by simpa using hn)).trans (h.block b hb)⟩
theorem Ext.cell {B bo : Nat} {w w' : World} (h : Ext B bo w w') {b o : Nat} (hb : b < B) (hn : b ≠ bo) : w'.cell? ⟨b, o, none⟩ = w.cell? ⟨b, o, none⟩ := World.cell?_of_block (a := ⟨b, o, none⟩) (h.block b hb hn)

structure TB (w : World) (B bo : Nat) (kind num : Int) (text : ByteArray) (an : Option Addr) (cn : Nat) (names : List ByteArray) (ak : Option Addr) (ck : Nat) (m : Nat) (cs : List Value) (us : List (List Value)) (ts : List T) : Prop where
  hbo : bo < B
  hko : (Value.slice ak 0 0).ownBlock ≠ some bo
  blk : w.heap[bo]? = some (.cells #[.int .i64 kind, .int .i64 num, .string text, .slice an names.length cn, .slice ak m ck] 59 (0, 0))
  on : w.ownsRow B 9 1 (.slice an names.length cn) names.length (names.map Value.string)
  ok : w.ownsRow B 59 5 (.slice ak m ck) m cs
  kids : IsVs w (fun b => B ≤ b ∧ b ≠ bo ∧ (Value.slice an 0 0).ownBlock ≠ some b ∧ (Value.slice ak 0 0).ownBlock ≠ some b) ts us

theorem TB.call {w w' : World} {B bo : Nat} {kind num : Int} {text : ByteArray} {an : Option Addr} {cn : Nat} {names : List ByteArray} {ak : Option Addr} {ck : Nat} {m : Nat} {cs : List Value} {us : List (List Value)} {ts : List T}
    (h : TB w B bo kind num text an cn names ak ck m cs us ts) (hb : Below w.heap.size w w') : TB w' B bo kind num text an cn names ak ck m cs us ts := by
  have hg : w.grownBy w' none := ⟨hb.os, hb.tape, hb.output, hb.size, fun k hk _ => hb.block k hk⟩
  refine ⟨h.hbo, h.hko, (hb.block bo (lt_blk h.blk)).trans h.blk, h.on.kept hg ?_, h.ok.kept hg ?_, IsVs.frame (fun b _ hb' => hb.block b hb') hb.size h.kids⟩
  · cases an <;> simp [Value.ownBlock]
  · cases ak <;> simp [Value.ownBlock]

theorem TB.pend {w w' : World} {B bo : Nat} {kind num : Int} {text : ByteArray} {an : Option Addr} {cn : Nat} {names : List ByteArray} {ak : Option Addr} {ck : Nat} {m : Nat} {cs : List Value} {us : List (List Value)} {ts : List T}
    (h : TB w B bo kind num text an cn names ak ck m cs us ts) (hb : Below w.heap.size w w') (hB : B ≤ w.heap.size) {t : T} {v : List Value} (ht : IsV w' (fun b => w.heap.size ≤ b) t v) :
    TB w' B bo kind num text an cn names ak ck m cs (us ++ [v]) (ts ++ [t]) := by
  have h' := h.call hb
  refine { h' with kids := IsVs.snoc h'.kids (IsV.mono ?_ ht) }
  intro b hb1 _
  have h1 := lt_blk h.blk
  refine ⟨by omega, by omega, fun e => ?_, fun e => ?_⟩
  · have := (h.on.lt b ((ownBlock_slice _ _ _ _ _).trans e)).2; omega
  · have := (h.ok.lt b ((ownBlock_slice _ _ _ _ _).trans e)).2; omega

theorem TB.putName {w w1 : World} {B bo : Nat} {kind num : Int} {text : ByteArray} {an : Option Addr} {cn : Nat} {names : List ByteArray} {ak : Option Addr} {ck : Nat} {m : Nat} {cs : List Value} {us : List (List Value)} {ts : List T}
    (h : TB w B bo kind num text an cn names ak ck m cs us ts) (hB : B ≤ w.heap.size) (o : Obj) {nm : ByteArray} {g cap : Nat}
    (hown : w1.ownsRow B 9 1 (.slice (some ⟨g, 0, none⟩) (names.length + 1) cap) (names.length + 1) (names.map Value.string ++ [.string nm]))
    (hgr : (w.alloc o).grownBy w1 (Value.slice an names.length cn).ownBlock) (hlies : (Value.slice an names.length cn).ownBlock = some g ∨ g = w.heap.size + 1) :
    TB (w1.setCell ⟨bo, 3, none⟩ (.slice (some ⟨g, 0, none⟩) (names.length + 1) cap)) B bo kind num text (some ⟨g, 0, none⟩) cap (names ++ [nm]) ak ck m cs us ts ∧ Ext B bo w (w1.setCell ⟨bo, 3, none⟩ (.slice (some ⟨g, 0, none⟩) (names.length + 1) cap)) := by
  have hbl := lt_blk h.blk
  have hn1 : (Value.slice an names.length cn).ownBlock ≠ some bo := Lib.ownBlock_ne h.on h.blk (by decide)
  have hn2 : (Value.slice ak m ck).ownBlock ≠ some bo := by rw [ownBlock_slice ak m ck 0 0]; exact h.hko
  have hn3 : (Value.slice ak m ck).ownBlock = none ∨ (Value.slice ak m ck).ownBlock ≠ (Value.slice an names.length cn).ownBlock := by
    rcases h.ok.2 with ⟨h1, _⟩ | ⟨g', cap', cur, h1, _, hg', _⟩
    · left; rw [h1]; rfl
    · right; intro e; rw [h1] at e; exact Lib.ownBlock_ne h.on hg' (by decide) e.symm
  have hb1 : w1.heap[bo]? = some (.cells #[.int .i64 kind, .int .i64 num, .string text, .slice an names.length cn, .slice ak m ck] 59 (0, 0)) := by
    rw [hgr.block bo (by simp; omega) (fun e => hn1 e.symm), blk_old w o hbl]; exact h.blk
  have hold : ∀ b, b < w.heap.size → b ≠ bo → (Value.slice an names.length cn).ownBlock ≠ some b → (w1.setCell ⟨bo, 3, none⟩ (.slice (some ⟨g, 0, none⟩) (names.length + 1) cap)).heap[b]? = w.heap[b]? := fun b hb hne hrow => by
    rw [Below.heap_setCell _ _ _ _ (by simpa using hne), hgr.block b (by simp; omega) (fun e => hrow e.symm), blk_old w o hb]
  have hsz : w.heap.size ≤ w1.heap.size := by have := hgr.size; simp at this; omega
  have hset : w1.grownBy (w1.setCell ⟨bo, 3, none⟩ (.slice (some ⟨g, 0, none⟩) (names.length + 1) cap)) (some bo) := ⟨rfl, rfl, rfl, by simp [World.setCell], fun k _ hk => Below.heap_setCell _ _ _ _ (fun e => hk (by simp [e]))⟩
  have hgbo : g ≠ bo := by
    rcases hlies with e | e
    · intro e'; subst e'; exact hn1 e
    · omega
  refine ⟨⟨h.hbo, h.hko, ?_, ?_, ?_, ?_⟩, ?_⟩
  · simp [World.setCell, Array.getElem?_modify, hb1]
  · have := hown.kept hset (Or.inr (by simpa [Value.ownBlock] using hgbo))
    simpa using this
  · exact ((h.ok.alloc o).kept hgr hn3).kept hset (Or.inr hn2)
  · have k1 : IsVs w (fun b => (B ≤ b ∧ b ≠ bo ∧ (Value.slice (some ⟨g, 0, none⟩) 0 0).ownBlock ≠ some b ∧ (Value.slice ak 0 0).ownBlock ≠ some b) ∧ b < w.heap.size ∧ (Value.slice an names.length cn).ownBlock ≠ some b) ts us := by
      refine IsVs.mono (fun b hb hlt => ?_) h.kids
      have h3 : (Value.slice an names.length cn).ownBlock ≠ some b := by rw [ownBlock_slice an names.length cn 0 0]; exact hb.2.2.1
      refine ⟨⟨hb.1, hb.2.1, ?_, hb.2.2.2⟩, hlt, h3⟩
      intro e
      simp only [Value.ownBlock, Option.some.injEq] at e
      rcases hlies with e' | e'
      · exact h3 (e'.trans (congrArg some e))
      · omega
    exact IsVs.mono (fun b hb _ => hb.1) (IsVs.frame (fun b hb _ => hold b hb.2.1 hb.1.2.1 hb.2.2) (by simp [World.setCell]; exact hsz) k1)
  · exact Ext.set (((Below.refl B w).alloc hB o).grown hgr (by simp; omega) (fun k hk => (h.on.lt k hk).1)) 3 _

theorem TB.putKid {w w1 : World} {B bo : Nat} {kind num : Int} {text : ByteArray} {an : Option Addr} {cn : Nat} {names : List ByteArray} {ak : Option Addr} {ck : Nat} {m : Nat} {cs : List Value} {us : List (List Value)} {ts : List T}
    (h : TB w B bo kind num text an cn names ak ck m cs us ts) (hB : B ≤ w.heap.size) (o : Obj) {u : List Value} {g cap : Nat}
    (hown : w1.ownsRow B 59 5 (.slice (some ⟨g, 0, none⟩) (m + 1) cap) (m + 1) (cs ++ u))
    (hgr : (w.alloc o).grownBy w1 (Value.slice ak m ck).ownBlock) (hlies : (Value.slice ak m ck).ownBlock = some g ∨ g = w.heap.size + 1) :
    TB (w1.setCell ⟨bo, 4, none⟩ (.slice (some ⟨g, 0, none⟩) (m + 1) cap)) B bo kind num text an cn names (some ⟨g, 0, none⟩) cap (m + 1) (cs ++ u) us ts ∧ Ext B bo w (w1.setCell ⟨bo, 4, none⟩ (.slice (some ⟨g, 0, none⟩) (m + 1) cap)) := by
  have hbl := lt_blk h.blk
  have hn1 : (Value.slice an names.length cn).ownBlock ≠ some bo := Lib.ownBlock_ne h.on h.blk (by decide)
  have hn2 : (Value.slice ak m ck).ownBlock ≠ some bo := by rw [ownBlock_slice ak m ck 0 0]; exact h.hko
  have hn3 : (Value.slice an names.length cn).ownBlock = none ∨ (Value.slice an names.length cn).ownBlock ≠ (Value.slice ak m ck).ownBlock := by
    by_cases he : (Value.slice an names.length cn).ownBlock = none
    · exact .inl he
    · right
      intro e
      rcases h.ok.2 with ⟨h1, _⟩ | ⟨g', cap', cur, h1, _, hg', _⟩
      · exact he (e.trans (by rw [h1]; rfl))
      · rw [h1] at e; exact Lib.ownBlock_ne h.on hg' (by decide) e
  have hb1 : w1.heap[bo]? = some (.cells #[.int .i64 kind, .int .i64 num, .string text, .slice an names.length cn, .slice ak m ck] 59 (0, 0)) := by
    rw [hgr.block bo (by simp; omega) (fun e => hn2 e.symm), blk_old w o hbl]; exact h.blk
  have hold : ∀ b, b < w.heap.size → b ≠ bo → (Value.slice ak m ck).ownBlock ≠ some b → (w1.setCell ⟨bo, 4, none⟩ (.slice (some ⟨g, 0, none⟩) (m + 1) cap)).heap[b]? = w.heap[b]? := fun b hb hne hrow => by
    rw [Below.heap_setCell _ _ _ _ (by simpa using hne), hgr.block b (by simp; omega) (fun e => hrow e.symm), blk_old w o hb]
  have hsz : w.heap.size ≤ w1.heap.size := by have := hgr.size; simp at this; omega
  have hset : w1.grownBy (w1.setCell ⟨bo, 4, none⟩ (.slice (some ⟨g, 0, none⟩) (m + 1) cap)) (some bo) := ⟨rfl, rfl, rfl, by simp [World.setCell], fun k _ hk => Below.heap_setCell _ _ _ _ (fun e => hk (by simp [e]))⟩
  have hgbo : g ≠ bo := by
    rcases hlies with e | e
    · intro e'; subst e'; exact hn2 e
    · omega
  refine ⟨⟨h.hbo, by simpa [Value.ownBlock] using hgbo, ?_, ?_, ?_, ?_⟩, ?_⟩
  · simp [World.setCell, Array.getElem?_modify, hb1]
  · exact ((h.on.alloc o).kept hgr hn3).kept hset (Or.inr hn1)
  · have := hown.kept hset (Or.inr (by simpa [Value.ownBlock] using hgbo))
    simpa using this
  · have k1 : IsVs w (fun b => (B ≤ b ∧ b ≠ bo ∧ (Value.slice an 0 0).ownBlock ≠ some b ∧ (Value.slice (some ⟨g, 0, none⟩) 0 0).ownBlock ≠ some b) ∧ b < w.heap.size ∧ (Value.slice ak m ck).ownBlock ≠ some b) ts us := by
      refine IsVs.mono (fun b hb hlt => ?_) h.kids
      have h3 : (Value.slice ak m ck).ownBlock ≠ some b := by rw [ownBlock_slice ak m ck 0 0]; exact hb.2.2.2
      refine ⟨⟨hb.1, hb.2.1, hb.2.2.1, ?_⟩, hlt, h3⟩
      intro e
      simp only [Value.ownBlock, Option.some.injEq] at e
      rcases hlies with e' | e'
      · exact h3 (e'.trans (congrArg some e))
      · omega
    exact IsVs.mono (fun b hb _ => hb.1) (IsVs.frame (fun b hb _ => hold b hb.2.1 hb.1.2.1 hb.2.2) (by simp [World.setCell]; exact hsz) k1)
  · exact Ext.set (((Below.refl B w).alloc hB o).grown hgr (by simp; omega) (fun k hk => (h.ok.lt k hk).1)) 4 _

theorem TB.mid {w w1 : World} {B bo : Nat} {kind num : Int} {text : ByteArray} {an : Option Addr} {cn : Nat} {names : List ByteArray} {ak : Option Addr} {ck : Nat} {m : Nat} {cs : List Value} {us : List (List Value)} {ts : List T}
    (h : TB w B bo kind num text an cn names ak ck m cs us ts) (o : Obj) {row : Option Nat} (hgr : (w.alloc o).grownBy w1 row) (hrow : row = (Value.slice an names.length cn).ownBlock ∨ row = (Value.slice ak m ck).ownBlock) :
    w1.heap[bo]? = some (.cells #[.int .i64 kind, .int .i64 num, .string text, .slice an names.length cn, .slice ak m ck] 59 (0, 0)) := by
  have hbl := lt_blk h.blk
  have hn1 : (Value.slice an names.length cn).ownBlock ≠ some bo := Lib.ownBlock_ne h.on h.blk (by decide)
  have hn2 : (Value.slice ak m ck).ownBlock ≠ some bo := by rw [ownBlock_slice ak m ck 0 0]; exact h.hko
  rw [hgr.block bo (by simp; omega) (fun e => by rcases hrow with r | r <;> rw [r] at e <;> first | exact hn1 e.symm | exact hn2 e.symm), blk_old w o hbl]; exact h.blk


theorem info_l1V : (Tryz.prog.info? 59).map (fun i => (i.zero, i.size, i.bytes)) = some (some (.agg #[.int .i64 0, .int .i64 0, .string ⟨#[]⟩, .slice none 0 0, .slice none 0 0]), 5, 80) := by kernel_rfl
theorem TB.isV {w : World} {B bo : Nat} {kind num : Int} {text : ByteArray} {an : Option Addr} {cn : Nat} {names : List ByteArray} {ak : Option Addr} {ck : Nat} {us : List (List Value)} {ts : List T}
    (h : TB w B bo kind num text an cn names ak ck ts.length us.flatten us ts) : IsV w (fun b => B ≤ b) (.mk kind num text names ts) [.int .i64 kind, .int .i64 num, .string text, .slice an names.length cn, .slice ak ts.length ck] :=
  ⟨_, _, us, rfl, Row.of_owns h.on (fun _ h => h), Row.of_owns h.ok (fun _ h => h), IsVs.mono (fun _ h _ => h.1) h.kids⟩

theorem blk4 (w : World) (o0 o1 o2 o3 : Obj) : ((((w.alloc o0).alloc o1).alloc o2).alloc o3).heap[w.heap.size]? = some o0 ∧ ((((w.alloc o0).alloc o1).alloc o2).alloc o3).heap[w.heap.size + 1]? = some o1 ∧
    ((((w.alloc o0).alloc o1).alloc o2).alloc o3).heap[w.heap.size + 1 + 1]? = some o2 ∧ ((((w.alloc o0).alloc o1).alloc o2).alloc o3).heap[w.heap.size + 1 + 1 + 1]? = some o3 ∧ ((((w.alloc o0).alloc o1).alloc o2).alloc o3).heap.size = w.heap.size + 1 + 1 + 1 + 1 ∧
    Below w.heap.size w ((((w.alloc o0).alloc o1).alloc o2).alloc o3) := by
  refine ⟨?_, ?_, ?_, ?_, by simp, ((((Below.refl _ _).alloc (Nat.le_refl _) _).alloc (by simp) _).alloc (by simp; omega) _).alloc (by simp; omega) _⟩
  · rw [blk_old _ _ (by simp; omega), blk_old _ _ (by simp; omega), blk_old _ _ (by simp)]; exact blk_new w o0
  · rw [blk_old _ _ (by simp), blk_old _ _ (by simp)]; have := blk_new (w.alloc o0) o1; simpa using this
  · rw [blk_old _ _ (by simp)]; have := blk_new ((w.alloc o0).alloc o1) o2; simpa using this
  · have := blk_new (((w.alloc o0).alloc o1).alloc o2) o3; simpa using this

set_option maxRecDepth 100000 in
set_option maxHeartbeats 2000000 in
theorem l1Tree_c (n : Nat) : ∀ (t : T) (l : List N) (k : Nat) (v : Value) (w : World) (S : Nat → Prop), t.cnt ≤ n → t.cnt ≤ 1073741824 → TR l k t → l.length ≤ 1073741824 → Nods w S v l → (∀ b, S b → b < w.heap.size) →
    Calls Tryz.prog 35 #[.agg #[v], .int .i64 k] w fun e w' => ∃ an cn ak ck, e = .returned (.agg #[.int .i64 t.kind, .int .i64 t.num, .string t.text, .slice an t.names.length cn, .slice ak t.kids.length ck]) ∧ IsV w' (fun b => w.heap.size ≤ b) t [.int .i64 t.kind, .int .i64 t.num, .string t.text, .slice an t.names.length cn, .slice ak t.kids.length ck] ∧ Below w.heap.size w w' := by
  induction n with
  | zero => intro t l k v w S hn; have := t.cnt_pos; omega
  | succ n ih =>
  rintro ⟨kind, num, text, names, kids⟩ l k v w S hn hc ⟨x, hx, hk1, hk2, hk3, hnm, hkids⟩ hl h hS
  simp only [T.kind, T.num, T.text, T.names, T.kids]
  obtain ⟨hk, hxe⟩ := List.getElem?_eq_some_iff.1 hx
  obtain ⟨a, c, rfl⟩ := Row.form h
  obtain ⟨g, off, rfl, hSg, x0, x1, x2, x3, x4⟩ := Nods.at h hk
  have hgb := hS g hSg
  rw [hxe, hk1] at x0
  rw [hxe, hk2] at x1
  rw [hxe, hk3] at x2
  rw [hxe] at x3 x4
  have HR := Lib.hid h; have HS := Lib.hid hS; have HKs := Lib.hid hkids; have HNm := Lib.hid hnm
  clear h hS hkids hnm
  have HQ := Lib.hid (blk4 w (.cells #[.slice (some ⟨g, off, none⟩) l.length c] 28) (.cells #[.int .i64 0, .int .i64 0, .string ⟨#[]⟩, .slice none 0 0, .slice none 0 0] 59) (.cells #[.int .i64 kind, .int .i64 num, .string text, .string x.name, .int .i64 x.up] 63) (.cells #[.int .i64 kind, .int .i64 num, .string text, .slice none 0 0, .slice none 0 0] 59))
  have hcl := T.cnts_len kids
  simp only [T.cnt] at hc hn
  have hjl := (TRs.get HKs.out).1
  have HKC := Lib.hid (l1Kids_c l k (.slice (some ⟨g, off, none⟩) l.length c) ((((w.alloc (.cells #[.slice (some ⟨g, off, none⟩) l.length c] 28)).alloc (.cells #[.int .i64 0, .int .i64 0, .string ⟨#[]⟩, .slice none 0 0, .slice none 0 0] 59)).alloc (.cells #[.int .i64 kind, .int .i64 num, .string text, .string x.name, .int .i64 x.up] 63)).alloc (.cells #[.int .i64 kind, .int .i64 num, .string text, .slice none 0 0, .slice none 0 0] 59)) S (by omega) hk (Row.frame HR.out (Below.fr HQ.out.2.2.2.2.2 HS.out) HQ.out.2.2.2.2.2.size) (fun b hb => by have := HS.out b hb; have := HQ.out.2.2.2.2.2.size; omega))
  have hq : ∃ js, js = kidsTo l k l.length := ⟨_, rfl⟩
  obtain ⟨js, hjs⟩ := hq
  rw [← hjs] at HKC HKs HNm hjl
  have HMem : Hid (∀ j, j ∈ js → k < j ∧ j < l.length ∧ ∃ h : j < l.length, l[j].up = (k : Int)) := by rw [hjs]; exact fun j hj => kidsTo_mem hj
  clear hjs
  go_enter Tryz.func35, Tryz.ntmps35
  go_wp2_with (go_at_call 66; refine HKC.out.mono ?_; rintro e w1 ⟨sv, rfl, ho, hB⟩; obtain ⟨aj, cj, rfl⟩ := owns_form ho; have HJ := Lib.hid (owns_nat ho); clear ho)
  obtain ⟨q0, q1, q2, q3, q4, q5⟩ := HQ.out
  rw [q4] at hB
  have p0 := (hB.block w.heap.size (by omega)).trans q0
  have p1 := (hB.block (w.heap.size + 1) (by omega)).trans q1
  have p2 := (hB.block (w.heap.size + 1 + 1) (by omega)).trans q2
  have p3 := (hB.block (w.heap.size + 1 + 1 + 1) (by omega)).trans q3
  have hz1 := hB.size
  rw [q4] at hz1
  have HB1 := Lib.hid (q5.trans (hB.mono (by omega)))
  have P0 := Lib.hid p0; have P1 := Lib.hid p1; have P2 := Lib.hid p2; have P3 := Lib.hid p3
  rw [q4] at HJ
  clear q0 q1 q2 q3 q4 q5 p0 p1 p2 p3 hB HQ HKC
  go_wp2
  go_loopg [25] kids.length (fun gh i wr => ∃ (j : Nat) (names : List ByteArray) (an : Option Addr) (cn : Nat) (ak : Option Addr) (ck : Nat) (us : List (List Value)), j ≤ kids.length ∧ gh = kids.length - j ∧ i = .int .i64 j ∧ names.length ≤ j ∧
    Hid (names = if kind = 7 then (js.take j).map (nameAt l) else []) ∧ Hid (TB wr w1.heap.size (w.heap.size + 1 + 1 + 1) kind num text an cn names ak ck j us.flatten us (kids.take j)) ∧ Hid (Ext w1.heap.size (w.heap.size + 1 + 1 + 1) w1 wr))
  case atStart =>
    refine ⟨0, [], none, 0, none, 0, [], Nat.zero_le _, rfl, rfl, Nat.le_refl _, by simp [Hid], ?_, Ext.refl _ _ _⟩
    exact ⟨by omega, by simp [Value.ownBlock], P3.out, World.ownsRow_nil _ _ _ _, World.ownsRow_nil _ _ _ _, trivial⟩
  case round =>
    obtain ⟨j, nms, an, cn, ak, ck, us, hj, rfl, rfl, hnj, HNj, HTB, HX⟩ := hrel
    have hsr := HX.out.size
    obtain ⟨d0, d1, d2, d3, d4⟩ := val_cells HTB.out.blk
    have e0 : wr.cell? ⟨w.heap.size, 0, none⟩ = some (.slice (some ⟨g, off, none⟩) l.length c) := (HX.out.cell (by omega) (by omega)).trans (cell_blk P0.out 0)
    have e1 : wr.cell? ⟨w.heap.size + 1 + 1, 0, none⟩ = some (.int .i64 kind) := (HX.out.cell (by omega) (by omega)).trans (cell_blk P2.out 0)
    by_cases hlt : j < kids.length
    · have hjj : j < js.length := by omega
      obtain ⟨gj, rfl, hgj0, hgj1, hgj2⟩ := HJ.out j hjj
      obtain ⟨p, hp⟩ : ∃ p, js[j] = p := ⟨_, rfl⟩
      have hmp := HMem.out p (by rw [← hp]; exact List.getElem_mem _)
      have hTR := (TRs.get HKs.out).2 j hlt hjj
      rw [hp] at hTR hgj2
      have e2 := (HX.out.cell (b := gj) (o := j) hgj1 (by omega)).trans hgj2
      obtain ⟨hpk, hpl, hpup⟩ := hmp
      clear hpup hgj2
      have hkc : kids[j].cnt ≤ T.cnts kids := T.cnts_mem (List.getElem_mem _)
      have HIH := Lib.hid (fun (w2 : World) (hb2 : Below wr.heap.size wr w2) => ih kids[j] l p (.slice (some ⟨g, off, none⟩) l.length c) w2 S (by omega) (by omega) hTR hl (Row.frame HR.out (fun b hb _ => ((HB1.out.trans (HX.out.below (by omega) (by omega))).trans (hb2.mono (by omega))).block b (HS.out b hb)) (by have := hb2.size; omega)) (fun b hb => by have := HS.out b hb; have := hb2.size; omega))
      have HKn := Lib.hid (List.take_succ_eq_append_getElem hlt)
      clear hTR hkc
      have hkid1 : Hid (kids[j] = kids[j]) := rfl
      obtain ⟨ip, hip, hp0, hp1, hp2⟩ := info_parts info_l1V
      go_upto_region 6 with fail
      go_cut [] (fun wx => ∃ ak' ck' us', Hid (TB wx w1.heap.size (w.heap.size + 1 + 1 + 1) kind num text an cn nms (some ⟨ak', 0, none⟩) ck' (j + 1) us'.flatten us' (kids.take (j + 1))) ∧ Hid (Ext w1.heap.size (w.heap.size + 1 + 1 + 1) w1 wx))
      case first =>
        go_region_law (first
            | ((refine step_append_lies _ rfl (.tmp 30) (.tmp 34) 57 rfl w1.heap.size 59 ip _ 5 80 Tryz.underlying57 hip hp0 hp1 hp2 rfl (by decide) _ _ _ rfl (HTB2.out.ok.alloc _) ⟨w2.heap.size, 0, none⟩ 1 1 [.int .i64 kids[j].kind, .int .i64 kids[j].num, .string kids[j].text, .slice an2 kids[j].names.length cn2, .slice ak2 kids[j].kids.length ck2] rfl rfl (by intro j' u hu; exact cells_new hu) (by intro u hu; simp at hu; rcases hu with rfl | rfl | rfl | rfl | rfl <;> rfl) (by omega) (by unfold maxLen; omega) (by omega) (by simp <;> omega) (w2.heap.size + 1) (by simp) ?_); intro g2 cap2 w3 hown3 hgr3 hlies3 hlt3; have hm := TB.mid HTB2.out _ hgr3 (Or.inr rfl); obtain ⟨m0, m1, m2, m3, m4⟩ := val_cells hm; have mf := fro_blk hm 4; have k1 : w3.cell? ⟨w.heap.size, 0, none⟩ = some (.slice (some ⟨g, off, none⟩) l.length c) := (World.cell?_of_block (a := ⟨w.heap.size, 0, none⟩) (hgr3.block w.heap.size (by simp <;> omega) (fun e => by have := (HTB2.out.ok.lt _ e.symm).1; omega))).trans ((cell_old _ _ (by omega)).trans k0); have HO3 := Lib.hid hown3; have HG3 := Lib.hid hgr3; have HL3 := Lib.hid hlies3; clear hm hown3 hgr3 hlies3)
            | (go_simp; go_at_call 35; refine (HIH.out wr.drew (Below.refl _ _).drew).mono ?_; rintro e w2 ⟨an2, cn2, ak2, ck2, rfl, hkid, hb2⟩; have HTB2 := Lib.hid (TB.pend (HTB.out.call (Below.refl _ wr).drew) hb2 (by simp <;> omega) hkid); have hz2 := hb2.size; simp at hz2; obtain ⟨t0, t1, t2, t3, t4⟩ := val_cells HTB2.out.blk; have k0 := ((hb2.cell (p := ⟨w.heap.size, 0, none⟩) (by simp <;> omega)).trans e0); have lt3 : w.heap.size + 1 + 1 + 1 < w2.heap.size := (by omega); have lt2 : w.heap.size + 1 + 1 < w2.heap.size := (by omega); have HX2 := Lib.hid (HX.out.trans (Ext.of ((Below.refl _ wr).drew.trans (hb2.mono (by simp <;> omega))))); clear hkid hb2))
        all_goals (go_wp2_with fail; go_meet)
        all_goals obtain ⟨htb3, hx3⟩ := HTB2.out.putKid (by omega) _ (by exact HO3.out) HG3.out HL3.out
        all_goals exact ⟨g2, cap2, us ++ [[.int .i64 kids[j].kind, .int .i64 kids[j].num, .string kids[j].text, .slice an2 kids[j].names.length cn2, .slice ak2 kids[j].kids.length ck2]], by unfold Hid; rw [HKn.out, List.flatten_append]; simpa using htb3, Lib.hid (HX2.out.trans hx3)⟩
      case rest =>
        obtain ⟨ak', ck', us', HTB3, HX3⟩ := hcut
        clear HTB HX d0 d1 d2 d3 d4 e0 e1 e2 hsr
        have hsr := HX3.out.size
        obtain ⟨d0, d1, d2, d3, d4⟩ := val_cells HTB3.out.blk
        have e0 : wc.cell? ⟨w.heap.size, 0, none⟩ = some (.slice (some ⟨g, off, none⟩) l.length c) := (HX3.out.cell (by omega) (by omega)).trans (cell_blk P0.out 0)
        have e1 : wc.cell? ⟨w.heap.size + 1 + 1, 0, none⟩ = some (.int .i64 kind) := (HX3.out.cell (by omega) (by omega)).trans (cell_blk P2.out 0)
        by_cases h7 : kind = 7
        · subst h7
          rw [if_pos rfl] at HNj
          obtain ⟨g', off', hgo, _, z0, z1, z2, z3, z4⟩ := Nods.at HR.out hpl
          simp only [Option.some.injEq, Addr.mk.injEq, and_true] at hgo
          obtain ⟨rfl, rfl⟩ := hgo
          have e3 := (HX3.out.cell (b := g) (o := off + p * 5 + 3) (by omega) (by omega)).trans ((HB1.out.cell (p := ⟨g, off + p * 5 + 3, none⟩) hgb).trans z3)
          clear z0 z1 z2 z3 z4
          have hgc : g < wc.heap.size := by omega
          have hbc : w.heap.size < wc.heap.size := by omega
          have hbc3 : w.heap.size + 1 + 1 + 1 < wc.heap.size := by omega
          have HTBd := Lib.hid (HTB3.out.call (Below.refl _ wc).drew)
          obtain ⟨iq, hiq, hq0, hq1, hq2⟩ := info_parts info_str
          go_upto_region 8 with fail
          go_region_law (refine step_append_lies _ rfl (.tmp 41) (.tmp 48) 35 rfl w1.heap.size 9 iq _ 1 16 Tryz.underlying35 hiq hq0 hq1 hq2 rfl (by decide) (.slice an nms.length cn) nms.length _ rfl (by exact HTBd.out.on.alloc _) ⟨wc.heap.size, 0, none⟩ 1 1 [.string l[p].name] rfl rfl (by intro j' u hu; exact cells_new hu) (by intro u hu; simp at hu; subst hu; rfl) (by omega) (by unfold maxLen; omega) (by omega) (by simp; omega) (wc.heap.size + 1) (by simp) ?_; intro g2 cap2 w3 hown3 hgr3 hlies3 hlt3; have hm := TB.mid HTBd.out _ hgr3 (Or.inl rfl); obtain ⟨m0, m1, m2, m3, m4⟩ := val_cells hm; have mf := fro_blk hm 3; have HO3 := Lib.hid hown3; have HG3 := Lib.hid hgr3; have HL3 := Lib.hid hlies3; clear hm hown3 hgr3 hlies3)
          all_goals go_wp2_with fail
          all_goals (go_roundg (kids.length - (j + 1)))
          all_goals first
            | (case measure => omega)
            | (case rel =>
                obtain ⟨htb3, hx3⟩ := HTBd.out.putName (by simp; omega) _ (by exact HO3.out) HG3.out HL3.out
                exact ⟨j + 1, nms ++ [l[p].name], _, cap2, _, ck', us', hlt, rfl, by go_num, by simp; omega, by unfold Hid; simp only [if_true]; rw [HNj.out, List.take_succ_eq_append_getElem hjj, List.map_append, hp]; simp [nameAt_get hpl], htb3, Lib.hid (HX3.out.trans ((Ext.of (Below.refl _ _).drew).trans hx3))⟩)
        · have h7' : (kind == 7) = false := by simpa using h7
          rw [if_neg h7] at HNj
          go_wp2_with fail
          go_roundg (kids.length - (j + 1))
          case measure => omega
          case rel => exact ⟨j + 1, nms, an, cn, _, ck', us', hlt, rfl, by go_num, by omega, by rw [if_neg h7]; exact HNj, HTB3, HX3⟩
    · obtain rfl : j = kids.length := by omega
      have r1 : wr.heap[w.heap.size + 1]? = _ := (HX.out.block _ (by omega) (by omega)).trans P1.out
      obtain ⟨s0, s1, s2, s3, s4⟩ := val_cells r1
      have f0 := fro_blk r1 0
      have f1 := fro_blk r1 1
      have f2 := fro_blk r1 2
      have f3 := fro_blk r1 3
      have f4 := fro_blk r1 4
      go_wp2
      have k5 := val_cells (show (((((wr.setCell ⟨w.heap.size + 1, 0, none⟩ (.int .i64 kind)).setCell ⟨w.heap.size + 1, 1, none⟩ (.int .i64 num)).setCell ⟨w.heap.size + 1, 2, none⟩ (.string text)).setCell ⟨w.heap.size + 1, 3, none⟩ (.slice an nms.length cn)).setCell ⟨w.heap.size + 1, 4, none⟩ (.slice ak kids.length ck)).heap[w.heap.size + 1]? = some (.cells #[.int .i64 kind, .int .i64 num, .string text, .slice an nms.length cn, .slice ak kids.length ck] 59 (0, 0)) by simp [World.setCell, Array.getElem?_modify, r1])
      obtain ⟨v0, v1, v2, v3, v4⟩ := k5
      have hnn : nms = names := by rw [HNj.out, HNm.out, List.take_of_length_le (by omega)]
      subst hnn
      refine bodyPost_ret (v := .agg #[.int .i64 kind, .int .i64 num, .string text, .slice an nms.length cn, .slice ak kids.length ck]) (by simp [results, Tryz.results35, go_sem, v0, v1, v2, v3, v4]) rfl ⟨an, cn, ak, ck, rfl, ?_, ?_⟩
      · have hv := HTB.out
        rw [List.take_length] at hv
        refine IsV.mono (fun b hb _ => by omega) (IsV.frame (fun b hb _ => ?_) (by simp [World.setCell]) hv.isV)
        have hne : b ≠ w.heap.size + 1 := by omega
        rw [Below.heap_setCell _ _ _ _ (by simpa using hne), Below.heap_setCell _ _ _ _ (by simpa using hne), Below.heap_setCell _ _ _ _ (by simpa using hne), Below.heap_setCell _ _ _ _ (by simpa using hne), Below.heap_setCell _ _ _ _ (by simpa using hne)]
      · exact (((((HB1.out.trans (HX.out.below (by omega) (by omega))).setCell (p := ⟨w.heap.size + 1, 0, none⟩) (by simp) _).setCell (p := ⟨w.heap.size + 1, 1, none⟩) (by simp) _).setCell (p := ⟨w.heap.size + 1, 2, none⟩) (by simp) _).setCell (p := ⟨w.heap.size + 1, 3, none⟩) (by simp) _).setCell (p := ⟨w.heap.size + 1, 4, none⟩) (by simp) _
end Go.Proofs.YtbldchemgkfdcaaGreatDoor
