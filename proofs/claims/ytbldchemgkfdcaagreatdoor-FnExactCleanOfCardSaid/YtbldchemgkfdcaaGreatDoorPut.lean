/- a node of the reference that is being built: its box, the rows of its names and parts. -/
import Derived.Test.YtbldchemgkfdcaaGreatDoorFlat
import Derived.Test.YtbldchemgkfdcaaGreatDoorRegN
import Derived.Test.YtbldchemgkfdcaaGreatDoorInc
namespace Go.Proofs.YtbldchemgkfdcaaGreatDoor
open Go.RowKit

theorem own_ne {w : World} {B : Nat} {e T : TypeId} {v : Value} {sz n : Nat} {xs : List Value} {b : Nat} {cs : Array Value} {fr : Nat × Nat} (hown : w.ownsRow B e sz v n xs) (hb : w.heap[b]? = some (.cells cs T fr)) (hTe : T ≠ e) : v.ownBlock ≠ some b := by
  rcases hown.2 with ⟨rfl, _⟩ | ⟨g, cap, cur, rfl, _, hg, _⟩
  · simp [Value.ownBlock]
  · intro h
    simp only [Value.ownBlock, Option.some.injEq] at h
    subst h
    rw [hg] at hb
    simp only [Option.some.injEq, Obj.cells.injEq] at hb
    exact hTe hb.2.1.symm

theorem blkA {X : World} {o : Obj} {g : Nat} (h : X.heap.size = g) : (X.alloc o).heap[g]? = some o := h ▸ blk_new X o
theorem blkB {X : World} {o o' : Obj} {g : Nat} (h : X.heap.size = g) : ((X.alloc o).alloc o').heap[g]? = some o := (blk_old _ o' (by simp; omega)).trans (blkA h)
theorem blkC {X : World} {o o' o'' : Obj} {g : Nat} (h : X.heap.size = g) : (((X.alloc o).alloc o').alloc o'').heap[g]? = some o := (blk_old _ o'' (by simp; omega)).trans (blkB h)

structure PU (w : World) (bo : Nat) (kind : Int) (h3 h4 nv : Value) (nn : List Value) (kv : Value) (m : Nat) (kn : List Value) : Prop where
  blk : w.heap[bo]? = some (.cells #[.int .i64 kind, .int .i64 0, .string ⟨#[]⟩, h3, h4] 59 (0, 0))
  on : w.ownsRow (bo + 1) 9 1 nv nn.length nn
  ok : w.ownsRow (bo + 1) 59 5 kv m kn
section
variable {w w' w1 : World} {bo m m' : Nat} {kind : Int} {h3 h4 nv kv nv' kv' : Value} {nn nn' : List Value} {kn kn' : List Value}
theorem PU.lt (h : PU w bo kind h3 h4 nv nn kv m kn) : bo < w.heap.size := lt_blk h.blk
theorem PU.call (h : PU w bo kind h3 h4 nv nn kv m kn) (hb : Below w.heap.size w w') : PU w' bo kind h3 h4 nv nn kv m kn :=
  ⟨(hb.block bo h.lt).trans h.blk, h.on.kept (row := none) ⟨hb.os, hb.tape, hb.output, hb.size, fun k hk _ => hb.block k hk⟩ (by cases hv : nv.ownBlock <;> simp),
    h.ok.kept (row := none) ⟨hb.os, hb.tape, hb.output, hb.size, fun k hk _ => hb.block k hk⟩ (by cases hv : kv.ownBlock <;> simp)⟩
theorem PU.nk (h : PU w bo kind h3 h4 nv nn kv m kn) : kv.ownBlock = none ∨ kv.ownBlock ≠ nv.ownBlock := by
  rcases h.ok.2 with ⟨h1, _⟩ | ⟨g', cap', cur, h1, _, hg', _⟩
  · left; rw [h1]; rfl
  · right; intro e; rw [h1] at e; exact own_ne h.on hg' (by decide) e.symm
theorem PU.nkk (h : PU w bo kind h3 h4 nv nn kv m kn) : nv.ownBlock = none ∨ nv.ownBlock ≠ kv.ownBlock := by
  rcases h.on.2 with ⟨h1, _⟩ | ⟨g', cap', cur, h1, _, hg', _⟩
  · left; rw [h1]; rfl
  · right; intro e; rw [h1] at e; exact own_ne h.ok hg' (by decide) e.symm
theorem PU.appN (h : PU w bo kind h3 h4 nv nn kv m kn) (hown : w1.ownsRow (bo + 1) 9 1 nv' nn'.length nn') (hgr : w.grownBy w1 nv.ownBlock) : PU w1 bo kind h3 h4 nv' nn' kv m kn :=
  ⟨(hgr.block bo h.lt (fun e => by have := (h.on.lt _ e.symm).1; omega)).trans h.blk, hown, h.ok.kept hgr h.nk⟩
theorem PU.appK (h : PU w bo kind h3 h4 nv nn kv m kn) (hown : w1.ownsRow (bo + 1) 59 5 kv' m' kn') (hgr : w.grownBy w1 kv.ownBlock) : PU w1 bo kind h3 h4 nv nn kv' m' kn' :=
  ⟨(hgr.block bo h.lt (fun e => by have := (h.ok.lt _ e.symm).1; omega)).trans h.blk, h.on.kept hgr h.nkk, hown⟩
theorem PU.belowN (h : PU w bo kind h3 h4 nv nn kv m kn) (hgr : w.grownBy w1 nv.ownBlock) : Below bo w w1 := (Below.refl _ _).grown hgr (Nat.le_of_lt h.lt) (fun k hk => by have := (h.on.lt k hk).1; omega)
theorem PU.belowK (h : PU w bo kind h3 h4 nv nn kv m kn) (hgr : w.grownBy w1 kv.ownBlock) : Below bo w w1 := (Below.refl _ _).grown hgr (Nat.le_of_lt h.lt) (fun k hk => by have := (h.ok.lt k hk).1; omega)
theorem PU.nb (h : PU w bo kind h3 h4 nv nn kv m kn) : nv.ownBlock ≠ some bo ∧ kv.ownBlock ≠ some bo :=
  ⟨fun e => by have := (h.on.lt _ e).1; omega, fun e => by have := (h.ok.lt _ e).1; omega⟩
theorem PU.set3 (h : PU w bo kind h3 h4 nv nn kv m kn) (x : Value) : PU (w.setCell ⟨bo, 3, none⟩ x) bo kind x h4 nv nn kv m kn := by
  have hset : w.grownBy (w.setCell ⟨bo, 3, none⟩ x) (some bo) := ⟨rfl, rfl, rfl, by simp [World.setCell], fun k _ hk => Below.heap_setCell _ _ _ _ (fun e => hk (by simp [e]))⟩
  refine ⟨?_, h.on.kept hset (Or.inr h.nb.1), h.ok.kept hset (Or.inr h.nb.2)⟩
  simp [World.setCell, Array.getElem?_modify, h.blk]
theorem PU.set4 (h : PU w bo kind h3 h4 nv nn kv m kn) (x : Value) : PU (w.setCell ⟨bo, 4, none⟩ x) bo kind h3 x nv nn kv m kn := by
  have hset : w.grownBy (w.setCell ⟨bo, 4, none⟩ x) (some bo) := ⟨rfl, rfl, rfl, by simp [World.setCell], fun k _ hk => Below.heap_setCell _ _ _ _ (fun e => hk (by simp [e]))⟩
  refine ⟨?_, h.on.kept hset (Or.inr h.nb.1), h.ok.kept hset (Or.inr h.nb.2)⟩
  simp [World.setCell, Array.getElem?_modify, h.blk]
end

theorem str_cells' (l : List ByteArray) : ∀ u ∈ l.map Value.string, u.oneCell' = true := by
  intro u hu
  simp only [List.mem_map] at hu
  obtain ⟨x, _, rfl⟩ := hu
  rfl
theorem Row.src {w w' : World} {S : Nat → Prop} {sz n c g : Nat} {cs : List Value} (h : Row w S sz (.slice (some ⟨g, 0, none⟩) n c) n cs) (hf : ∀ b, S b → w'.heap[b]? = w.heap[b]?) : ∀ j u, cs[j]? = some u → w'.cell? ((⟨g, 0, none⟩ : Addr).add j) = some u := by
  obtain ⟨hl, a', c', hva, _, _, h3⟩ := h
  simp only [Value.slice.injEq, true_and] at hva
  obtain ⟨rfl, rfl⟩ := hva
  intro j u hu
  rcases h3 with h3 | ⟨g', off, ha, hS, hg, hc⟩
  · have : cs = [] := List.eq_nil_of_length_eq_zero (by rw [hl, h3]; simp)
    subst this; simp at hu
  · simp only [Option.some.injEq, Addr.mk.injEq, and_true] at ha
    obtain ⟨rfl, rfl⟩ := ha
    rw [add_off, World.cell?_of_block (hf g hS)]
    exact hc j u hu
theorem IsVs.one {w : World} {S : Nat → Prop} : ∀ {ts : List T} {vs : List (List Value)}, IsVs w S ts vs → ∀ u ∈ vs.flatten, u.oneCell' = true
  | [], [], _ => fun u hu => by simp at hu
  | t :: ts, v :: vs, h => fun u hu => by
    rw [List.flatten_cons, List.mem_append] at hu
    rcases hu with hu | hu
    · obtain ⟨_, _, _, _, hv⟩ := h.1.form
      rw [hv] at hu
      simp only [List.mem_cons, List.not_mem_nil, or_false] at hu
      rcases hu with rfl | rfl | rfl | rfl | rfl <;> rfl
    · exact IsVs.one h.2 u hu
  | [], _ :: _, h => h.elim
  | _ :: _, [], h => h.elim

theorem owns_some {w : World} {B : Nat} {e : TypeId} {sz n c : Nat} {a : Option Addr} {xs : List Value} (h : w.ownsRow B e sz (.slice a n c) n xs) (hn : 0 < n) : ∃ g, a = some ⟨g, 0, none⟩ := by
  rcases h.2 with ⟨_, h0⟩ | ⟨g, cap, cur, hv, _⟩
  · omega
  · simp only [Value.slice.injEq] at hv; exact ⟨g, hv.1⟩
theorem put_end {w wr w19 : World} {S : Nat → Prop} {nn : List ByteArray} {ts : List T} {t' : T} {nm : ByteArray} {vs : List (List Value)} {xc : List Value} {x1 x2 : Option Addr} {y1 y2 n1 : Nat} (hl : nn.length = ts.length) (hn1 : nn.length + 1 = n1) (hS : ∀ b, S b → b < w.heap.size)
    (hk : IsVs w S ts vs) (hx : IsV w S t' xc) (hb : Below w.heap.size w wr) (hB : Below (w.heap.size + 3) wr w19)
    (hon : w19.ownsRow (w.heap.size + 3 + 1) 9 1 (.slice x1 n1 y1) (nn.map Value.string ++ [Value.string nm]).length (nn.map Value.string ++ [Value.string nm]))
    (hok : w19.ownsRow (w.heap.size + 3 + 1) 59 5 (.slice x2 n1 y2) n1 (vs.flatten ++ xc)) :
    ∃ gn cn2 gk ck2, Ending.returned (.agg #[.int .i64 7, .int .i64 0, .string ⟨#[]⟩, .slice x1 n1 y1, .slice x2 n1 y2]) = .returned (.agg #[.int .i64 7, .int .i64 0, .string ⟨#[]⟩, .slice (some ⟨gn, 0, none⟩) (nn ++ [nm]).length cn2, .slice (some ⟨gk, 0, none⟩) (ts ++ [t']).length ck2]) ∧
      IsV (((((w19.setCell ⟨w.heap.size + 1 + 1, 0, none⟩ (.int .i64 7)).setCell ⟨w.heap.size + 1 + 1, 1, none⟩ (.int .i64 0)).setCell ⟨w.heap.size + 1 + 1, 2, none⟩ (.string ⟨#[]⟩)).setCell ⟨w.heap.size + 1 + 1, 3, none⟩ (.slice x1 n1 y1)).setCell ⟨w.heap.size + 1 + 1, 4, none⟩ (.slice x2 n1 y2)) (fun b => S b ∨ w.heap.size ≤ b) (.mk 7 0 ⟨#[]⟩ (nn ++ [nm]) (ts ++ [t'])) [.int .i64 7, .int .i64 0, .string ⟨#[]⟩, .slice (some ⟨gn, 0, none⟩) (nn ++ [nm]).length cn2, .slice (some ⟨gk, 0, none⟩) (ts ++ [t']).length ck2] ∧
      Below w.heap.size w (((((w19.setCell ⟨w.heap.size + 1 + 1, 0, none⟩ (.int .i64 7)).setCell ⟨w.heap.size + 1 + 1, 1, none⟩ (.int .i64 0)).setCell ⟨w.heap.size + 1 + 1, 2, none⟩ (.string ⟨#[]⟩)).setCell ⟨w.heap.size + 1 + 1, 3, none⟩ (.slice x1 n1 y1)).setCell ⟨w.heap.size + 1 + 1, 4, none⟩ (.slice x2 n1 y2)) := by
  subst hn1
  simp only [List.length_append, List.length_map, List.length_cons, List.length_nil, Nat.zero_add] at hon
  obtain ⟨g1, rfl⟩ := owns_some hon (by omega)
  obtain ⟨g2, rfl⟩ := owns_some hok (by omega)
  have hBB : Below w.heap.size w w19 := hb.trans (hB.mono (by omega))
  refine ⟨g1, y1, g2, y2, by simp [hl], ?_, (((((hBB.setCell (p := ⟨w.heap.size + 1 + 1, 0, none⟩) (by simp; omega) _).setCell (p := ⟨w.heap.size + 1 + 1, 1, none⟩) (by simp; omega) _).setCell (p := ⟨w.heap.size + 1 + 1, 2, none⟩) (by simp; omega) _).setCell (p := ⟨w.heap.size + 1 + 1, 3, none⟩) (by simp; omega) _).setCell (p := ⟨w.heap.size + 1 + 1, 4, none⟩) (by simp; omega) _)⟩
  have hv : IsV w19 (fun b => (S b ∨ w.heap.size ≤ b) ∧ b ≠ w.heap.size + 1 + 1) (.mk 7 0 ⟨#[]⟩ (nn ++ [nm]) (ts ++ [t'])) [.int .i64 7, .int .i64 0, .string ⟨#[]⟩, .slice (some ⟨g1, 0, none⟩) (nn ++ [nm]).length y1, .slice (some ⟨g2, 0, none⟩) (ts ++ [t']).length y2] := by
    refine ⟨_, _, vs ++ [xc], rfl, ?_, ?_, IsVs.snoc ?_ ?_⟩
    · have h := Row.of_owns hon (S := fun b => (S b ∨ w.heap.size ≤ b) ∧ b ≠ w.heap.size + 1 + 1) (fun b hb => ⟨.inr (by omega), by omega⟩)
      unfold Strs
      simpa using h
    · have h := Row.of_owns hok (S := fun b => (S b ∨ w.heap.size ≤ b) ∧ b ≠ w.heap.size + 1 + 1) (fun b hb => ⟨.inr (by omega), by omega⟩)
      rw [hl] at h
      simpa using h
    · exact IsVs.mono (fun b hb' _ => ⟨.inl hb', by have := hS b hb'; omega⟩) (IsVs.frame (Below.fr hBB hS) hBB.size hk)
    · exact IsV.mono (fun b hb' _ => ⟨.inl hb', by have := hS b hb'; omega⟩) (IsV.frame (Below.fr hBB hS) hBB.size hx)
  refine IsV.mono (fun b hb' _ => hb'.1) (IsV.frame (fun b hb' hlt => ?_) (by simp [World.setCell]) hv)
  have hne := hb'.2
  rw [Below.heap_setCell _ _ _ _ (by simpa using hne), Below.heap_setCell _ _ _ _ (by simpa using hne), Below.heap_setCell _ _ _ _ (by simpa using hne), Below.heap_setCell _ _ _ _ (by simpa using hne), Below.heap_setCell _ _ _ _ (by simpa using hne)]

/-- append of what came in, nil or not, as a step of a region that draws -/
theorem step_append_gen {P : Program} {ops : Array Oper} {o : Oper} {a : Act} {w : World} {K : Act → World → Prop} {Q : Exit → Act → World → Prop} {E : Prop}
    (hgd : o.guard = none) (s x : Operand) (t : TypeId) (ho : o.op = Op.call { callee := Callee.builtin Builtin.append, args := #[s, x], argTypes := #[t, t] })
    (base : Nat) (e : TypeId) (i : TypeInfo) (z : Value) (size bytes : Nat) (ht : P.underlying t = some (.slice e)) (hi : P.info? e = some i) (hz : i.zero = some z)
    (hsize : i.size = size) (hby : i.bytes = bytes) (hzs : z.cells.size = size) (hsz : 0 < size)
    (v : Value) (n : Nat) (xs : List Value) (hs : a.eval s = v) (hown : w.ownsRow base e size v n xs)
    (sv : Value) (m : Nat) (news : List Value) (hx : a.eval x = sv) (hsrc : (sv = .slice none 0 0 ∧ m = 0 ∧ news = []) ∨ ∃ ad c, sv = .slice (some ad) m c ∧ news.length = m * size ∧ ∀ j u, news[j]? = some u → w.cell? (ad.add j) = some u)
    (h1 : ∀ u ∈ news, u.oneCell' = true) (h63 : n + m ≤ maxLen) (hbytes : (n + m) * bytes ≤ 140737488355328) (hbase : base ≤ w.heap.size)
    (h : ∀ v' w', w'.ownsRow base e size v' (n + m) (xs ++ news) → w.grownBy w' v.ownBlock → K (a.put o.dst v') w') :
    if Region.wanted o (yielded ops a.tmps) = true then Oper.wp P o a w K Q else E := by
  rcases hsrc with ⟨rfl, rfl, rfl⟩ | ⟨ad, c, rfl, hl, hc⟩
  · have hw : Region.wanted o (yielded ops a.tmps) = true := by simp [Region.wanted, hgd]
    rw [if_pos hw]
    have hrun := run_append_owned_none (P := P) (w := w) base t o.type e i size ht hi v n xs hown
    unfold Oper.wp
    simp [execOp, ho, resolve, invoke, builtin, hs, hx, hrun, Result.andThen]
    exact h v w (by simpa using hown) ⟨rfl, rfl, rfl, Nat.le_refl _, fun _ _ _ => rfl⟩
  · exact step_append_own hgd s x t ho base e i z size bytes ht hi hz hsize hby hzs hsz v n xs hs hown ad m c news hx hl hc h1 h63 hbytes hbase h
end Go.Proofs.YtbldchemgkfdcaaGreatDoor
