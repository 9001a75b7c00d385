/- Words and lemmas on worlds, rows of cells and trees of values, for all proofs of this set; no statement of its own. -/
import Derived.Test.YtbldchemgkfdcaaGreatDoorRows
import Derived.Test.YtbldchemgkfdcaaGreatDoorPure
import Derived.WalkKit
import Derived.WalkSpells
import Derived.WalkLawsBesides
import Derived.Deep.LoopGhost
import Derived.Lib.Hide
import Derived.BigRegion
import Derived.Deep.RegionLawGrows
import Derived.Deep.RegionHeld3
namespace Go.Proofs.YtbldchemgkfdcaaGreatDoor
open Go.RowKit

theorem add_off (g o j : Nat) : (⟨g, o, none⟩ : Addr).add j = ⟨g, o + j, none⟩ := by unfold Addr.add; split <;> simp_all

section
variable {w w' : World} {b o : Nat} {c : Array Value} {e : TypeId} {f : Nat × Nat}
theorem cell_blk (h : w.heap[b]? = some (.cells c e f)) (o : Nat) : w.cell? ⟨b, o, none⟩ = c[o]? := by simp [World.cell?, h]
theorem fro_blk (h : w.heap[b]? = some (.cells c e (0, 0))) (o : Nat) : w.frozen? ⟨b, o, none⟩ = false := by simp [World.frozen?, h]
theorem lt_blk {o : Obj} (h : w.heap[b]? = some o) : b < w.heap.size := (Array.getElem?_eq_some_iff.1 h).1
theorem lt_cell {a : Addr} {v : Value} (h : w.cell? a = some v) : a.block < w.heap.size := World.block_lt_of_cell? w a h
theorem blk_new (w : World) (o : Obj) : (w.alloc o).heap[w.heap.size]? = some o := by show (w.heap.push o)[w.heap.size]? = some o; simp
theorem blk_new_drew (w : World) (o : Obj) : (w.alloc o).drew.heap[w.heap.size]? = some o := by show (w.heap.push o)[w.heap.size]? = some o; simp
theorem blk_old (w : World) (o : Obj) (h : b < w.heap.size) : (w.alloc o).heap[b]? = w.heap[b]? := Below.heap_alloc w o b h
theorem blk_below {B : Nat} (h : Below B w w') (hb : b < B) : w'.heap[b]? = w.heap[b]? := h.block b hb
end

theorem bcell {B : Nat} {w w' : World} (hb : Below B w w') : (∀ b o, b < B → w'.cell? ⟨b, o, none⟩ = w.cell? ⟨b, o, none⟩) ∧ (∀ b o, b < B → w'.frozen? ⟨b, o, none⟩ = w.frozen? ⟨b, o, none⟩) :=
  ⟨fun b o h => hb.cell (p := ⟨b, o, none⟩) h, fun b o h => hb.frozen (p := ⟨b, o, none⟩) h⟩

theorem cells_new {w : World} {cs : List Value} {e : TypeId} {j : Nat} {u : Value} (h : cs[j]? = some u) : (w.alloc (.cells cs.toArray e)).cell? ((⟨w.heap.size, 0, none⟩ : Addr).add j) = some u := by
  rw [add_off, Nat.zero_add, cell_blk (blk_new w _)]; simpa using h

theorem cells_new' {w : World} {n : Nat} (hn : n = w.heap.size) {cs : List Value} {e : TypeId} {j : Nat} {u : Value} (h : cs[j]? = some u) : (w.alloc (.cells cs.toArray e)).cell? ((⟨n, 0, none⟩ : Addr).add j) = some u := by
  subst hn; exact cells_new h

/-- a slice of n elements, sz cells each, whose cells read cs, in blocks of which S holds -/
def Row (w : World) (S : Nat → Prop) (sz : Nat) (v : Value) (n : Nat) (cs : List Value) : Prop :=
  cs.length = n * sz ∧ ∃ a c, v = .slice a n c ∧ n ≤ c ∧ c ≤ maxLen ∧
    (n = 0 ∨ ∃ g off, a = some ⟨g, off, none⟩ ∧ S g ∧ g < w.heap.size ∧ ∀ j u, cs[j]? = some u → w.cell? ⟨g, off + j, none⟩ = some u)

section
variable {w w' : World} {S S' : Nat → Prop} {sz n : Nat} {v : Value} {cs : List Value}
theorem Row.frame (h : Row w S sz v n cs) (hf : ∀ b, S b → b < w.heap.size → w'.heap[b]? = w.heap[b]?) (hs : w.heap.size ≤ w'.heap.size) : Row w' S sz v n cs := by
  obtain ⟨hl, a, c, hv, h1, h2, h3⟩ := h
  refine ⟨hl, a, c, hv, h1, h2, ?_⟩
  rcases h3 with h3 | ⟨g, off, ha, hS, hg, hc⟩
  · exact .inl h3
  · exact .inr ⟨g, off, ha, hS, by omega, fun j u hu => (World.cell?_of_block (a := ⟨g, off + j, none⟩) (hf g hS hg)).trans (hc j u hu)⟩
theorem Row.mono (h : Row w S sz v n cs) (hS : ∀ b, S b → b < w.heap.size → S' b) : Row w S' sz v n cs := by
  obtain ⟨hl, a, c, hv, h1, h2, h3⟩ := h
  refine ⟨hl, a, c, hv, h1, h2, ?_⟩
  rcases h3 with h3 | ⟨g, off, ha, hS', hg, hc⟩
  · exact .inl h3
  · exact .inr ⟨g, off, ha, hS _ hS' hg, hg, hc⟩
theorem Row.nil (w : World) (S : Nat → Prop) (sz : Nat) : Row w S sz (.slice none 0 0) 0 [] := ⟨by simp, none, 0, rfl, Nat.le_refl _, by simp [maxLen], .inl rfl⟩
theorem Row.of_owns {base : Nat} {e : TypeId} (h : w.ownsRow base e sz v n cs) (hS : ∀ b, base ≤ b → S b) : Row w S sz v n cs := by
  obtain ⟨hl, h⟩ := h
  refine ⟨hl, ?_⟩
  rcases h with ⟨rfl, rfl⟩ | ⟨g, cap, cur, rfl, hb, hg, hnc, hm, hsz, ht⟩
  · exact ⟨none, 0, rfl, Nat.le_refl _, by simp [maxLen], .inl rfl⟩
  · refine ⟨_, _, rfl, hnc, hm, .inr ⟨g, 0, rfl, hS _ hb, lt_blk hg, fun j u hu => ?_⟩⟩
    rw [cell_blk hg, Nat.zero_add]
    rw [← ht, List.getElem?_take] at hu
    split at hu
    · simpa using hu
    · cases hu
end

def N.cells (x : N) : List Value := [.int .i64 x.kind, .int .i64 x.num, .string x.text, .string x.name, .int .i64 x.up]
def Strs (w : World) (S : Nat → Prop) (v : Value) (l : List ByteArray) : Prop := Row w S 1 v l.length (l.map Value.string)
def Ints (w : World) (S : Nat → Prop) (v : Value) (l : List Int) : Prop := Row w S 1 v l.length (l.map (Value.int .i64))
def Nods (w : World) (S : Nat → Prop) (v : Value) (l : List N) : Prop := Row w S 5 v l.length (l.flatMap N.cells)

mutual
/-- the pointer v leads to the tree (impl.val) -/
def IsVal (w : World) (S : Nat → Prop) : T → Value → Prop
  | .mk kind num text names kids, v => ∃ b sn sk vs, v = .pointer (some ⟨b, 0, none⟩) ∧ S b ∧
      w.heap[b]? = some (.cells #[.int .i64 kind, .int .i64 num, .string text, sn, sk] 103 (0, 0)) ∧
      Strs w S sn names ∧ Row w S 1 sk kids.length vs ∧ IsVals w S kids vs
def IsVals (w : World) (S : Nat → Prop) : List T → List Value → Prop
  | [], [] => True
  | t :: ts, v :: vs => IsVal w S t v ∧ IsVals w S ts vs
  | _, _ => False
end

mutual
/-- the five cells are the tree (spec.l1V) -/
def IsV (w : World) (S : Nat → Prop) : T → List Value → Prop
  | .mk kind num text names kids, cs => ∃ sn sk vs, cs = [.int .i64 kind, .int .i64 num, .string text, sn, sk] ∧
      Strs w S sn names ∧ Row w S 5 sk kids.length vs.flatten ∧ IsVs w S kids vs
def IsVs (w : World) (S : Nat → Prop) : List T → List (List Value) → Prop
  | [], [] => True
  | t :: ts, v :: vs => IsV w S t v ∧ IsVs w S ts vs
  | _, _ => False
end

section
variable {w w' : World} {S S' : Nat → Prop}
mutual
theorem IsVal.frame (hf : ∀ b, S b → b < w.heap.size → w'.heap[b]? = w.heap[b]?) (hs : w.heap.size ≤ w'.heap.size) : ∀ {t : T} {v : Value}, IsVal w S t v → IsVal w' S t v
  | .mk .., _, h => by
    obtain ⟨b, sn, sk, vs, hv, hS, hb, h1, h2, h3⟩ := h
    exact ⟨b, sn, sk, vs, hv, hS, (hf b hS (lt_blk hb)).trans hb, Row.frame h1 hf hs, Row.frame h2 hf hs, IsVals.frame hf hs h3⟩
theorem IsVals.frame (hf : ∀ b, S b → b < w.heap.size → w'.heap[b]? = w.heap[b]?) (hs : w.heap.size ≤ w'.heap.size) : ∀ {ts : List T} {vs : List Value}, IsVals w S ts vs → IsVals w' S ts vs
  | [], [], _ => trivial
  | _ :: _, _ :: _, h => ⟨IsVal.frame hf hs h.1, IsVals.frame hf hs h.2⟩
  | [], _ :: _, h => h.elim
  | _ :: _, [], h => h.elim
end
mutual
theorem IsVal.mono (hS : ∀ b, S b → b < w.heap.size → S' b) : ∀ {t : T} {v : Value}, IsVal w S t v → IsVal w S' t v
  | .mk .., _, h => by
    obtain ⟨b, sn, sk, vs, hv, hSb, hb, h1, h2, h3⟩ := h
    exact ⟨b, sn, sk, vs, hv, hS _ hSb (lt_blk hb), hb, Row.mono h1 hS, Row.mono h2 hS, IsVals.mono hS h3⟩
theorem IsVals.mono (hS : ∀ b, S b → b < w.heap.size → S' b) : ∀ {ts : List T} {vs : List Value}, IsVals w S ts vs → IsVals w S' ts vs
  | [], [], _ => trivial
  | _ :: _, _ :: _, h => ⟨IsVal.mono hS h.1, IsVals.mono hS h.2⟩
  | [], _ :: _, h => h.elim
  | _ :: _, [], h => h.elim
end
mutual
theorem IsV.frame (hf : ∀ b, S b → b < w.heap.size → w'.heap[b]? = w.heap[b]?) (hs : w.heap.size ≤ w'.heap.size) : ∀ {t : T} {v : List Value}, IsV w S t v → IsV w' S t v
  | .mk .., _, h => by
    obtain ⟨sn, sk, vs, hv, h1, h2, h3⟩ := h
    exact ⟨sn, sk, vs, hv, Row.frame h1 hf hs, Row.frame h2 hf hs, IsVs.frame hf hs h3⟩
theorem IsVs.frame (hf : ∀ b, S b → b < w.heap.size → w'.heap[b]? = w.heap[b]?) (hs : w.heap.size ≤ w'.heap.size) : ∀ {ts : List T} {vs : List (List Value)}, IsVs w S ts vs → IsVs w' S ts vs
  | [], [], _ => trivial
  | _ :: _, _ :: _, h => ⟨IsV.frame hf hs h.1, IsVs.frame hf hs h.2⟩
  | [], _ :: _, h => h.elim
  | _ :: _, [], h => h.elim
end
mutual
theorem IsV.mono (hS : ∀ b, S b → b < w.heap.size → S' b) : ∀ {t : T} {v : List Value}, IsV w S t v → IsV w S' t v
  | .mk .., _, h => by
    obtain ⟨sn, sk, vs, hv, h1, h2, h3⟩ := h
    exact ⟨sn, sk, vs, hv, Row.mono h1 hS, Row.mono h2 hS, IsVs.mono hS h3⟩
theorem IsVs.mono (hS : ∀ b, S b → b < w.heap.size → S' b) : ∀ {ts : List T} {vs : List (List Value)}, IsVs w S ts vs → IsVs w S' ts vs
  | [], [], _ => trivial
  | _ :: _, _ :: _, h => ⟨IsV.mono hS h.1, IsVs.mono hS h.2⟩
  | [], _ :: _, h => h.elim
  | _ :: _, [], h => h.elim
end
theorem IsVals.get : ∀ {ts : List T} {vs : List Value}, IsVals w S ts vs → vs.length = ts.length ∧ ∀ k (h : k < ts.length), ∃ v, vs[k]? = some v ∧ IsVal w S ts[k] v
  | [], [], _ => ⟨rfl, fun k h => by simp at h⟩
  | t :: ts, v :: vs, h => by
    have ih := IsVals.get h.2
    refine ⟨by simp [ih.1], fun k hk => ?_⟩
    cases k with
    | zero => exact ⟨v, rfl, h.1⟩
    | succ k => simpa using ih.2 k (by simpa using hk)
  | [], _ :: _, h => h.elim
  | _ :: _, [], h => h.elim
theorem IsVals.snoc : ∀ {ts : List T} {vs : List Value} {t : T} {v : Value}, IsVals w S ts vs → IsVal w S t v → IsVals w S (ts ++ [t]) (vs ++ [v])
  | [], [], _, _, _, h => ⟨h, trivial⟩
  | _ :: _, _ :: _, _, _, h, k => ⟨h.1, IsVals.snoc h.2 k⟩
  | [], _ :: _, _, _, h, _ => h.elim
  | _ :: _, [], _, _, h, _ => h.elim
end

theorem IsVal.ptr {w : World} {S : Nat → Prop} : ∀ {t : T} {v : Value}, IsVal w S t v → ∃ b, v = .pointer (some ⟨b, 0, none⟩) ∧ S b
  | .mk .., _, ⟨b, _, _, _, hv, hS, _⟩ => ⟨b, hv, hS⟩
theorem Below.fr {B : Nat} {w w' : World} {S : Nat → Prop} (h : Below B w w') (hS : ∀ b, S b → b < B) : ∀ b, S b → b < w.heap.size → w'.heap[b]? = w.heap[b]? := fun b hb _ => h.block b (hS b hb)

/-- append as a step of a region that draws its order -/
theorem step_append_own {P : Program} {ops : Array Oper} {o : Oper} {a : Act} {w : World} {K : Act → World → Prop} {Q : Exit → Act → World → Prop} {E : Prop}
    (hgd : o.guard = none) (s x : Operand) (t : TypeId) (ho : o.op = Op.call { callee := Callee.builtin Builtin.append, args := #[s, x], argTypes := #[t, t] })
    (base : Nat) (e : TypeId) (i : TypeInfo) (z : Value) (size bytes : Nat) (ht : P.underlying t = some (.slice e)) (hi : P.info? e = some i) (hz : i.zero = some z)
    (hsize : i.size = size) (hby : i.bytes = bytes) (hzs : z.cells.size = size) (hsz : 0 < size)
    (v : Value) (n : Nat) (xs : List Value) (hs : a.eval s = v) (hown : w.ownsRow base e size v n xs)
    (ad : Addr) (m c : Nat) (news : List Value) (hx : a.eval x = .slice (some ad) m c) (hl : news.length = m * size) (hnews : ∀ j u, news[j]? = some u → w.cell? (ad.add j) = some u) (h1 : ∀ u ∈ news, u.oneCell' = true)
    (h63 : n + m ≤ maxLen) (hbytes : (n + m) * bytes ≤ 140737488355328) (hbase : base ≤ w.heap.size)
    (h : ∀ v' w', w'.ownsRow base e size v' (n + m) (xs ++ news) → w.grownBy w' v.ownBlock → K (a.put o.dst v') w') :
    if Region.wanted o (yielded ops a.tmps) = true then Oper.wp P o a w K Q else E := by
  have hw : Region.wanted o (yielded ops a.tmps) = true := by simp [Region.wanted, hgd]
  rw [if_pos hw]
  exact wp_append_own w s x t ho base e i z size bytes ht hi hz hsize hby hzs hsz v n xs hs hown ad m c news hx hl hnews h1 h63 hbytes hbase (fun v' w' a b _ => h v' w' a b)

theorem owns_form {w : World} {base : Nat} {e : TypeId} {size : Nat} {v : Value} {n : Nat} {xs : List Value} (h : w.ownsRow base e size v n xs) : ∃ a c, v = .slice a n c := by
  rcases h.2 with ⟨h1, h2⟩ | ⟨g, cap, cur, h1, _⟩
  · exact ⟨none, 0, by rw [h1, h2]⟩
  · exact ⟨_, _, h1⟩
theorem Row.form {w : World} {S : Nat → Prop} {sz n : Nat} {v : Value} {cs : List Value} (h : Row w S sz v n cs) : ∃ a c, v = .slice a n c := by
  obtain ⟨_, a, c, hv, _⟩ := h; exact ⟨a, c, hv⟩
/-- element k of a row whose elements are one cell each -/
theorem Row.at1 {w : World} {S : Nat → Prop} {n c : Nat} {a : Option Addr} {cs : List Value} (h : Row w S 1 (.slice a n c) n cs) {k : Nat} (hk : k < n) :
    ∃ g off u, a = some ⟨g, off, none⟩ ∧ S g ∧ g < w.heap.size ∧ cs[k]? = some u ∧ w.cell? ⟨g, off + k, none⟩ = some u := by
  obtain ⟨hl, a', c', hv, _, _, h3⟩ := h
  simp only [Value.slice.injEq, true_and] at hv
  obtain ⟨rfl, rfl⟩ := hv
  rcases h3 with h3 | ⟨g, off, ha, hS, hg, hc⟩
  · omega
  · have : k < cs.length := by omega
    exact ⟨g, off, cs[k], ha, hS, hg, by simp [this], hc k _ (by simp [this])⟩
theorem Strs.at {w : World} {S : Nat → Prop} {n c : Nat} {a : Option Addr} {l : List ByteArray} (h : Strs w S (.slice a n c) l) {k : Nat} (hk : k < l.length) :
    ∃ g off, a = some ⟨g, off, none⟩ ∧ S g ∧ w.cell? ⟨g, off + k, none⟩ = some (.string (l.getD k ⟨#[]⟩)) := by
  have hn : n = l.length := by obtain ⟨_, a', c', hv, _⟩ := h; simp only [Value.slice.injEq] at hv; exact hv.2.1
  subst hn
  obtain ⟨g, off, u, ha, hS, _, hu, hc⟩ := Row.at1 h hk
  refine ⟨g, off, ha, hS, ?_⟩
  rw [hc]; simp [hk] at hu; simp [← hu, hk]
theorem Ints.at {w : World} {S : Nat → Prop} {n c : Nat} {a : Option Addr} {l : List Int} (h : Ints w S (.slice a n c) l) {k : Nat} (hk : k < l.length) :
    ∃ g off, a = some ⟨g, off, none⟩ ∧ S g ∧ w.cell? ⟨g, off + k, none⟩ = some (.int .i64 (l.getD k 0)) := by
  have hn : n = l.length := by obtain ⟨_, a', c', hv, _⟩ := h; simp only [Value.slice.injEq] at hv; exact hv.2.1
  subst hn
  obtain ⟨g, off, u, ha, hS, _, hu, hc⟩ := Row.at1 h hk
  refine ⟨g, off, ha, hS, ?_⟩
  rw [hc]; simp [hk] at hu; simp [← hu, hk]
theorem val_cells' {w : World} {b : Nat} {v0 v1 v2 v3 v4 : Value} {ty : TypeId} {fr : Nat × Nat} (h : w.heap[b]? = some (.cells #[v0, v1, v2, v3, v4] ty fr)) :
    w.cell? ⟨b, 0, none⟩ = some v0 ∧ w.cell? ⟨b, 1, none⟩ = some v1 ∧ w.cell? ⟨b, 2, none⟩ = some v2 ∧ w.cell? ⟨b, 3, none⟩ = some v3 ∧ w.cell? ⟨b, 4, none⟩ = some v4 :=
  ⟨cell_blk h 0, cell_blk h 1, cell_blk h 2, cell_blk h 3, cell_blk h 4⟩
theorem below_owns {w w' : World} {base : Nat} {e : TypeId} {size : Nat} {v : Value} {n : Nat} {xs : List Value} (h : w.ownsRow base e size v n xs) (hg : w.grownBy w' v.ownBlock) (hb : base ≤ w.heap.size) : Below base w w' :=
  (Below.refl _ _).grown hg hb (fun k hk => (h.lt k hk).1)
end Go.Proofs.YtbldchemgkfdcaaGreatDoor
