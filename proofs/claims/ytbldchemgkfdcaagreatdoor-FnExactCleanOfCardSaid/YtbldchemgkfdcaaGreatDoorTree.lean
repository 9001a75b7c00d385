/- Plain words: which nodes are kids of a node; the tree of a node; no program. -/
import Derived.Test.YtbldchemgkfdcaaGreatDoorPure
namespace Go.Proofs.YtbldchemgkfdcaaGreatDoor

def isKid (l : List N) (k j : Nat) : Bool := decide (k < j) && (match l[j]? with | some y => y.up == (k : Int) | none => false)
/-- the nodes ahead of i that are parts of k -/
def kidsTo (l : List N) (k i : Nat) : List Nat := (List.range i).filter (isKid l k)
theorem kidsTo_succ (l : List N) (k i : Nat) : kidsTo l k (i + 1) = kidsTo l k i ++ if isKid l k i then [i] else [] := by
  unfold kidsTo
  rw [List.range_succ, List.filter_append]
  congr 1
  cases h : isKid l k i <;> simp [h]
theorem kidsTo_start (l : List N) (k : Nat) : kidsTo l k (k + 1) = [] := by
  unfold kidsTo
  rw [List.filter_eq_nil_iff]
  intro j hj
  have : j < k + 1 := by simpa using hj
  simp only [isKid, Bool.and_eq_true, decide_eq_true_eq]
  omega
theorem kidsTo_len (l : List N) (k i : Nat) : (kidsTo l k i).length ≤ i := by
  unfold kidsTo
  have := List.length_filter_le (isKid l k) (List.range i)
  simpa using this
theorem kidsTo_mem {l : List N} {k i j : Nat} (h : j ∈ kidsTo l k i) : k < j ∧ j < i ∧ ∃ h : j < l.length, l[j].up = (k : Int) := by
  unfold kidsTo at h
  rw [List.mem_filter] at h
  obtain ⟨h1, h2⟩ := h
  simp only [isKid, Bool.and_eq_true, decide_eq_true_eq] at h2
  refine ⟨h2.1, by simpa using h1, ?_⟩
  obtain ⟨_, h2⟩ := h2
  split at h2
  · rename_i y hy
    obtain ⟨hl, rfl⟩ := List.getElem?_eq_some_iff.1 hy
    exact ⟨hl, by simpa using h2⟩
  · cases h2
theorem isKid_true {l : List N} {k i : Nat} (hi : i < l.length) (hk : k < i) (h : l[i].up = (k : Int)) : isKid l k i = true := by
  simp [isKid, hi, hk, h]
theorem isKid_false {l : List N} {k i : Nat} (hi : i < l.length) (h : l[i].up ≠ (k : Int)) : isKid l k i = false := by
  simp [isKid, hi, h]

def nameAt (l : List N) (j : Nat) : ByteArray := match l[j]? with | some y => y.name | none => ⟨#[]⟩
theorem nameAt_get {l : List N} {j : Nat} (h : j < l.length) : nameAt l j = l[j].name := by simp [nameAt, h]
mutual
/-- the tree of node k -/
def TR (l : List N) : Nat → T → Prop
  | k, .mk kind num text names kids => ∃ x, l[k]? = some x ∧ x.kind = kind ∧ x.num = num ∧ x.text = text ∧ names = (if kind = 7 then (kidsTo l k l.length).map (nameAt l) else []) ∧ TRs l (kidsTo l k l.length) kids
def TRs (l : List N) : List Nat → List T → Prop
  | [], [] => True
  | j :: js, t :: ts => TR l j t ∧ TRs l js ts
  | _, _ => False
end
theorem TRs.get {l : List N} : ∀ {js : List Nat} {ts : List T}, TRs l js ts → js.length = ts.length ∧ ∀ i (hi : i < ts.length) (hj : i < js.length), TR l js[i] ts[i]
  | [], [], _ => ⟨rfl, fun i h => by simp at h⟩
  | j :: js, t :: ts, h => by
    have ih := TRs.get h.2
    refine ⟨by simp [ih.1], fun i hi hj => ?_⟩
    cases i with
    | zero => exact h.1
    | succ i => exact ih.2 i (by simpa using hi) (by simpa using hj)
  | [], _ :: _, h => h.elim
  | _ :: _, [], h => h.elim
theorem TRs.append {l : List N} : ∀ {js : List Nat} {ts : List T} {js' : List Nat} {ts' : List T}, TRs l js ts → TRs l js' ts' → TRs l (js ++ js') (ts ++ ts')
  | [], [], _, _, _, h => h
  | _ :: _, _ :: _, _, _, h, h' => ⟨h.1, TRs.append h.2 h'⟩
  | [], _ :: _, _, _, h, _ => h.elim
  | _ :: _, [], _, _, h, _ => h.elim
theorem TR.wn {l : List N} : ∀ {t : T} {k : Nat}, TR l k t → t.wn
  | .mk kind num text names kids, k, ⟨x, hx, h1, h2, h3, h4, h5⟩ => by
    refine ⟨⟨fun e => ?_, fun e => ?_⟩, TRs_wns h5⟩
    · rw [h4, if_pos e, List.length_map, (TRs.get h5).1]
    · rw [h4, if_neg e]
where TRs_wns {l : List N} : ∀ {ts : List T} {js : List Nat}, TRs l js ts → T.wns ts
  | [], [], _ => trivial
  | _ :: _, _ :: _, h => ⟨TR.wn h.1, TRs_wns h.2⟩
  | [], _ :: _, h => trivial
  | _ :: _, [], h => h.elim
mutual
def T.kok : T → Prop
  | .mk kind _ _ _ kids => within kind 1 7 = true ∧ T.koks kids
def T.koks : List T → Prop
  | [] => True
  | t :: ts => t.kok ∧ T.koks ts
end
theorem T.koks_mem {l : List T} (h : T.koks l) : ∀ k (hk : k < l.length), l[k].kok := by
  induction l with
  | nil => intro k hk; simp at hk
  | cons a l ih => intro k hk; cases k with
    | zero => exact h.1
    | succ k => exact ih h.2 k (by simpa using hk)

end Go.Proofs.YtbldchemgkfdcaaGreatDoor
