/- Plain words: which nodes are a value, as the specification says it, node by node; no program. -/
import Derived.Test.YtbldchemgkfdcaaGreatDoorTree
namespace Go.Proofs.YtbldchemgkfdcaaGreatDoor

/-- the kinds, numbers and texts of a node by themselves -/
def soundB (x : N) : Bool := within x.kind 1 7 && !(x.kind != 4 && x.num != 0) && okNum x.num && !(x.kind != 5 && !isEmp x.text) && okStr x.text && okStr x.name
def kindAt (l : List N) (j : Nat) : Int := match l[j]? with | some y => y.kind | none => 0
theorem kindAt_get {l : List N} {j : Nat} (h : j < l.length) : kindAt l j = l[j].kind := by simp [kindAt, h]
/-- is u node a, or one around it? -/
def ancF : Nat → List N → Int → Int → Bool
  | 0, _, _, _ => false
  | n + 1, l, a, u => if a = u then true else if a < 0 then false else match l[a.toNat]? with | none => false | some x => ancF n l x.up u
def depF : Nat → List N → Nat → Int
  | 0, _, _ => 0
  | n + 1, l, k => match l[k]? with | none => 0 | some x => (if holdsB x.kind then 1 else 0) + (if k = 0 then 0 else depF n l x.up.toNat)
def dep (l : List N) (k : Nat) : Int := depF (k + 1) l k
/-- the last part of u ahead of i, if u is a map -/
def lastKid (l : List N) (u i : Nat) : Option Nat := if kindAt l u = 7 then (kidsTo l u i).getLast? else none
def lastName (l : List N) (u i : Nat) : ByteArray := match lastKid l u i with | some j => nameAt l j | none => ⟨#[]⟩
def nameOKB (l : List N) (i : Nat) (x : N) : Bool := if kindAt l x.up.toNat = 7 then !((lastKid l x.up.toNat i).isSome && !ltS (lastName l x.up.toNat i) x.name) else isEmp x.name
def okAt (l : List N) (i : Nat) : Bool := match l[i]? with
  | none => false
  | some x => soundB x && (if i = 0 then !(x.up != -1 || !isEmp x.name) else
    within x.up 0 ((i : Int) - 1) && holdsB (kindAt l x.up.toNat) && ancF (i + 1) l ((i : Int) - 1) x.up && nameOKB l i x && decide (dep l i ≤ 6))
def shape (l : List N) : Bool := (List.range l.length).all (okAt l) && within l.length 1 80

theorem okAt_up {l : List N} {i : Nat} (h : okAt l i = true) (hi : i < l.length) (h0 : i ≠ 0) : 0 ≤ l[i].up ∧ l[i].up ≤ (i : Int) - 1 := by
  simp only [okAt, List.getElem?_eq_getElem hi, if_neg h0, Bool.and_eq_true, within, decide_eq_true_eq] at h
  omega
theorem okAt_top {l : List N} (h : okAt l 0 = true) (hi : 0 < l.length) : l[0].up = -1 := by
  simp only [okAt, List.getElem?_eq_getElem hi, if_true, Bool.and_eq_true] at h
  simpa using (by simpa using h.2 : l[0].up = -1 ∧ _).1
/-- all nodes ahead of i are right -/
def OKto (l : List N) (i : Nat) : Prop := ∀ j, j < i → okAt l j = true
theorem depF_eq {l : List N} {i : Nat} (h : OKto l i) (n : Nat) : ∀ (m k : Nat), k < i → k + 1 ≤ n → k + 1 ≤ m → depF n l k = depF m l k := by
  induction n with
  | zero => intro m k _ hn; omega
  | succ n ih =>
    intro m k hk hn hm
    obtain ⟨m', rfl⟩ : ∃ m', m = m' + 1 := ⟨m - 1, by omega⟩
    simp only [depF]
    cases hx : l[k]? with
    | none => rfl
    | some x =>
      obtain ⟨hl, rfl⟩ := List.getElem?_eq_some_iff.1 hx
      by_cases h0 : k = 0
      · simp [h0]
      · have := okAt_up (h k hk) hl h0
        simp only [if_neg h0]
        rw [ih m' l[k].up.toNat (by omega) (by omega) (by omega)]
theorem dep_zero {l : List N} (hl : 0 < l.length) : dep l 0 = if holdsB l[0].kind then 1 else 0 := by
  simp [dep, depF, List.getElem?_eq_getElem hl]
theorem dep_step {l : List N} {i q : Nat} (h : OKto l i) (hl : i < l.length) (h0 : i ≠ 0) (hq : l[i].up = (q : Int)) (hqi : q < i) : dep l i = (if holdsB l[i].kind then 1 else 0) + dep l q := by
  unfold dep
  rw [depF, List.getElem?_eq_getElem hl]
  simp only [if_neg h0, hq, Int.toNat_natCast]
  rw [depF_eq h i (q + 1) q hqi (by omega) (Nat.le_refl _)]
theorem depF_nn (n : Nat) : ∀ (l : List N) (k : Nat), 0 ≤ depF n l k := by
  induction n with
  | zero => intro l k; simp [depF]
  | succ n ih =>
    intro l k
    simp only [depF]
    cases l[k]? with
    | none => simp
    | some x => 
      have := ih l x.up.toNat
      simp only
      split <;> split <;> omega
theorem dep_nn (l : List N) (k : Nat) : 0 ≤ dep l k := depF_nn _ _ _
theorem dep_le {l : List N} {i q : Nat} (h : OKto l i) (hq : q < i) : dep l q ≤ 6 := by
  have hk := h q hq
  simp only [okAt] at hk
  cases hx : l[q]? with
  | none => rw [hx] at hk; cases hk
  | some x =>
    obtain ⟨hl, rfl⟩ := List.getElem?_eq_some_iff.1 hx
    by_cases h0 : q = 0
    · subst h0; rw [dep_zero hl]; split <;> omega
    · rw [hx] at hk
      simp only [if_neg h0, Bool.and_eq_true, decide_eq_true_eq] at hk
      exact hk.2.2
theorem lastKid_succ (l : List N) (u i : Nat) : lastKid l u (i + 1) = if isKid l u i = true ∧ kindAt l u = 7 then some i else lastKid l u i := by
  unfold lastKid
  by_cases h7 : kindAt l u = 7
  · simp only [if_pos h7, kidsTo_succ]
    cases hk : isKid l u i <;> simp [h7]
  · simp [h7]
theorem lastName_succ (l : List N) (u i : Nat) : lastName l u (i + 1) = if isKid l u i = true ∧ kindAt l u = 7 then nameAt l i else lastName l u i := by
  unfold lastName
  rw [lastKid_succ]
  split
  · rename_i j hj
    split at hj
    · rename_i h; rw [if_pos h]; simp at hj; rw [hj]
    · rename_i h; rw [if_neg h, hj]
  · rename_i hj
    split at hj
    · cases hj
    · rename_i h; rw [if_neg h, hj]
theorem lastKid_zero (l : List N) (u : Nat) : lastKid l u 0 = none := by unfold lastKid; split <;> simp [kidsTo]
theorem lastName_zero (l : List N) (u : Nat) : lastName l u 0 = ⟨#[]⟩ := by unfold lastName; rw [lastKid_zero]
theorem isKid_zero (l : List N) (u : Nat) : isKid l u 0 = false := by simp [isKid]
theorem okAt_none {l : List N} {i : Nat} (h : l.length ≤ i) : okAt l i = false := by simp [okAt, List.getElem?_eq_none h]
theorem shape_false {l : List N} {i : Nat} (hi : i < l.length) (h : okAt l i = false) : shape l = false := by
  unfold shape
  rw [Bool.and_eq_false_iff]; left
  rw [Bool.eq_false_iff]
  intro hall
  have := List.all_eq_true.1 hall i (by simpa using hi)
  rw [h] at this; cases this
theorem shape_end {l : List N} (h : OKto l l.length) : shape l = within l.length 1 80 := by
  unfold shape
  have : (List.range l.length).all (okAt l) = true := List.all_eq_true.2 fun i hi => h i (by simpa using hi)
  rw [this, Bool.true_and]
/-- the test of node i, its parts one by one -/
theorem okAt_unsound {l : List N} {i : Nat} (hi : i < l.length) (h : soundB l[i] = false) : okAt l i = false := by
  simp [okAt, hi, h]
theorem okAt_first {l : List N} (hi : 0 < l.length) (h : soundB l[0] = true) : okAt l 0 = !(l[0].up != -1 || !isEmp l[0].name) := by
  simp [okAt, hi, h]
theorem okAt_later {l : List N} {i : Nat} (hi : i < l.length) (h0 : i ≠ 0) (h : soundB l[i] = true) : okAt l i =
    (within l[i].up 0 ((i : Int) - 1) && holdsB (kindAt l l[i].up.toNat) && ancF (i + 1) l ((i : Int) - 1) l[i].up && nameOKB l i l[i] && decide (dep l i ≤ 6)) := by
  simp only [okAt, List.getElem?_eq_getElem hi, h, if_neg h0, Bool.true_and]
theorem ancF_hit (n : Nat) (l : List N) (a : Int) : ancF (n + 1) l a a = true := by simp [ancF]
theorem ancF_neg (n : Nat) (l : List N) (a u : Int) (h : a ≠ u) (hn : a < 0) : ancF (n + 1) l a u = false := by simp [ancF, h, hn]
theorem ancF_step (n : Nat) (l : List N) (p : Nat) (u : Int) (h : (p : Int) ≠ u) (hp : p < l.length) : ancF (n + 1) l p u = ancF n l l[p].up u := by
  have : ¬ ((p : Int) < 0) := by omega
  simp [ancF, h, this, hp]
theorem nameOKB_at (l : List N) (i q : Nat) (x : N) (h : x.up = (q : Int)) : nameOKB l i x = if kindAt l q = 7 then !((lastKid l q i).isSome && !ltS (lastName l q i) x.name) else isEmp x.name := by
  unfold nameOKB; rw [h, Int.toNat_natCast]
theorem isKid_iff {l : List N} {i q : Nat} (hi : i < l.length) (h : l[i].up = (q : Int)) (hq : q < i) (k : Nat) : isKid l k i = decide (k = q) := by
  by_cases hk : k = q
  · subst hk; rw [isKid_true hi hq h]; simp
  · rw [isKid_false hi (by rw [h]; omega)]; simp [hk]
end Go.Proofs.YtbldchemgkfdcaaGreatDoor
