/- the names of a map rise (plain). -/
import Derived.Test.YtbldchemgkfdcaaGreatDoorCleanP
import Derived.Sort.Walk0
namespace Go.Proofs.YtbldchemgkfdcaaGreatDoor

def ltP (a b : ByteArray) : Prop := ltS a b = true
theorem ltS_trans {a b c : ByteArray} (h1 : ltP a b) (h2 : ltP b c) : ltP a c := by
  unfold ltP ltS at *
  rw [bytesLess_eq, decide_eq_true_eq] at *
  exact List.lt_trans h1 h2
mutual
def T.inc : T → Prop
  | .mk kind _ _ names kids => (kind = 7 → names.Pairwise ltP) ∧ T.incs kids
def T.incs : List T → Prop
  | [] => True
  | t :: ts => t.inc ∧ T.incs ts
end
theorem T.incs_mem {l : List T} (h : T.incs l) : ∀ k (hk : k < l.length), l[k].inc := by
  induction l with
  | nil => intro k hk; simp at hk
  | cons a l ih => intro k hk; cases k with
    | zero => exact h.1
    | succ k => exact ih h.2 k (by simpa using hk)
theorem T.incs_append {a b : List T} (ha : T.incs a) (hb : T.incs b) : T.incs (a ++ b) := by
  induction a with
  | nil => exact hb
  | cons x a ih => exact ⟨ha.1, ih ha.2⟩
theorem pair_snoc {l : List ByteArray} {s : ByteArray} (h : l.Pairwise ltP) (hl : 0 < l.length → ltP (l.getD (l.length - 1) ⟨#[]⟩) s) : (l ++ [s]).Pairwise ltP := by
  rw [List.pairwise_append]
  refine ⟨h, List.pairwise_singleton _ _, fun a ha b hb => ?_⟩
  obtain rfl : b = s := by simpa using hb
  obtain ⟨i, hi, rfl⟩ := List.getElem_of_mem ha
  have hlast := hl (by omega)
  rw [List.getD_eq_getElem?_getD, List.getElem?_eq_getElem (by omega : l.length - 1 < l.length)] at hlast
  simp only [Option.getD_some] at hlast
  by_cases e : i = l.length - 1
  · subst e; exact hlast
  · exact ltS_trans (List.pairwise_iff_getElem.1 h i (l.length - 1) hi (by omega) (by omega)) hlast
theorem pv_inc (n : Nat) : (∀ l k up t e, pv n l k up = some (t, e) → t.inc) ∧
    (∀ l k x e names kids t e', (x.kind = 7 → names.Pairwise ltP) → T.incs kids → pk n l k x e names kids = some (t, e') → t.inc) := by
  induction n with
  | zero => exact ⟨fun _ _ _ _ _ h => by simp [pv] at h, fun _ _ _ _ _ _ _ _ _ _ h => by simp [pk] at h⟩
  | succ n ih =>
    constructor
    · intro l k up t e h
      simp only [pv] at h
      split at h
      · cases h
      · split at h
        · exact ih.2 l k _ (k + 1) [] [] t e (fun _ => List.Pairwise.nil) trivial h
        · cases h
    · intro l k x e names kids t e' h1 h2 h
      have fin : ∀ e'', some (T.mk x.kind x.num x.text names kids, e'') = some (t, e') → t.inc := by
        intro e'' hh
        simp only [Option.some.injEq, Prod.mk.injEq] at hh
        obtain ⟨rfl, rfl⟩ := hh
        exact ⟨h1, h2⟩
      simp only [pk] at h
      split at h
      · exact fin _ h
      · rename_i y hy
        split at h
        · split at h
          · cases h
          · rename_i hbn
            split at h
            · cases h
            · rename_i t1 e1 hv
              refine ih.2 l k x e1 _ _ t e' (fun e7 => ?_) (T.incs_append h2 (show T.incs [t1] from ⟨ih.1 l e x.kind t1 e1 hv, trivial⟩)) h
              rw [if_pos e7]
              refine pair_snoc (h1 e7) (fun h0 => ?_)
              have hb : badName x.kind names y.name = false := by simpa using hbn
              unfold badName at hb
              rw [e7] at hb
              simp [h0] at hb
              unfold ltP
              rw [List.getD_eq_getElem?_getD]
              exact hb
        · exact fin _ h
theorem valOf_inc {l : List N} {t : T} (h : valOf l = some t) : t.inc := by
  obtain ⟨t', hp, _, _, hv⟩ := shape_valOf (valOf_shape h)
  rw [h] at hv
  split at hv
  · cases hv; exact (pv_inc _).1 _ _ _ _ _ hp
  · cases hv
/-- the names that are kept so far stand ahead of the next one -/
theorem cnames_sub : ∀ (ns : List ByteArray) (l : List T) (s : ByteArray), s ∈ cnames ns l → s ∈ ns
  | [], _, _, h => by simp [cnames] at h
  | _ :: _, [], _, h => by simp [cnames] at h
  | n :: ns, t :: ts, s, h => by
    by_cases e : t.kind = 1
    · rw [cnames, if_pos e] at h; exact List.mem_cons_of_mem _ (cnames_sub ns ts s h)
    · rw [cnames, if_neg e] at h
      rcases List.mem_cons.1 h with rfl | h
      · exact List.mem_cons_self
      · exact List.mem_cons_of_mem _ (cnames_sub ns ts s h)
theorem cnames_below {ns : List ByteArray} (h : ns.Pairwise ltP) (l : List T) (k : Nat) (hk : k < ns.length) : ∀ s ∈ cnames (ns.take k) (l.take k), ltP s ns[k] := by
  intro s hs
  obtain ⟨i, hi, rfl⟩ := List.getElem_of_mem (cnames_sub _ _ _ hs)
  simp only [List.length_take] at hi
  rw [List.getElem_take]
  exact List.pairwise_iff_getElem.1 h i k (by omega) hk (by omega)
end Go.Proofs.YtbldchemgkfdcaaGreatDoor
