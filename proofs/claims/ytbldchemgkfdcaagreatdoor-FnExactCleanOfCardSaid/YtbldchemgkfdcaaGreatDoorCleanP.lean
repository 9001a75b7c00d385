/- a tree without the nulls of its maps (plain). -/
import Derived.Test.YtbldchemgkfdcaaGreatDoorLaw2
namespace Go.Proofs.YtbldchemgkfdcaaGreatDoor

def cnames : List ByteArray → List T → List ByteArray
  | n :: ns, t :: ts => if t.kind = 1 then cnames ns ts else n :: cnames ns ts
  | _, _ => []
mutual
def T.clean : T → T
  | .mk kind num text names kids => if kind = 7 then .mk 7 0 ⟨#[]⟩ (cnames names kids) (T.cleans kids) else .mk kind num text names kids
def T.cleans : List T → List T
  | [] => []
  | t :: ts => if t.kind = 1 then T.cleans ts else t.clean :: T.cleans ts
end
theorem T.cleans_take : ∀ (l : List T) (k : Nat) (h : k < l.length), T.cleans (l.take (k + 1)) = T.cleans (l.take k) ++ if l[k].kind = 1 then [] else [l[k].clean]
  | [], _, h => by simp at h
  | t :: ts, 0, _ => by by_cases e : t.kind = 1 <;> simp [T.cleans, e]
  | t :: ts, k + 1, h => by
    have := T.cleans_take ts k (by simpa using h)
    simp only [List.take_succ_cons, T.cleans, List.getElem_cons_succ, this]
    by_cases e : t.kind = 1 <;> simp [e]
theorem cnames_take : ∀ (ns : List ByteArray) (l : List T) (k : Nat) (h : k < l.length) (h' : k < ns.length), cnames (ns.take (k + 1)) (l.take (k + 1)) = cnames (ns.take k) (l.take k) ++ if l[k].kind = 1 then [] else [ns[k]]
  | [], _, _, _, h => by simp at h
  | _ :: _, [], _, h, _ => by simp at h
  | n :: ns, t :: ts, 0, _, _ => by by_cases e : t.kind = 1 <;> simp [cnames, e]
  | n :: ns, t :: ts, k + 1, h, h' => by
    have := cnames_take ns ts k (by simpa using h) (by simpa using h')
    simp only [List.take_succ_cons, cnames, List.getElem_cons_succ, this]
    by_cases e : t.kind = 1 <;> simp [e]
theorem cnames_len : ∀ (ns : List ByteArray) (l : List T), ns.length = l.length → (cnames ns l).length = (T.cleans l).length
  | [], [], _ => rfl
  | n :: ns, t :: ts, h => by
    have := cnames_len ns ts (by simpa using h)
    by_cases e : t.kind = 1 <;> simp [cnames, T.cleans, e, this]
  | [], _ :: _, h => by simp at h
  | _ :: _, [], h => by simp at h
theorem cnames_all {p : ByteArray → Bool} : ∀ (ns : List ByteArray) (l : List T), ns.all p = true → (cnames ns l).all p = true
  | [], _, _ => by simp [cnames]
  | _ :: _, [], _ => by simp [cnames]
  | n :: ns, t :: ts, h => by
    simp only [List.all_cons, Bool.and_eq_true] at h
    have := cnames_all (p := p) ns ts h.2
    by_cases e : t.kind = 1
    · simp [cnames, e, this]
    · simp only [cnames, if_neg e, List.all_cons, h.1, this, Bool.and_self]
theorem T.cleans_len : ∀ (l : List T), (T.cleans l).length ≤ l.length
  | [] => by simp [T.cleans]
  | t :: ts => by
    have := T.cleans_len ts
    by_cases e : t.kind = 1 <;> simp [T.cleans, e] <;> omega
mutual
theorem T.clean_cnt : (t : T) → t.clean.cnt ≤ t.cnt
  | .mk kind num text names kids => by
    have := T.cleans_cnt kids
    by_cases h : kind = 7
    · simp only [T.clean, if_pos h, T.cnt]; omega
    · simp only [T.clean, if_neg h]; exact Nat.le_refl _
theorem T.cleans_cnt : (l : List T) → T.cnts (T.cleans l) ≤ T.cnts l
  | [] => by simp [T.cleans]
  | t :: ts => by
    have h1 := T.clean_cnt t; have h2 := T.cleans_cnt ts
    by_cases e : t.kind = 1
    · simp only [T.cleans, if_pos e, T.cnts]; omega
    · simp only [T.cleans, if_neg e, T.cnts]; omega
end
mutual
theorem T.clean_deep : (t : T) → t.clean.deep ≤ t.deep
  | .mk kind num text names kids => by
    have := T.cleans_deep kids
    by_cases h : kind = 7
    · subst h; simp only [T.clean, if_true, T.deep]; omega
    · simp only [T.clean, if_neg h]; exact Int.le_refl _
theorem T.cleans_deep : (l : List T) → T.deeps (T.cleans l) ≤ T.deeps l
  | [] => by simp [T.cleans]
  | t :: ts => by
    have h1 := T.clean_deep t; have h2 := T.cleans_deep ts
    by_cases e : t.kind = 1
    · simp only [T.cleans, if_pos e, T.deeps]; omega
    · simp only [T.cleans, if_neg e, T.deeps]; omega
end
mutual
theorem T.clean_wn : (t : T) → t.wn → t.clean.wn
  | .mk kind num text names kids, hw => by
    have := T.cleans_wn kids hw.2
    by_cases h : kind = 7
    · simp only [T.clean, if_pos h]
      exact ⟨⟨fun _ => cnames_len _ _ (hw.1.1 h), fun h' => absurd rfl h'⟩, this⟩
    · simp only [T.clean, if_neg h]; exact hw
theorem T.cleans_wn : (l : List T) → T.wns l → T.wns (T.cleans l)
  | [], _ => trivial
  | t :: ts, hw => by
    have h1 := T.clean_wn t hw.1; have h2 := T.cleans_wn ts hw.2
    by_cases e : t.kind = 1
    · simp only [T.cleans, if_pos e]; exact h2
    · simp only [T.cleans, if_neg e]; exact ⟨h1, h2⟩
end
mutual
theorem T.clean_bounded : (t : T) → t.bounded = true → t.clean.bounded = true
  | .mk kind num text names kids, hb => by
    by_cases h : kind = 7
    · simp only [T.bounded, Bool.and_eq_true] at hb
      have := T.cleans_bounded kids hb.2
      simp only [T.clean, if_pos h, T.bounded, Bool.and_eq_true]
      exact ⟨⟨⟨by decide, by decide⟩, cnames_all _ _ hb.1.2⟩, this⟩
    · simp only [T.clean, if_neg h]; exact hb
theorem T.cleans_bounded : (l : List T) → T.boundeds l = true → T.boundeds (T.cleans l) = true
  | [], _ => rfl
  | t :: ts, hb => by
    simp only [T.boundeds, Bool.and_eq_true] at hb
    have h1 := T.clean_bounded t hb.1; have h2 := T.cleans_bounded ts hb.2
    by_cases e : t.kind = 1
    · simp only [T.cleans, if_pos e]; exact h2
    · simp only [T.cleans, if_neg e, T.boundeds, h1, h2, Bool.and_self]
end
theorem kname_drop {names : List ByteArray} {i : Nat} {n : ByteArray} {ns : List ByteArray} (h : names.drop i = n :: ns) : kname 7 names i = n ∧ names.drop (i + 1) = ns := by
  have h0 : names[i]? = some n := by
    have := congrArg (fun l => l[0]?) h
    simpa using this
  refine ⟨by simp [kname, h0], ?_⟩
  have := congrArg (List.drop 1) h
  simpa [List.drop_drop, Nat.add_comm] using this
mutual
theorem T.clean_txt : (t : T) → t.wn → t.clean.txt.length ≤ t.txt.length
  | .mk kind num text names kids, hw => by
    by_cases h : kind = 7
    · subst h
      have := T.cleans_txt kids names (cnames names kids) names 0 0 hw.2 (hw.1.1 rfl) rfl rfl (fun h => h)
      simp only [T.clean, if_true, T.txt]
      simp
      omega
    · simp only [T.clean, if_neg h]; exact Nat.le_refl _
theorem T.cleans_txt : (l : List T) → (names names' ns : List ByteArray) → (i i' : Nat) → T.wns l → ns.length = l.length → names.drop i = ns → names'.drop i' = cnames ns l → (0 < i' → 0 < i) → (T.txts 7 names' (T.cleans l) i').length ≤ (T.txts 7 names l i).length
  | [], _, _, _, _, _, _, _, _, _, _ => by simp [T.cleans, T.txts]
  | t :: ts, names, names', [], i, i', _, hl, _, _, _ => by simp at hl
  | t :: ts, names, names', n :: ns, i, i', hw, hl, hd, hd', hi => by
    have h1 := T.clean_txt t hw.1
    obtain ⟨hk, hd1⟩ := kname_drop hd
    by_cases e : t.kind = 1
    · rw [cnames, if_pos e] at hd'
      have h2 := T.cleans_txt ts names names' ns (i + 1) i' hw.2 (by simpa using hl) hd1 hd' (fun _ => Nat.succ_pos _)
      simp only [T.cleans, if_pos e, T.txts, List.length_append]
      omega
    · rw [cnames, if_neg e] at hd'
      obtain ⟨hk', hd1'⟩ := kname_drop hd'
      have h2 := T.cleans_txt ts names names' ns (i + 1) (i' + 1) hw.2 (by simpa using hl) hd1 hd1' (fun _ => Nat.succ_pos _)
      simp only [T.cleans, if_neg e, T.txts, List.length_append, hk, hk', if_true]
      by_cases e1 : 0 < i'
      · rw [if_pos e1, if_pos (hi e1)]; omega
      · rw [if_neg e1]; simp only [List.length_nil]; omega
end
theorem T.clean_good {t : T} (hw : t.wn) (h : t.good = true) : t.clean.good = true := by
  unfold T.good at *
  simp only [Bool.and_eq_true, decide_eq_true_eq] at *
  obtain ⟨⟨⟨h1, h2⟩, h3⟩, h4⟩ := h
  have := t.clean_cnt; have := t.clean_deep; have := t.clean_txt hw
  exact ⟨⟨⟨t.clean_bounded h1, by omega⟩, by omega⟩, by omega⟩
theorem valOf_good {l : List N} {t : T} (h : valOf l = some t) : t.good = true := by
  have hs := valOf_shape h
  have hl := shape_parts hs
  have hw : within l.length 1 80 = true := by simp only [within, Bool.and_eq_true, decide_eq_true_eq]; omega
  have hu : (l[0].up == -1) = true := by
    cases hu : (l[0].up == -1) with
    | true => rfl
    | false => rw [valOf_no_up l (by omega) hu] at h; cases h
  rw [valOf_pv l (by omega) hw hu] at h
  cases hp : pv (2 * l.length) l 0 0 with
  | none => rw [hp] at h; cases h
  | some x =>
    obtain ⟨t', e⟩ := x
    rw [hp] at h
    simp only at h
    split at h
    · rename_i hg
      simp only [Bool.and_eq_true] at hg
      cases h; exact hg.2
    · cases h
end Go.Proofs.YtbldchemgkfdcaaGreatDoor
