/- Plain law, second part: what valFrom reads whole has the specification's shape; valOf and the shape agree. No program. -/
import Derived.Test.YtbldchemgkfdcaaGreatDoorLaw
namespace Go.Proofs.YtbldchemgkfdcaaGreatDoor

theorem anc_last {l : List N} {k e : Nat} (hke : k < e) (h : ∀ i, k < i → i < e → Anc l i k) : Anc l (e - 1) k := by
  by_cases h1 : e - 1 = k
  · rw [h1]; exact .refl k
  · exact h (e - 1) (by omega) (by omega)
theorem parse_ok (l : List N) (n : Nat) :
    (∀ k t e, ∀ hk : k < l.length, pv n l k (upk l k) = some (t, e) → k < e ∧ e ≤ l.length ∧ nodeOKB l[k] (upk l k) = true ∧ ∀ i, k < i → i < e → okS l i = true ∧ Anc l i k) ∧
    (∀ k e x kids t e', l[k]? = some x → k < e → e ≤ l.length → (∀ i, k < i → i < e → okS l i = true ∧ Anc l i k) → pk n l k x e (names7 l k e x.kind) kids = some (t, e') →
      e ≤ e' ∧ e' ≤ l.length ∧ ∀ i, k < i → i < e' → okS l i = true ∧ Anc l i k) := by
  induction n with
  | zero => exact ⟨fun _ _ _ _ h => by simp [pv] at h, fun _ _ _ _ _ _ _ _ _ _ h => by simp [pk] at h⟩
  | succ n ih =>
    constructor
    · intro k t e hk h
      rw [pv, List.getElem?_eq_getElem hk] at h
      simp only at h
      split at h
      · rename_i hn
        have h0 : names7 l k (k + 1) l[k].kind = [] := by unfold names7; rw [kidsTo_start]; simp
        have h1 := ih.2 k (k + 1) l[k] [] t e (List.getElem?_eq_getElem hk) (by omega) (by omega) (fun i h1 h2 => by omega) (by rw [h0]; exact h)
        exact ⟨by omega, h1.2.1, hn, h1.2.2⟩
      · cases h
    · intro k e x kids t e' hx hke hel hin h
      have hk : k < l.length := (List.getElem?_eq_some_iff.1 hx).1
      have hkx : kindAt l k = x.kind := by simp [kindAt, hx]
      rw [pk] at h
      by_cases he : e < l.length
      · rw [List.getElem?_eq_getElem he] at h
        simp only at h
        split at h
        · rename_i ht
          simp only [Bool.and_eq_true] at ht
          obtain ⟨hh, hu⟩ := ht
          have hu' : l[e].up = (k : Int) := by simpa using hu
          split at h
          · cases h
          · rename_i hbad
            have hbad' : badName x.kind (names7 l k e x.kind) l[e].name = false := by simpa using hbad
            rw [badName_last l k e x hkx] at hbad'
            split at h
            · cases h
            · rename_i t1 e1 hp
              have hup : upk l e = x.kind := (upk_at he (by omega) hu').trans hkx
              rw [← hup] at hp
              obtain ⟨h1, h2, h3, h4⟩ := ih.1 e t1 e1 he hp
              have hAe : Anc l e k := .up he hu' hke (.refl k)
              have hoke : okS l e = true := by
                rw [nodeOKB_sound, hup, Bool.and_eq_true] at h3
                have hA : ancF (e + 1) l ((e : Int) - 1) l[e].up = true := by
                  rw [hu', show (e : Int) - 1 = ((e - 1 : Nat) : Int) by omega]
                  exact anc_ancF (anc_last hke (fun i h1 h2 => (hin i h1 h2).2)) _ (by omega)
                have hN : nameOKB l e l[e] = true := by
                  rw [nameOKB_at l e k _ hu', hkx]
                  by_cases h7 : x.kind = 7
                  · rw [if_pos h7]
                    simp only [h7, decide_true, Bool.true_and] at hbad'
                    exact (Bool.not_eq_true' _).mpr hbad'
                  · rw [if_neg h7]
                    have := h3.2
                    rw [if_neg h7] at this
                    exact this
                have hW : within l[e].up 0 ((e : Int) - 1) = true := by rw [hu']; simp [within]; omega
                have hH : holdsB (kindAt l l[e].up.toNat) = true := by rw [hu', Int.toNat_natCast, hkx]; exact hh
                simp only [okS, List.getElem?_eq_getElem he, if_neg (show ¬ e = 0 by omega), h3.1, hW, hH, hA, hN, Bool.and_self]
              have hin' : ∀ i, k < i → i < e1 → okS l i = true ∧ Anc l i k := fun i g1 g2 => by
                by_cases hie : i < e
                · exact hin i g1 hie
                · by_cases hie2 : i = e
                  · subst hie2; exact ⟨hoke, hAe⟩
                  · have := h4 i (by omega) g2
                    exact ⟨this.1, this.2.trans hAe⟩
              have hkids : kidsTo l k e1 = kidsTo l k e ++ [e] := by
                have q1 : kidsTo l k e1 = kidsTo l k (e + 1) := kidsTo_same h1 fun i g1 g2 => by
                  have hi := (h4 i (by omega) g2).2
                  cases hi with
                  | refl => omega
                  | up hj hju hp' hpe =>
                    have := hpe.le
                    exact isKid_false hj (by rw [hju]; omega)
                rw [q1, kidsTo_succ, isKid_true he hke hu']; simp
              have hnm : (if x.kind = 7 then names7 l k e x.kind ++ [l[e].name] else names7 l k e x.kind) = names7 l k e1 x.kind := by
                unfold names7
                rw [hkids]
                by_cases h7 : x.kind = 7
                · simp [h7, nameAt_get he]
                · simp [h7]
              rw [hnm] at h
              have := ih.2 k e1 x _ t e' hx (by omega) h2 hin' h
              exact ⟨by omega, this.2.1, this.2.2⟩
        · simp only [Option.some.injEq, Prod.mk.injEq] at h
          obtain ⟨_, rfl⟩ := h
          exact ⟨Nat.le_refl _, hel, hin⟩
      · rw [List.getElem?_eq_none (by omega)] at h
        simp only [Option.some.injEq, Prod.mk.injEq] at h
        obtain ⟨_, rfl⟩ := h
        exact ⟨Nat.le_refl _, hel, hin⟩

theorem shape_parts {l : List N} (h : shape l = true) : OKto l l.length ∧ OKS l l.length ∧ 1 ≤ l.length ∧ l.length ≤ 80 := by
  simp only [shape, Bool.and_eq_true, within, decide_eq_true_eq] at h
  have hO : OKto l l.length := fun i hi => List.all_eq_true.1 h.1 i (by simpa using hi)
  refine ⟨hO, fun i hi => ?_, by omega, by omega⟩
  have := hO i hi
  rw [okAt_okS, Bool.and_eq_true] at this
  exact this.1
theorem dep6 {l : List N} (hO : OKto l l.length) : ∀ j, j < l.length → dep l j ≤ 6 := fun _ hj => dep_le hO hj

/-- the shape is right: the tree of each node is read, and of the whole -/
theorem shape_reads {l : List N} (h : shape l = true) : ∀ j, j < l.length → ∃ t e, pv (2 * l.length) l j (upk l j) = some (t, e) ∧ TR l j t ∧ t.wn ∧ t.bounded = true ∧ t.kok ∧ t.cnt ≤ 80 := by
  obtain ⟨hO, hS, h1, h80⟩ := shape_parts h
  intro j hj
  obtain ⟨t, e, hp, hr⟩ := (read_all l hS (2 * l.length)).1 j hj (by omega)
  have hok := (pv_ok _).1 _ _ _ _ _ hp
  have := hr.le
  exact ⟨t, e, hp, hr.tr, hok.1, hok.2.1, hr.tr.kok hS, by omega⟩
theorem shape_valOf {l : List N} (h : shape l = true) : ∃ t, pv (2 * l.length) l 0 0 = some (t, l.length) ∧ TR l 0 t ∧ t.bounded = true ∧ valOf l = if t.txt.length ≤ 300 then some t else none := by
  obtain ⟨hO, hS, h1, h80⟩ := shape_parts h
  obtain ⟨t, e, hp, hr⟩ := (read_all l hS (2 * l.length)).1 0 (by omega) (by omega)
  have hu : upk l 0 = 0 := rfl
  rw [hu] at hp
  have he : e = l.length := by
    by_cases hlt : e < l.length
    · exact absurd (anc_zero hS e hlt) (hr.out hlt)
    · have := hr.le; omega
  subst he
  have hok := (pv_ok _).1 _ _ _ _ _ hp
  have hd := deep_le hS (dep6 hO) hr.tr
  have hd0 : dep l 0 = hb l 0 := by rw [dep_zero (by omega)]; unfold hb; rw [kindAt_get (by omega)]
  refine ⟨t, hp, hr.tr, hok.2.1, ?_⟩
  have htop := (okS_top (hS 0 (by omega)) (by omega)).2.1
  rw [valOf_pv l (by omega) (by simp [within]; omega) (by rw [htop]; rfl), hp]
  have hg : t.good = decide (t.txt.length ≤ 300) := by
    have h1 : decide (t.cnt ≤ 80) = true := by simp; omega
    have h2 : decide (t.deep ≤ 6) = true := by simp; omega
    simp only [T.good, hok.2.1, h1, h2, Bool.true_and]
  simp only [beq_self_eq_true, Bool.true_and, hg, decide_eq_true_eq]
theorem valOf_shape {l : List N} {t : T} (h : valOf l = some t) : shape l = true := by
  have hw : within l.length 1 80 = true := by
    cases hw : within l.length 1 80 with
    | true => rfl
    | false => rw [valOf_no_len l hw] at h; cases h
  have hl : 0 < l.length := by simp only [within, Bool.and_eq_true, decide_eq_true_eq] at hw; omega
  have hup : (l[0].up == -1) = true := by
    cases hu : l[0].up == -1 with
    | true => rfl
    | false => rw [valOf_no_up l hl hu] at h; cases h
  rw [valOf_pv l hl hw hup] at h
  split at h
  · cases h
  · rename_i t' e hp
    split at h
    · rename_i hg
      simp only [Option.some.injEq] at h
      subst h
      simp only [Bool.and_eq_true, beq_iff_eq] at hg
      obtain ⟨rfl, hg⟩ := hg
      have hu0 : upk l 0 = 0 := rfl
      rw [← hu0] at hp
      obtain ⟨_, _, h3, h4⟩ := (parse_ok l _).1 0 t' l.length hl hp
      have hS : OKS l l.length := fun i hi => by
        by_cases h0 : i = 0
        · subst h0
          rw [nodeOKB_sound, hu0, Bool.and_eq_true, if_neg (by decide)] at h3
          have : l[0].up = -1 := by simpa using hup
          simp [okS, hi, h3.1, h3.2, this]
        · exact (h4 i (by omega) hi).1
      obtain ⟨t2, e2, hp2, hr⟩ := (read_all l hS (2 * l.length)).1 0 hl (by omega)
      rw [hp] at hp2
      simp only [Option.some.injEq, Prod.mk.injEq] at hp2
      obtain ⟨rfl, rfl⟩ := hp2
      simp only [T.good, Bool.and_eq_true, decide_eq_true_eq] at hg
      have hd0 : dep l 0 = hb l 0 := by rw [dep_zero hl]; unfold hb; rw [kindAt_get hl]
      unfold shape
      rw [hw, Bool.and_true]
      refine List.all_eq_true.2 fun i hi => ?_
      have hi' : i < l.length := by simpa using hi
      have := dep_le_deep hS _ (Nat.le_refl _) hr.tr (anc_zero hS i hi')
      rw [okAt_okS, hS i hi']
      have : dep l i ≤ 6 := by omega
      simp [this]
    · cases h
theorem valOf_tree {l : List N} {t : T} (h : valOf l = some t) : t.wn ∧ t.bounded = true ∧ t.cnt ≤ 80 := by
  have hs := valOf_shape h
  obtain ⟨t', hp, _, hb, hv⟩ := shape_valOf hs
  have hl := (shape_parts hs).2.2.2
  have hok := (pv_ok _).1 _ _ _ _ _ hp
  rw [h] at hv
  split at hv
  · cases hv
    exact ⟨hok.1, hb, by omega⟩
  · cases hv
theorem valOf_TR {l : List N} {t : T} (h : valOf l = some t) : TR l 0 t := by
  obtain ⟨t', hp, hT, hb, hv⟩ := shape_valOf (valOf_shape h)
  rw [h] at hv
  split at hv
  · cases hv; exact hT
  · cases hv
end Go.Proofs.YtbldchemgkfdcaaGreatDoor
