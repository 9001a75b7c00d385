/- Plain law: nodes that the specification's shape lets by are those that valFrom reads whole, and the tree is the same. No program. -/
import Derived.Test.YtbldchemgkfdcaaGreatDoorShape
namespace Go.Proofs.YtbldchemgkfdcaaGreatDoor

/-- okAt without the depth -/
def okS (l : List N) (i : Nat) : Bool := match l[i]? with
  | none => false
  | some x => soundB x && (if i = 0 then !(x.up != -1 || !isEmp x.name) else
    within x.up 0 ((i : Int) - 1) && holdsB (kindAt l x.up.toNat) && ancF (i + 1) l ((i : Int) - 1) x.up && nameOKB l i x)
theorem okAt_okS {l : List N} {i : Nat} : okAt l i = (okS l i && (decide (i = 0) || decide (dep l i ≤ 6))) := by
  unfold okAt okS
  cases l[i]? with
  | none => rfl
  | some x =>
    by_cases h0 : i = 0
    · simp [h0]
    · simp only [h0, if_false, decide_false, Bool.false_or, Bool.and_assoc]

/-- a is j, or a node around it -/
inductive Anc (l : List N) : Nat → Nat → Prop
  | refl (j : Nat) : Anc l j j
  | up {j p a : Nat} (hj : j < l.length) (hu : l[j].up = (p : Int)) (hp : p < j) (h : Anc l p a) : Anc l j a
theorem Anc.le {l : List N} {j a : Nat} (h : Anc l j a) : a ≤ j := by
  induction h with
  | refl j => exact Nat.le_refl _
  | up _ _ hp _ ih => omega
theorem Anc.trans {l : List N} {j a b : Nat} (h : Anc l j a) (h' : Anc l a b) : Anc l j b := by
  induction h with
  | refl j => exact h'
  | up hj hu hp _ ih => exact .up hj hu hp (ih h')
theorem Anc.join {l : List N} {j a b : Nat} (hb : Anc l j b) : Anc l j a → a ≤ b → Anc l b a := by
  induction hb with
  | refl j => intro h _; exact h
  | @up j p b hj hu hp hpb ih =>
    intro h hab
    cases h with
    | refl => have := hpb.le; omega
    | up hj' hu' hp' h' =>
      have : (p : Int) = _ := hu.symm.trans hu'
      obtain rfl := Int.ofNat.inj this
      exact ih h' hab
/-- the step up from a node that is not the one looked for -/
theorem Anc.step {l : List N} {j a q : Nat} (h : Anc l j a) (hne : j ≠ a) (hj : j < l.length) (hu : l[j].up = (q : Int)) : Anc l q a := by
  cases h with
  | refl => exact absurd rfl hne
  | up hj' hu' hp' h' =>
    have : (q : Int) = _ := hu.symm.trans hu'
    obtain rfl := Int.ofNat.inj this
    exact h'

def OKS (l : List N) (i : Nat) : Prop := ∀ j, j < i → okS l j = true
theorem okS_parts {l : List N} {i : Nat} (h : okS l i = true) (hi : i < l.length) (h0 : i ≠ 0) : soundB l[i] = true ∧ ∃ q : Nat, l[i].up = (q : Int) ∧ q < i ∧ holdsB (kindAt l q) = true ∧ ancF (i + 1) l ((i : Int) - 1) q = true ∧ nameOKB l i l[i] = true := by
  simp only [okS, List.getElem?_eq_getElem hi, if_neg h0, Bool.and_eq_true, within, decide_eq_true_eq] at h
  obtain ⟨h1, ⟨⟨⟨h2, h3⟩, h4⟩, h5⟩, h6⟩ := h
  · exact ⟨h1, l[i].up.toNat, by omega, by omega, h4, by rw [show ((l[i].up.toNat : Nat) : Int) = l[i].up by omega]; exact h5, h6⟩
theorem okS_top {l : List N} (h : okS l 0 = true) (hi : 0 < l.length) : soundB l[0] = true ∧ l[0].up = -1 ∧ isEmp l[0].name = true := by
  simp only [okS, List.getElem?_eq_getElem hi, if_true, Bool.and_eq_true] at h
  exact ⟨h.1, by simpa using h.2⟩
theorem ancF_anc {l : List N} {i : Nat} (h : OKS l i) (hi : i ≤ l.length) (n : Nat) : ∀ (a u : Nat), a < i → ancF n l a u = true → Anc l a u := by
  induction n with
  | zero => intro a u _ h; simp [ancF] at h
  | succ n ih =>
    intro a u ha hh
    by_cases hau : a = u
    · subst hau; exact .refl a
    · rw [ancF_step n l a u (by omega) (by omega)] at hh
      by_cases h0 : a = 0
      · subst h0
        have := (okS_top (h 0 ha) (by omega)).2.1
        rw [this] at hh
        cases n with
        | zero => simp [ancF] at hh
        | succ n => rw [ancF_neg n l (-1) u (by omega) (by omega)] at hh; cases hh
      · obtain ⟨_, q, hq, hqa, _⟩ := okS_parts (h a ha) (by omega) h0
        rw [hq] at hh
        exact .up (by omega) hq hqa (ih q u (by omega) hh)
theorem anc_ancF {l : List N} {a u : Nat} (h : Anc l a u) : ∀ n, a + 1 ≤ n → ancF n l a u = true := by
  induction h with
  | refl j => intro n hn; obtain ⟨m, rfl⟩ : ∃ m, n = m + 1 := ⟨n - 1, by omega⟩; exact ancF_hit _ _ _
  | @up j p b hj hu hp hpb ih =>
    intro n hn
    obtain ⟨m, rfl⟩ : ∃ m, n = m + 1 := ⟨n - 1, by omega⟩
    have := hpb.le
    rw [ancF_step m l j b (by omega) hj, hu]
    exact ih m (by omega)

/-- the kind of what node k is a part of -/
def upk (l : List N) (k : Nat) : Int := if k = 0 then 0 else match l[k]? with
  | none => 0
  | some x => match l[x.up.toNat]? with
    | none => 0
    | some y => y.kind
theorem upk_at {l : List N} {k q : Nat} (hk : k < l.length) (h0 : k ≠ 0) (hu : l[k].up = (q : Int)) : upk l k = kindAt l q := by
  unfold upk kindAt
  rw [if_neg h0, List.getElem?_eq_getElem hk]
  simp only [hu, Int.toNat_natCast]
  cases l[q]? <;> rfl

theorem nodeOKB_sound {x : N} {up : Int} : nodeOKB x up = (soundB x && (if up = 7 then true else isEmp x.name)) := by
  unfold nodeOKB soundB
  by_cases h7 : up = 7
  · simp only [if_pos h7, Bool.and_true]
    cases within x.kind 1 7 <;> cases (x.kind != 4 && x.num != 0) <;> cases (x.kind != 5 && !isEmp x.text) <;> cases okStr x.name <;> cases okNum x.num <;> cases okStr x.text <;> rfl
  · simp only [if_neg h7]
    cases he : isEmp x.name
    · simp
    · have : okStr x.name = true := by
        have hn : x.name.data.toList = [] := by
          unfold isEmp at he
          rw [List.isEmpty_iff] at he
          rw [ByteArray.toList_eq] at he; exact he
        unfold okStr
        rw [hn]
        have : x.name.size = 0 := by show x.name.data.toList.length = 0; rw [hn]; rfl
        simp [this]
      rw [this]
      cases within x.kind 1 7 <;> cases (x.kind != 4 && x.num != 0) <;> cases (x.kind != 5 && !isEmp x.text) <;> cases okNum x.num <;> cases okStr x.text <;> rfl

/-- pk keeps fuel to spare: more does no harm -/
def names7 (l : List N) (k e : Nat) (kind : Int) : List ByteArray := if kind = 7 then (kidsTo l k e).map (nameAt l) else []
theorem badName_last (l : List N) (k e : Nat) (x : N) (hx : kindAt l k = x.kind) (nm : ByteArray) :
    badName x.kind (names7 l k e x.kind) nm = (decide (x.kind = 7) && ((lastKid l k e).isSome && !ltS (lastName l k e) nm)) := by
  unfold badName names7 lastKid lastName
  by_cases h7 : x.kind = 7
  · simp only [h7, if_true, hx, beq_self_eq_true, Bool.true_and, decide_true]
    unfold lastKid
    rw [hx, if_pos h7]
    cases hg : (kidsTo l k e).getLast? with
    | none =>
      rw [List.getLast?_eq_none_iff] at hg
      simp [hg]
    | some j =>
      have hne : kidsTo l k e ≠ [] := by intro h; rw [h] at hg; cases hg
      have hlen : 0 < (kidsTo l k e).length := by cases h : kidsTo l k e with | nil => exact absurd h hne | cons a t => simp
      have hj : (kidsTo l k e)[(kidsTo l k e).length - 1]? = some j := by rw [← hg, List.getLast?_eq_getElem?]
      simp [hlen, hj]
  · have : (x.kind == 7) = false := by simpa using h7
    simp [h7, this]

/-- a node behind k's own is no part of k -/
theorem no_kids {l : List N} {k e : Nat} (hO : OKS l l.length) (he : e < l.length) (hke : k < e) (hn : ¬ Anc l e k) : ∀ i, e ≤ i → i < l.length → ¬ Anc l i k := by
  intro i
  induction i with
  | zero => intro h _; omega
  | succ i ih =>
    intro h1 h2 ha
    by_cases hi : e = i + 1
    · subst hi; exact hn ha
    · obtain ⟨_, q, hq, hqi, _, hA, _⟩ := okS_parts (hO (i + 1) h2) h2 (by omega)
      have h3 := ha.step (by omega) h2 hq
      have h4 := ancF_anc hO (Nat.le_refl _) _ i q (by omega) (by have : ((i + 1 : Nat) : Int) - 1 = (i : Int) := by omega
                                                                  rw [this] at hA; exact hA)
      exact ih (by omega) (by omega) (h4.trans h3)
theorem kidsTo_same {l : List N} {k e e' : Nat} (hee : e ≤ e') (h : ∀ i, e ≤ i → i < e' → isKid l k i = false) : kidsTo l k e' = kidsTo l k e := by
  induction e' with
  | zero => obtain rfl : e = 0 := by omega
            rfl
  | succ e' ih =>
    by_cases h1 : e = e' + 1
    · rw [h1]
    · rw [kidsTo_succ, h e' (by omega) (by omega), ih (by omega) (fun i h1 h2 => h i h1 (by omega))]; simp

/-- what is read from node k on -/
structure Read (l : List N) (k : Nat) (t : T) (e : Nat) : Prop where
  lt : k < e
  le : e ≤ l.length
  tr : TR l k t
  inn : ∀ i, k < i → i < e → Anc l i k
  out : e < l.length → ¬ Anc l e k
theorem read_all (l : List N) (hO : OKS l l.length) (n : Nat) :
    (∀ k, k < l.length → 2 * (l.length - k) ≤ n → ∃ t e, pv n l k (upk l k) = some (t, e) ∧ Read l k t e) ∧
    (∀ k e x kids, l[k]? = some x → k < e → e ≤ l.length → 2 * (l.length - e) + 1 ≤ n → TRs l (kidsTo l k e) kids → (∀ i, k < i → i < e → Anc l i k) → (e < l.length → ∀ i, k < i → i < e → ¬ Anc l e i) →
      ∃ t e', pk n l k x e (names7 l k e x.kind) kids = some (t, e') ∧ Read l k t e') := by
  induction n with
  | zero => exact ⟨fun k hk h => by omega, fun _ _ _ _ _ _ _ h => by omega⟩
  | succ n ih =>
    constructor
    · intro k hk hn
      have hs : nodeOKB l[k] (upk l k) = true := by
        rw [nodeOKB_sound]
        by_cases h0 : k = 0
        · subst h0
          have := okS_top (hO 0 hk) hk
          simp [this.1, this.2.2]
        · obtain ⟨h1, q, hq, hqk, hh, _, hN⟩ := okS_parts (hO k hk) hk h0
          rw [upk_at hk h0 hq, h1]
          rw [nameOKB_at l k q _ hq] at hN
          by_cases h7 : kindAt l q = 7
          · simp [h7]
          · rw [if_neg h7] at hN; simp [h7, hN]
      obtain ⟨t, e, hp, hr⟩ := ih.2 k (k + 1) l[k] [] (List.getElem?_eq_getElem hk) (by omega) (by omega) (by omega) (by rw [kidsTo_start]; trivial) (fun i h1 h2 => by omega) (fun _ i h1 h2 => by omega)
      refine ⟨t, e, ?_, hr⟩
      rw [pv, List.getElem?_eq_getElem hk]
      simp only [hs, if_true]
      have : names7 l k (k + 1) l[k].kind = [] := by unfold names7; rw [kidsTo_start]; simp
      rw [this] at hp
      exact hp
    · intro k e x kids hx hke hel hn hT hin hD
      have hk : k < l.length := (List.getElem?_eq_some_iff.1 hx).1
      have hkx : kindAt l k = x.kind := by simp [kindAt, hx]
      by_cases he : e < l.length
      · obtain ⟨hS, q, hq, hqe, hh, hA, hN⟩ := okS_parts (hO e he) he (by omega)
        by_cases hqk : q = k
        · subst hqk
          have hbad : badName x.kind (names7 l q e x.kind) l[e].name = false := by
            rw [badName_last l q e x hkx]
            rw [nameOKB_at l e q _ hq, hkx] at hN
            by_cases h7 : x.kind = 7
            · rw [if_pos h7] at hN
              simp only [h7, decide_true, Bool.true_and]
              exact (Bool.not_eq_true' _).mp hN
            · simp [h7]
          obtain ⟨t1, e1, hp1, hr1⟩ := ih.1 e he (by omega)
          rw [upk_at he (by omega) hq, hkx] at hp1
          have hAe : Anc l e q := .up he hq hqe (.refl q)
          have hkids : kidsTo l q e1 = kidsTo l q e ++ [e] := by
            have h1 : kidsTo l q e1 = kidsTo l q (e + 1) := kidsTo_same hr1.lt fun i h1 h2 => by
              have hi := hr1.inn i (by omega) h2
              obtain ⟨_, p, hp, hpi, _⟩ := okS_parts (hO i (by have := hr1.le; omega)) (by have := hr1.le; omega) (by omega)
              have := (hi.step (by omega) (by have := hr1.le; omega) hp).le
              exact isKid_false (by have := hr1.le; omega) (by rw [hp]; omega)
            rw [h1, kidsTo_succ, isKid_true he hqe hq]; simp
          obtain ⟨t, e', hp, hr⟩ := ih.2 q e1 x (kids ++ [t1]) hx (by have := hr1.lt; omega) hr1.le (by have := hr1.lt; omega) (by rw [hkids]; exact hT.append ⟨hr1.tr, trivial⟩)
            (fun i h1 h2 => by
              by_cases hie : i < e
              · exact hin i h1 hie
              · by_cases hie2 : i = e
                · subst hie2; exact hAe
                · exact (hr1.inn i (by omega) h2).trans hAe)
            (fun he1 i h1 h2 ha => by
              have hne := hr1.out he1
              by_cases hie : e ≤ i
              · by_cases hie2 : i = e
                · subst hie2; exact hne ha
                · exact hne (ha.trans (hr1.inn i (by omega) h2))
              · obtain ⟨_, p, hp, hpe, _, hpA, _⟩ := okS_parts (hO e1 he1) he1 (by omega)
                have hl1 := hr1.lt
                have hpA' := ancF_anc hO (Nat.le_refl _) _ (e1 - 1) p (by omega) (by
                  rw [show ((e1 - 1 : Nat) : Int) = (e1 : Int) - 1 by omega]; exact hpA)
                have heA : Anc l (e1 - 1) e := by
                  by_cases h3 : e1 - 1 = e
                  · rw [h3]; exact .refl e
                  · exact hr1.inn (e1 - 1) (by omega) (by omega)
                by_cases hpe2 : e ≤ p
                · exact hne (.up he1 hp hpe (hpA'.join heA hpe2))
                · have h4 : Anc l e p := heA.join hpA' (by omega)
                  exact hD he i h1 (by omega) (h4.trans (ha.step (by omega) he1 hp)))
          refine ⟨t, e', ?_, hr⟩
          rw [pk, List.getElem?_eq_getElem he]
          have hhx : holdsB x.kind = true := by rw [← hkx]; exact hh
          simp only [hhx, hq, beq_self_eq_true, Bool.and_self, if_true, hbad, if_false, hp1, Bool.false_eq_true]
          have hnm : (if x.kind = 7 then names7 l q e x.kind ++ [l[e].name] else names7 l q e x.kind) = names7 l q e1 x.kind := by
            unfold names7
            rw [hkids]
            by_cases h7 : x.kind = 7
            · simp [h7, nameAt_get he]
            · simp [h7]
          rw [hnm]; exact hp
        · have hnA : ¬ Anc l e k := fun ha => by
            have h1 := (ha.step (by omega) he hq).le
            exact hD he q (by omega) hqe (.up he hq hqe (.refl q))
          refine ⟨.mk x.kind x.num x.text (names7 l k e x.kind) kids, e, ?_, ⟨hke, hel, ?_, hin, fun _ => hnA⟩⟩
          · rw [pk, List.getElem?_eq_getElem he]
            have : (l[e].up == (k : Int)) = false := by rw [hq]; simp; omega
            simp only [this, Bool.and_false, Bool.false_eq_true, if_false]
          · have hsame : kidsTo l k l.length = kidsTo l k e := kidsTo_same hel fun i h1 h2 => by
              have hni := no_kids hO he hke hnA i h1 h2
              obtain ⟨_, p, hp, hpi, _⟩ := okS_parts (hO i h2) h2 (by omega)
              exact isKid_false h2 (fun hup => hni (.up h2 hup (by have : (p : Int) = k := hp.symm.trans hup; omega) (.refl k)))
            exact ⟨x, hx, rfl, rfl, rfl, by rw [hsame]; rfl, by rw [hsame]; exact hT⟩
      · obtain rfl : e = l.length := by omega
        refine ⟨.mk x.kind x.num x.text (names7 l k l.length x.kind) kids, l.length, ?_, ⟨hke, Nat.le_refl _, ⟨x, hx, rfl, rfl, rfl, rfl, hT⟩, hin, fun h => by omega⟩⟩
        rw [pk, List.getElem?_eq_none (Nat.le_refl _)]

theorem anc_zero {l : List N} (hO : OKS l l.length) : ∀ i, i < l.length → Anc l i 0 := by
  intro i
  induction i using Nat.strongRecOn with
  | _ i ih =>
    intro hi
    by_cases h0 : i = 0
    · subst h0; exact .refl 0
    · obtain ⟨_, q, hq, hqi, _⟩ := okS_parts (hO i hi) hi h0
      exact .up hi hq hqi (ih q hqi (by omega))
theorem depF_eqS {l : List N} (hO : OKS l l.length) (n : Nat) : ∀ (m k : Nat), k < l.length → k + 1 ≤ n → k + 1 ≤ m → depF n l k = depF m l k := by
  induction n with
  | zero => intro m k _ hn; omega
  | succ n ih =>
    intro m k hk hn hm
    obtain ⟨m', rfl⟩ : ∃ m', m = m' + 1 := ⟨m - 1, by omega⟩
    simp only [depF, List.getElem?_eq_getElem hk]
    by_cases h0 : k = 0
    · simp [h0]
    · obtain ⟨_, q, hq, hqk, _⟩ := okS_parts (hO k hk) hk h0
      simp only [if_neg h0, hq, Int.toNat_natCast]
      rw [ih m' q (by omega) (by omega) (by omega)]
def hb (l : List N) (k : Nat) : Int := if holdsB (kindAt l k) then 1 else 0
theorem dep_stepS {l : List N} (hO : OKS l l.length) {i q : Nat} (hl : i < l.length) (h0 : i ≠ 0) (hq : l[i].up = (q : Int)) (hqi : q < i) : dep l i = hb l i + dep l q := by
  unfold dep hb
  rw [depF, List.getElem?_eq_getElem hl, kindAt_get hl]
  simp only [if_neg h0, hq, Int.toNat_natCast]
  rw [depF_eqS hO i (q + 1) q (by omega) (by omega) (Nat.le_refl _)]
theorem TR.kind_at {l : List N} {k : Nat} {kind num : Int} {text : ByteArray} {names : List ByteArray} {kids : List T} (h : TR l k (.mk kind num text names kids)) : kindAt l k = kind ∧ k < l.length := by
  obtain ⟨x, hx, h1, _⟩ := h
  exact ⟨by simp [kindAt, hx, h1], (List.getElem?_eq_some_iff.1 hx).1⟩
theorem hb_deep (kind : Int) : (if holdsB kind then (1 : Int) else 0) = if kind = 6 ∨ kind = 7 then 1 else 0 := by
  unfold holdsB
  by_cases h : kind = 6 ∨ kind = 7
  · simp [h]
  · simp [h]
mutual
theorem deep_le {l : List N} (hO : OKS l l.length) (h6 : ∀ j, j < l.length → dep l j ≤ 6) : ∀ {t : T} {k : Nat}, TR l k t → dep l k - hb l k + t.deep ≤ 6
  | .mk kind num text names kids, k, h => by
    obtain ⟨hk, hl⟩ := h.kind_at
    obtain ⟨x, hx, h1, h2, h3, h4, h5⟩ := h
    have := deeps_le hO h6 h5 (fun j hj => kidsTo_mem hj) (h6 k hl)
    simp only [T.deep, hb, hk, hb_deep]
    omega
theorem deeps_le {l : List N} (hO : OKS l l.length) (h6 : ∀ j, j < l.length → dep l j ≤ 6) : ∀ {ts : List T} {js : List Nat} {k : Nat}, TRs l js ts → (∀ j ∈ js, k < j ∧ j < l.length ∧ ∃ h : j < l.length, l[j].up = (k : Int)) → dep l k ≤ 6 → dep l k + T.deeps ts ≤ 6
  | [], [], k, _, _, h => by simpa [T.deeps] using h
  | t :: ts, j :: js, k, h, hm, hk => by
    have h1 := deep_le hO h6 h.1
    have h2 := deeps_le hO h6 h.2 (fun j hj => hm j (List.mem_cons_of_mem _ hj)) hk
    obtain ⟨hkj, hjl, _, hju⟩ := hm j (List.mem_cons_self ..)
    have h3 := dep_stepS hO hjl (by omega) hju hkj
    simp only [T.deeps]
    omega
  | [], _ :: _, _, h, _, _ => h.elim
  | _ :: _, [], _, h, _, _ => h.elim
end
theorem anc_kid {l : List N} {j k : Nat} (h : Anc l j k) (hne : j ≠ k) : ∃ m, ∃ hm : m < l.length, l[m].up = (k : Int) ∧ k < m ∧ Anc l j m := by
  induction h with
  | refl j => exact absurd rfl hne
  | @up j p b hj hu hp hpb ih =>
    by_cases hpk : p = b
    · subst hpk; exact ⟨j, hj, hu, hp, .refl j⟩
    · obtain ⟨m, hm, h1, h2, h3⟩ := ih hpk
      exact ⟨m, hm, h1, h2, .up hj hu hp h3⟩
theorem TRs.mem {l : List N} : ∀ {ts : List T} {js : List Nat} {j : Nat}, TRs l js ts → j ∈ js → ∃ t ∈ ts, TR l j t
  | [], [], _, _, h => by cases h
  | t :: ts, a :: js, j, h, hj => by
    cases hj with
    | head => exact ⟨t, List.mem_cons_self .., h.1⟩
    | tail _ hj => obtain ⟨u, hu, hr⟩ := h.2.mem hj; exact ⟨u, List.mem_cons_of_mem _ hu, hr⟩
  | [], _ :: _, _, h, _ => h.elim
  | _ :: _, [], _, h, _ => h.elim
theorem T.deeps_mem {t : T} {ts : List T} (h : t ∈ ts) : t.deep ≤ T.deeps ts := by
  induction ts with
  | nil => cases h
  | cons a ts ih =>
    simp only [T.deeps]
    cases h with
    | head => omega
    | tail _ h => have := ih h; omega
theorem dep_le_deep {l : List N} (hO : OKS l l.length) (n : Nat) : ∀ {t : T} {k j : Nat}, t.cnt ≤ n → TR l k t → Anc l j k → dep l j ≤ dep l k - hb l k + t.deep := by
  induction n with
  | zero => intro t k j hn; have := t.cnt_pos; omega
  | succ n ih =>
    rintro ⟨kind, num, text, names, kids⟩ k j hn h ha
    obtain ⟨hk, hl⟩ := h.kind_at
    obtain ⟨x, hx, h1, h2, h3, h4, h5⟩ := h
    have hd := T.deeps_nn kids
    by_cases hjk : j = k
    · subst hjk
      simp only [T.deep, hb, hk, hb_deep]; omega
    · obtain ⟨m, hm, hmu, hkm, hjm⟩ := anc_kid ha hjk
      have hmem : m ∈ kidsTo l k l.length := by
        unfold kidsTo
        rw [List.mem_filter]
        exact ⟨by simpa using hm, isKid_true hm hkm hmu⟩
      obtain ⟨t, ht, hr⟩ := h5.mem hmem
      have hc := T.cnts_mem ht
      have h6 := ih (by simp only [T.cnt] at hn; omega) hr hjm
      have h7 := dep_stepS hO hm (by omega) hmu hkm
      have h8 := T.deeps_mem ht
      simp only [T.deep, hb, hk, hb_deep]
      omega
mutual
theorem TR.kok {l : List N} (hO : OKS l l.length) : ∀ {t : T} {k : Nat}, TR l k t → t.kok
  | .mk kind num text names kids, k, h => by
    obtain ⟨hk, hl⟩ := h.kind_at
    obtain ⟨x, hx, h1, h2, h3, h4, h5⟩ := h
    refine ⟨?_, TRs.kok hO h5⟩
    have hs : soundB l[k] = true := by
      by_cases h0 : k = 0
      · subst h0; exact (okS_top (hO 0 hl) hl).1
      · exact (okS_parts (hO k hl) hl h0).1
    rw [kindAt_get hl] at hk
    simp only [soundB, Bool.and_eq_true] at hs
    rw [← hk]; exact hs.1.1.1.1.1
theorem TRs.kok {l : List N} (hO : OKS l l.length) : ∀ {ts : List T} {js : List Nat}, TRs l js ts → T.koks ts
  | [], [], _ => trivial
  | _ :: _, _ :: _, h => ⟨h.1.kok hO, h.2.kok hO⟩
  | [], _ :: _, _ => trivial
  | _ :: _, [], h => h.elim
end
end Go.Proofs.YtbldchemgkfdcaaGreatDoor
