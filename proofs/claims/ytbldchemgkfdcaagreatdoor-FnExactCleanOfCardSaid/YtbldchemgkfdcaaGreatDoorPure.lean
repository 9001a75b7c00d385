/- Plain words: nodes, trees, their texts, depths and counts; no program. -/
import Derived.Lib.ItoaLen
import GoSem.Op.String
namespace Go.Proofs.YtbldchemgkfdcaaGreatDoor

/-- one node of a value -/
structure N where
  kind : Int
  num : Int
  text : ByteArray
  name : ByteArray
  up : Int

/-- a value as a tree -/
inductive T where
  | mk (kind num : Int) (text : ByteArray) (names : List ByteArray) (kids : List T)
def T.kind : T → Int | .mk k _ _ _ _ => k
def T.num : T → Int | .mk _ k _ _ _ => k
def T.text : T → ByteArray | .mk _ _ k _ _ => k
def T.names : T → List ByteArray | .mk _ _ _ k _ => k
def T.kids : T → List T | .mk _ _ _ _ k => k

mutual
def T.cnt : T → Nat
  | .mk _ _ _ _ kids => T.cnts kids + 1
def T.cnts : List T → Nat
  | [] => 0
  | t :: ts => t.cnt + T.cnts ts
end
theorem T.cnt_pos (t : T) : 0 < t.cnt := by cases t; simp [T.cnt]
theorem T.cnts_mem {t : T} {l : List T} (h : t ∈ l) : t.cnt ≤ T.cnts l := by
  induction l with
  | nil => cases h
  | cons a l ih => cases h with
    | head => simp [T.cnts]
    | tail _ h => have := ih h; simp [T.cnts]; omega
theorem T.cnts_len (l : List T) : l.length ≤ T.cnts l := by
  induction l with
  | nil => simp
  | cons a l ih => have := a.cnt_pos; simp [T.cnts]; omega
theorem T.cnts_append (a b : List T) : T.cnts (a ++ b) = T.cnts a + T.cnts b := by
  induction a with
  | nil => simp [T.cnts]
  | cons t a ih => simp [T.cnts, ih]; omega
theorem T.cnts_take_succ (l : List T) (k : Nat) (h : k < l.length) : T.cnts (l.take (k + 1)) = T.cnts (l.take k) + l[k].cnt := by
  rw [List.take_succ_eq_append_getElem h, T.cnts_append]; simp [T.cnts]
theorem T.cnts_take_le (l : List T) (k : Nat) : T.cnts (l.take k) ≤ T.cnts l := by
  have := T.cnts_append (l.take k) (l.drop k); rw [List.take_append_drop] at this; omega

/-- the name of kid i -/
def kname (kind : Int) (names : List ByteArray) (i : Nat) : ByteArray := if kind = 7 then names.getD i ⟨#[]⟩ else ⟨#[]⟩
mutual
def T.flat : T → ByteArray → Int → Nat → List N
  | .mk kind num text names kids, name, up, at_ => ⟨kind, num, text, name, up⟩ :: T.flats kind names kids 0 at_ (at_ + 1)
/-- kids i, i + 1, .. of node 'self', the first at number at_ -/
def T.flats (kind : Int) (names : List ByteArray) : List T → Nat → Nat → Nat → List N
  | [], _, _, _ => []
  | t :: ts, i, self, at_ => T.flat t (kname kind names i) self at_ ++ T.flats kind names ts (i + 1) self (at_ + t.cnt)
end
-- a map has a name for each part
mutual
def T.wn : T → Prop
  | .mk kind _ _ names kids => ((kind = 7 → names.length = kids.length) ∧ (kind ≠ 7 → names = [])) ∧ T.wns kids
def T.wns : List T → Prop
  | [] => True
  | t :: ts => t.wn ∧ T.wns ts
end
theorem T.wns_mem {l : List T} (h : T.wns l) : ∀ k (hk : k < l.length), l[k].wn := by
  induction l with
  | nil => intro k hk; simp at hk
  | cons a l ih => intro k hk; cases k with
    | zero => exact h.1
    | succ k => exact ih h.2 k (by simpa using hk)
theorem T.flats_take (kind : Int) (names : List ByteArray) : ∀ (l : List T) (i self at_ k : Nat) (h : k < l.length),
    T.flats kind names (l.take (k + 1)) i self at_ = T.flats kind names (l.take k) i self at_ ++ T.flat l[k] (kname kind names (i + k)) self (at_ + T.cnts (l.take k))
  | [], _, _, _, _, h => by simp at h
  | t :: ts, i, self, at_, 0, _ => by simp [T.flats, T.cnts]
  | t :: ts, i, self, at_, k + 1, h => by
    have := T.flats_take kind names ts (i + 1) self (at_ + t.cnt) k (by simpa using h)
    simp only [List.take_succ_cons, T.flats, T.cnts, List.getElem_cons_succ, this, List.append_assoc]
    rw [show i + 1 + k = i + (k + 1) by omega, show at_ + t.cnt + T.cnts (ts.take k) = at_ + (t.cnt + T.cnts (ts.take k)) by omega]

mutual
/-- how many lists and maps lie within one another at most -/
def T.deep : T → Int
  | .mk kind _ _ _ kids => T.deeps kids + (if kind = 6 ∨ kind = 7 then 1 else 0)
def T.deeps : List T → Int
  | [] => 0
  | t :: ts => max t.deep (T.deeps ts)
end
theorem T.deeps_nn (l : List T) : 0 ≤ T.deeps l := by
  induction l with
  | nil => simp [T.deeps]
  | cons a l ih => simp [T.deeps]; omega
theorem T.deep_nn : (t : T) → 0 ≤ t.deep
  | .mk k _ _ _ l => by have := T.deeps_nn l; simp only [T.deep]; split <;> omega
theorem T.deeps_take (l : List T) (k : Nat) (h : k < l.length) : T.deeps (l.take (k+1)) = max (T.deeps (l.take k)) (l[k]).deep := by
  induction l generalizing k with
  | nil => simp at h
  | cons a l ih =>
    cases k with
    | zero => have := a.deep_nn; simp [T.deeps]; omega
    | succ k => simp only [List.length_cons, Nat.add_lt_add_iff_right] at h; simp [T.deeps, ih k h, Int.max_assoc]
mutual
theorem T.deep_le_cnt : (t : T) → t.deep ≤ t.cnt
  | .mk k _ _ _ l => by have := T.deeps_le_cnt l; simp only [T.deep, T.cnt]; split <;> omega
theorem T.deeps_le_cnt : (l : List T) → T.deeps l ≤ T.cnts l
  | [] => by simp [T.deeps, T.cnts]
  | t :: l => by have := T.deep_le_cnt t; have := T.deeps_le_cnt l; simp only [T.deeps, T.cnts]; omega
end

/-- at most 24 bytes, each 32..126 -/
def okStr (s : ByteArray) : Bool := decide (s.size ≤ 24) && s.data.toList.all (fun b => decide (32 ≤ b.toNat) && decide (b.toNat ≤ 126))
def okNum (n : Int) : Bool := decide (-1000000000 ≤ n) && decide (n ≤ 1000000000)
mutual
def T.bounded : T → Bool
  | .mk _ num text names kids => okNum num && okStr text && names.all okStr && T.boundeds kids
def T.boundeds : List T → Bool
  | [] => true
  | t :: ts => t.bounded && T.boundeds ts
end
theorem T.boundeds_all (l : List T) : T.boundeds l = l.all T.bounded := by
  induction l with
  | nil => rfl
  | cons a l ih => simp [T.boundeds, ih]

theorem T.boundeds_take {l : List T} (h : T.boundeds l = true) (k : Nat) : T.boundeds (l.take k) = true := by
  rw [T.boundeds_all] at h ⊢
  exact List.all_eq_true.2 fun x hx => List.all_eq_true.1 h x (List.mem_of_mem_take hx)
theorem T.boundeds_get {l : List T} (h : T.boundeds l = true) (k : Nat) (hk : k < l.length) : l[k].bounded = true := by
  rw [T.boundeds_all] at h
  exact List.all_eq_true.1 h _ (List.getElem_mem hk)

/-- a stroke ahead of each mark and stroke -/
def esc (l : List UInt8) : List UInt8 := l.flatMap fun b => if b = 34 then [92, 34] else if b = 92 then [92, 92] else [b]
def quote (s : ByteArray) : List UInt8 := 34 :: esc s.data.toList ++ [34]
mutual
def T.txt : T → List UInt8
  | .mk kind num text names kids =>
    if kind = 1 then [110, 117, 108, 108] else if kind = 2 then [102, 97, 108, 115, 101] else if kind = 3 then [116, 114, 117, 101]
    else if kind = 4 then Go.Lib.itoa num else if kind = 5 then quote text
    else if kind = 6 then 91 :: T.txts 6 names kids 0 ++ [93] else if kind = 7 then 123 :: T.txts 7 names kids 0 ++ [125] else []
def T.txts (kind : Int) (names : List ByteArray) : List T → Nat → List UInt8
  | [], _ => []
  | t :: ts, i => (if 0 < i then [44] else []) ++ (if kind = 7 then quote (kname kind names i) ++ [58] else []) ++ t.txt ++ T.txts kind names ts (i + 1)
end
theorem T.txts_take (kind : Int) (names : List ByteArray) : ∀ (l : List T) (i k : Nat) (h : k < l.length),
    T.txts kind names (l.take (k + 1)) i = T.txts kind names (l.take k) i ++ ((if 0 < i + k then [44] else []) ++ (if kind = 7 then quote (kname kind names (i + k)) ++ [58] else []) ++ (l[k]).txt)
  | [], _, _, h => by simp at h
  | t :: ts, i, 0, _ => by simp [T.txts]
  | t :: ts, i, k + 1, h => by
    have := T.txts_take kind names ts (i + 1) k (by simpa using h)
    simp only [List.take_succ_cons, T.txts, List.getElem_cons_succ, this, List.append_assoc]
    rw [show i + 1 + k = i + (k + 1) by omega]
theorem T.txts_pre (kind : Int) (names : List ByteArray) : ∀ (l : List T) (i k : Nat), (T.txts kind names (l.take k) i).length ≤ (T.txts kind names l i).length
  | [], _, k => by simp [T.txts]
  | t :: ts, i, 0 => by simp [T.txts]
  | t :: ts, i, k + 1 => by
    have := T.txts_pre kind names ts (i + 1) k
    simp only [List.take_succ_cons, T.txts, List.length_append]
    omega
/-- texts by bytes -/
def ltS (a b : ByteArray) : Bool := Go.Op.bytesLess a.toList b.toList
def isEmp (s : ByteArray) : Bool := s.toList.isEmpty
def within (a b c : Int) : Bool := decide (b ≤ a) && decide (a ≤ c)
def holdsB (a : Int) : Bool := decide (a = 6 ∨ a = 7)
def nodeOKB (x : N) (up : Int) : Bool :=
  within x.kind 1 7 && !(x.kind != 4 && x.num != 0) && !(x.kind != 5 && !isEmp x.text) && (if up = 7 then okStr x.name else isEmp x.name) && (okNum x.num && okStr x.text)
def badName (kind : Int) (names : List ByteArray) (name : ByteArray) : Bool := kind == 7 && decide (0 < names.length) && !ltS (names.getD (names.length - 1) ⟨#[]⟩) name
mutual
/-- impl.valFrom -/
def pv : Nat → List N → Nat → Int → Option (T × Nat)
  | 0, _, _, _ => none
  | n + 1, l, k, up => match l[k]? with
    | none => none
    | some x => if nodeOKB x up then pk n l k x (k + 1) [] [] else none
/-- its loop, from node e on -/
def pk : Nat → List N → Nat → N → Nat → List ByteArray → List T → Option (T × Nat)
  | 0, _, _, _, _, _, _ => none
  | n + 1, l, k, x, e, names, kids => match l[e]? with
    | none => some (.mk x.kind x.num x.text names kids, e)
    | some y => if holdsB x.kind && y.up == (k : Int) then
        if badName x.kind names y.name then none
        else match pv n l e x.kind with
          | none => none
          | some (t, e') => pk n l k x e' (if x.kind = 7 then names ++ [y.name] else names) (kids ++ [t])
      else some (.mk x.kind x.num x.text names kids, e)
end
theorem esc_len (l : List UInt8) : (esc l).length ≤ 2 * l.length := by
  unfold esc
  induction l with
  | nil => simp
  | cons a l ih => simp only [List.flatMap_cons, List.length_append, List.length_cons]; split <;> (try split) <;> simp only [List.length_cons, List.length_nil] <;> omega
theorem quote_len (s : ByteArray) : (quote s).length ≤ 2 * s.size + 2 := by
  have := esc_len s.data.toList
  simp only [quote, List.length_append, List.length_cons, List.length_nil]
  simp at this
  have e : s.size = s.data.size := rfl
  omega
theorem okStr_size {s : ByteArray} (h : okStr s = true) : s.size ≤ 24 := by
  simp only [okStr, Bool.and_eq_true, decide_eq_true_eq] at h; exact h.1

theorem kname_size {names : List ByteArray} (h : names.all okStr = true) (kind : Int) (i : Nat) : (kname kind names i).size ≤ 24 := by
  unfold kname
  split
  · by_cases hi : i < names.length
    · have := List.all_eq_true.1 h _ (List.getElem_mem hi)
      simpa [hi] using okStr_size this
    · simp [List.getElem?_eq_none (Nat.le_of_not_lt hi)]
      decide
  · decide
mutual
theorem T.txt_len : (t : T) → t.bounded = true → t.txt.length + 60 ≤ 130 * t.cnt
  | .mk kind num text names kids, h => by
    simp only [T.bounded, Bool.and_eq_true] at h
    obtain ⟨⟨⟨h1, h2⟩, h3⟩, h4⟩ := h
    have hq := quote_len text
    have ht := okStr_size h2
    have hi := Go.Lib.itoa_length_le num (by simp only [okNum, Bool.and_eq_true, decide_eq_true_eq] at h1; omega) (by simp only [okNum, Bool.and_eq_true, decide_eq_true_eq] at h1; omega)
    have hk6 := T.txts_len kids names 6 0 h3 h4
    have hk7 := T.txts_len kids names 7 0 h3 h4
    simp only [T.txt, T.cnt]
    repeat' split
    all_goals (try simp only [List.length_cons, List.length_append, List.length_nil])
    all_goals omega
theorem T.txts_len : (l : List T) → (names : List ByteArray) → (kind : Int) → (i : Nat) → names.all okStr = true → T.boundeds l = true → (T.txts kind names l i).length ≤ 130 * T.cnts l
  | [], _, _, _, _, _ => by simp [T.txts]
  | t :: ts, names, kind, i, hn, h => by
    simp only [T.boundeds, Bool.and_eq_true] at h
    have h1 := T.txt_len t h.1
    have h2 := T.txts_len ts names kind (i + 1) hn h.2
    have hq := quote_len (kname kind names i)
    have hs := kname_size hn kind i
    simp only [T.txts, T.cnts, List.length_append]
    have a1 : (if 0 < i then [(44 : UInt8)] else []).length ≤ 1 := by split <;> simp
    have a2 : (if kind = 7 then quote (kname kind names i) ++ [58] else []).length ≤ 51 := by split <;> simp <;> omega
    omega
end

theorem nodeOKB_parts {x : N} {up : Int} (h : nodeOKB x up = true) : okNum x.num = true ∧ okStr x.text = true ∧ (up = 7 → okStr x.name = true) ∧ (up ≠ 7 → isEmp x.name = true) ∧ within x.kind 1 7 = true ∧ (x.kind ≠ 4 → x.num = 0) ∧ (x.kind ≠ 5 → isEmp x.text = true) := by
  simp only [nodeOKB, Bool.and_eq_true] at h
  obtain ⟨⟨⟨⟨h1, h2⟩, h3⟩, h4⟩, h5, h6⟩ := h
  refine ⟨h5, h6, fun e => by rw [if_pos e] at h4; exact h4, fun e => by rw [if_neg e] at h4; exact h4, h1, fun e => ?_, fun e => ?_⟩
  · simp at h2; exact h2.resolve_left e
  · simp at h3; exact h3.resolve_left e
theorem T.wns_append {a b : List T} (ha : T.wns a) (hb : T.wns b) : T.wns (a ++ b) := by
  induction a with
  | nil => exact hb
  | cons t a ih => exact ⟨ha.1, ih ha.2⟩
theorem T.boundeds_append {a b : List T} (ha : T.boundeds a = true) (hb : T.boundeds b = true) : T.boundeds (a ++ b) = true := by
  rw [T.boundeds_all] at *; simp [ha, hb]
/-- what valFrom builds is bounded, its names fit, and it has as many nodes as were read -/
theorem pv_ok (n : Nat) : (∀ l k up t e, pv n l k up = some (t, e) → t.wn ∧ t.bounded = true ∧ k + t.cnt = e) ∧
    (∀ l k x e names kids t e', okNum x.num = true → okStr x.text = true → ((x.kind = 7 → names.length = kids.length) ∧ (x.kind ≠ 7 → names = [])) → T.wns kids → names.all okStr = true → T.boundeds kids = true → k + 1 + T.cnts kids = e →
      pk n l k x e names kids = some (t, e') → t.wn ∧ t.bounded = true ∧ k + t.cnt = e') := by
  induction n with
  | zero => exact ⟨fun _ _ _ _ _ h => by simp [pv] at h, fun _ _ _ _ _ _ _ _ _ _ _ _ _ _ _ h => by simp [pk] at h⟩
  | succ n ih =>
    constructor
    · intro l k up t e h
      simp only [pv] at h
      split at h
      · cases h
      · rename_i x hx
        split at h
        · rename_i hok
          have hp := nodeOKB_parts hok
          exact ih.2 l k x (k + 1) [] [] t e hp.1 hp.2.1 ⟨fun _ => rfl, fun _ => rfl⟩ trivial rfl rfl rfl h
        · cases h
    · intro l k x e names kids t e' h1 h2 h3 h4 h5 h6 h7 h
      have fin : ∀ e'', some (T.mk x.kind x.num x.text names kids, e'') = some (t, e') → e'' = e → t.wn ∧ t.bounded = true ∧ k + t.cnt = e' := by
        intro e'' hh he
        simp only [Option.some.injEq, Prod.mk.injEq] at hh
        obtain ⟨rfl, rfl⟩ := hh
        exact ⟨⟨h3, h4⟩, by simp [T.bounded, h1, h2, h6]; exact fun s hs => List.all_eq_true.1 h5 s hs, by simp only [T.cnt]; omega⟩
      simp only [pk] at h
      split at h
      · exact fin _ h rfl
      · rename_i y hy
        split at h
        · split at h
          · cases h
          · split at h
            · cases h
            · rename_i t1 e1 hv
              have a := ih.1 l e x.kind t1 e1 hv
              refine ih.2 l k x e1 _ _ t e' h1 h2 ?_ (T.wns_append h4 (show T.wns [t1] from ⟨a.1, trivial⟩)) ?_ (T.boundeds_append h6 (by simp [T.boundeds, a.2.1])) (by rw [T.cnts_append]; simp only [T.cnts]; omega) h
              · refine ⟨fun e7 => ?_, fun e7 => ?_⟩
                · rw [if_pos e7]; simp [h3.1 e7]
                · rw [if_neg e7]; exact h3.2 e7
              · by_cases e7 : x.kind = 7
                · rw [if_pos e7]
                  have hok : okStr y.name = true := by
                    cases n with
                    | zero => simp [pv] at hv
                    | succ n =>
                      simp only [pv, hy] at hv
                      split at hv
                      · rename_i hok; exact (nodeOKB_parts hok).2.2.1 e7
                      · cases hv
                  rw [List.all_append, h5]; simp [hok]
                · rw [if_neg e7]; exact h5
        · exact fin _ h rfl
-- the sizes of all texts, so that loops over their bytes do not wrap
mutual
def T.sized : T → Prop
  | .mk _ _ text names kids => text.size ≤ 1099511627776 ∧ names.length ≤ 1099511627776 ∧ (∀ s ∈ names, s.size ≤ 1099511627776) ∧ T.sizeds kids
def T.sizeds : List T → Prop
  | [] => True
  | t :: ts => t.sized ∧ T.sizeds ts
end
theorem T.sizeds_mem {l : List T} (h : T.sizeds l) : ∀ t ∈ l, t.sized := by
  induction l with
  | nil => intro t ht; cases ht
  | cons a l ih => intro t ht; cases ht with
    | head => exact h.1
    | tail _ ht => exact ih h.2 t ht
mutual
theorem T.sized_of : (t : T) → t.wn → t.bounded = true → t.cnt ≤ 1099511627776 → t.sized
  | .mk kind num text names kids, hw, hb, hc => by
    simp only [T.bounded, Bool.and_eq_true] at hb
    simp only [T.cnt] at hc
    have hl := T.cnts_len kids
    refine ⟨by have := okStr_size hb.1.1.2; omega, ?_, fun s hs => by have := okStr_size (List.all_eq_true.1 hb.1.2 s hs); omega, T.sizeds_of kids hw.2 hb.2 (by omega)⟩
    by_cases h7 : kind = 7
    · rw [hw.1.1 h7]; omega
    · rw [hw.1.2 h7]; simp
theorem T.sizeds_of : (l : List T) → T.wns l → T.boundeds l = true → T.cnts l ≤ 1099511627776 → T.sizeds l
  | [], _, _, _ => trivial
  | t :: ts, hw, hb, hc => by
    simp only [T.boundeds, Bool.and_eq_true] at hb
    simp only [T.cnts] at hc
    exact ⟨T.sized_of t hw.1 hb.1 (by omega), T.sizeds_of ts hw.2 hb.2 (by omega)⟩
end
def T.good (t : T) : Bool := t.bounded && decide (t.cnt ≤ 80) && decide (t.deep ≤ 6) && decide (t.txt.length ≤ 300)
/-- impl.valOf -/
def valOf (l : List N) : Option T :=
  if within l.length 1 80 && (match l[0]? with | some x => x.up == -1 | none => false) then
    match pv (2 * l.length) l 0 0 with
    | none => none
    | some (t, e) => if e == l.length && t.good then some t else none
  else none
theorem valOf_no_len (l : List N) (h : within l.length 1 80 = false) : valOf l = none := by simp [valOf, h]
theorem valOf_no_up (l : List N) (hl : 0 < l.length) (h : (l[0].up == -1) = false) : valOf l = none := by
  have e : l[0]? = some l[0] := List.getElem?_eq_getElem hl
  unfold valOf; rw [e]; simp only [h, Bool.and_false]; rfl
theorem valOf_pv (l : List N) (hl : 0 < l.length) (hw : within l.length 1 80 = true) (h : (l[0].up == -1) = true) : valOf l = match pv (2 * l.length) l 0 0 with
    | none => none
    | some (t, e) => if e == l.length && t.good then some t else none := by
  have e : l[0]? = some l[0] := List.getElem?_eq_getElem hl
  unfold valOf; rw [e]; simp only [h, hw, Bool.and_true, if_true]
end Go.Proofs.YtbldchemgkfdcaaGreatDoor
