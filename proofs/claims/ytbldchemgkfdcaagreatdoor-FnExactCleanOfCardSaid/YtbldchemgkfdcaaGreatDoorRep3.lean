/- (*byteStringReplacer).Replace. -/
import Derived.Test.YtbldchemgkfdcaaGreatDoorRep2
import Derived.Laws.CopyOwn
import Derived.Deep.DeepCutAuto
import Derived.Deep.QuietTactic
import Derived.BigQuiet
namespace Go.Proofs.YtbldchemgkfdcaaGreatDoor
open Go.RowKit

theorem run_make_any' {P : Program} (t e : TypeId) (z : Value) (size bytes : Nat) (ht : P.underlying t = some (.slice e)) (hinfo : (P.info? e).map (fun i => (i.zero, i.size, i.bytes)) = some (some z, size, bytes))
    (kl kc : IntKind) (n : Nat) (hbytes : bytes * n ≤ 281474976710656) (h63 : n ≤ 9223372036854775807) (w : World) :
    (Instr.makeSlice t (.int kl (n : Int)) (.int kc (n : Int))).run P w = .ok (.slice (some ⟨w.heap.size, 0, none⟩) n n) (w.alloc (.cells (madeCells z.cells (n * size)) e)) := by
  obtain ⟨i, hi, hzz⟩ := Option.map_eq_some_iff.1 hinfo
  simp only [Prod.mk.injEq] at hzz
  obtain ⟨hz, hs, hb⟩ := hzz
  have hb' : (i.bytes : Int) * (n : Int) ≤ 281474976710656 := by
    rw [hb]
    have h : ((bytes * n : Nat) : Int) ≤ 281474976710656 := by omega
    rwa [Int.natCast_mul] at h
  have hr := run_make (P := P) w t e i z ht hi hz kl kc n n (by omega) (Int.le_refl _) hb' (by omega)
  simp only [Int.toNat_natCast, hs] at hr
  exact hr
theorem made1 (z : Value) (n : Nat) : madeCells #[z] n = Array.replicate n z := by
  apply Array.ext_getElem?
  intro i
  by_cases h : i < n
  · simp [madeCells, h, Nat.mod_one]
  · simp [madeCells, h]
theorem byteSz : (Tryz.prog.info? 5).map (·.size) = some 1 := by kernel_rfl
theorem byts_one (l : List UInt8) : ∀ u ∈ byts l, u.oneCell' = true := by
  intro u hu
  simp only [byts, List.mem_map] at hu
  obtain ⟨b, _, rfl⟩ := hu; rfl
theorem splice_take {α : Type} (L : List α) (J : Nat) (cs : List α) (h : J ≤ L.length) : (splice L J cs).take (J + cs.length) = L.take J ++ cs := by
  unfold splice
  have e : (L.take J).length = J := by simp; omega
  rw [List.take_append, e, List.take_of_length_le (by rw [e]; omega), Nat.add_sub_cancel_left, List.take_append, List.take_length, Nat.sub_self]
  simp
theorem List.take_set_succ' {α : Type} (L : List α) (J : Nat) (x : α) (h : J < L.length) : (L.set J x).take (J + 1) = L.take J ++ [x] := by
  rw [List.take_succ_eq_append_getElem (by simpa using h), List.take_set]
  simp
  exact List.set_eq_of_length_le (by simp; omega)
theorem infoByte' : (Tryz.prog.info? 5).map (fun i => (i.zero, i.size, i.bytes)) = some (some (.int .u8 0), 1, 1) := by kernel_rfl
theorem below_drewN {B : Nat} {w0 w : World} (h : Below B w0 w) (n : Nat) : Below B w0 (w.drewN n) := ⟨h.os, h.tape, h.output, h.size, h.block⟩
def cn (o1 o2 : UInt8) (l : List UInt8) : Nat := l.count o1 + l.count o2
theorem repl_append (o1 o2 : UInt8) (s1 s2 a b : List UInt8) : repl o1 o2 s1 s2 (a ++ b) = repl o1 o2 s1 s2 a ++ repl o1 o2 s1 s2 b := by simp [repl]
theorem repl_one (o1 o2 : UInt8) (s1 s2 : List UInt8) (b : UInt8) : repl o1 o2 s1 s2 [b] = rp o1 o2 s1 s2 b := by simp [repl]
theorem repl_len (o1 o2 : UInt8) (a1 a2 c1 c2 : UInt8) (hne : o1 ≠ o2) (l : List UInt8) : (repl o1 o2 [a1, a2] [c1, c2] l).length = l.length + cn o1 o2 l := by
  induction l with
  | nil => rfl
  | cons b l ih =>
    have h1 : repl o1 o2 [a1, a2] [c1, c2] (b :: l) = rp o1 o2 [a1, a2] [c1, c2] b ++ repl o1 o2 [a1, a2] [c1, c2] l := by simp [repl]
    rw [h1, List.length_append, ih]
    unfold cn rp
    simp only [List.count_cons, List.length_cons]
    by_cases e1 : b = o1
    · subst e1; simp [hne]; omega
    · by_cases e2 : b = o2
      · subst e2; simp [e1]; omega
      · simp [e1, e2]; omega
theorem repl_none (o1 o2 : UInt8) (s1 s2 : List UInt8) (l : List UInt8) (h : cn o1 o2 l = 0) : repl o1 o2 s1 s2 l = l := by
  induction l with
  | nil => rfl
  | cons b l ih =>
    unfold cn at h ih
    simp only [List.count_cons] at h
    have e1 : ¬ b = o1 := fun e => by simp [e] at h
    have e2 : ¬ b = o2 := fun e => by simp [e] at h
    have h1 : repl o1 o2 s1 s2 (b :: l) = rp o1 o2 s1 s2 b ++ repl o1 o2 s1 s2 l := by simp [repl]
    rw [h1, ih (by omega)]
    simp [rp, e1, e2]
theorem take_snoc' (s : ByteArray) (k : Nat) (h : k < s.size) : s.data.toList.take (k + 1) = s.data.toList.take k ++ [s[k]] := by
  rw [List.take_succ_eq_append_getElem (by simpa using h)]; rfl
theorem cn_append (o1 o2 : UInt8) (a b : List UInt8) : cn o1 o2 (a ++ b) = cn o1 o2 a + cn o1 o2 b := by simp [cn]; omega
theorem cn_le (o1 o2 : UInt8) (hne : o1 ≠ o2) (l : List UInt8) : cn o1 o2 l ≤ l.length := by
  induction l with
  | nil => simp [cn]
  | cons b l ih =>
    unfold cn at ih ⊢
    simp only [List.count_cons, List.length_cons]
    by_cases e1 : b = o1
    · subst e1; simp [hne]; omega
    · simp [e1]; split <;> omega

/-- what a walk reads of a replacer that was built -/
theorem Bst.reads {B p : Nat} {o1 o2 a1 a2 c1 c2 : UInt8} (hne : o1 ≠ o2) {w : World} (h : Bst B p o1 o2 [a1, a2] [c1, c2] 2 w) :
    ∃ g gc q1 k1 q2 k2, w.cell? ⟨p, 256, none⟩ = some (.slice (some ⟨g, 0, none⟩) 2 gc) ∧ w.cell? ⟨g, 0, none⟩ = some (str1 o2) ∧ w.cell? ⟨g, 1, none⟩ = some (str1 o1) ∧
      w.cell? ⟨p, o1.toNat, none⟩ = some (.slice (some ⟨q1, 0, none⟩) 2 k1) ∧ w.cell? ⟨p, o2.toNat, none⟩ = some (.slice (some ⟨q2, 0, none⟩) 2 k2) ∧
      (∀ b : UInt8, b ≠ o1 → b ≠ o2 → w.cell? ⟨p, b.toNat, none⟩ = some (.slice none 0 0)) ∧
      (∀ (j : Nat) (u : Value), (byts [a1, a2])[j]? = some u → w.cell? ⟨q1, j, none⟩ = some u) ∧ (∀ (j : Nat) (u : Value), (byts [c1, c2])[j]? = some u → w.cell? ⟨q2, j, none⟩ = some u) ∧
      p < w.heap.size ∧ g < w.heap.size ∧ q1 < w.heap.size ∧ q2 < w.heap.size := by
  obtain ⟨tr, v1, v2, hR, hO, hp, h1, h2⟩ := h
  obtain ⟨q2, k2, cs2, fr2, rfl, _, hq2, hc2, _⟩ := h1 (by omega)
  obtain ⟨q1, k1, cs1, fr1, rfl, _, hq1, hc1, _⟩ := h2 (by omega)
  rcases hO.2 with ⟨_, h⟩ | ⟨g, gc, cur, rfl, _, hg, _, _, _, ht⟩
  · omega
  have hlt1 := o1.toNat_lt; have hlt2 := o2.toNat_lt
  have hn12 : ¬ o2.toNat = o1.toNat := fun h => hne (UInt8.toNat_inj.1 h).symm
  have hcell : ∀ (j : Nat) (u : Value), ([str1 o2, str1 o1] : List Value)[j]? = some u → w.cell? ⟨g, j, none⟩ = some u := fun j u hu => by
    rw [cell_blk hg]
    rw [show ([str1 o2, str1 o1] : List Value) = cur.toList.take (2 * 1) from ht.symm, List.getElem?_take] at hu
    split at hu
    · simpa using hu
    · cases hu
  refine ⟨g, gc, q1, k1, q2, k2, (hR.cell (by omega)).trans (congrArg some (bsrF_tr _ _ _ _ _ _)), hcell 0 _ rfl, hcell 1 _ rfl, (hR.cell (by omega)).trans ?_, (hR.cell (by omega)).trans ?_, fun b hb1 hb2 => (hR.cell (by have := b.toNat_lt; omega)).trans ?_, fun j u hu => (cell_blk hq1 j).trans (hc1 j u hu), fun j u hu => (cell_blk hq2 j).trans (hc2 j u hu), hR.lt, lt_blk hg, lt_blk hq1, lt_blk hq2⟩
  · simp [bsrF]; omega
  · simp [bsrF, hn12]; omega
  · have hlt := b.toNat_lt
    have e1 : ¬ b.toNat = o1.toNat := fun h => hb1 (UInt8.toNat_inj.1 h)
    have e2 : ¬ b.toNat = o2.toNat := fun h => hb2 (UInt8.toNat_inj.1 h)
    simp [bsrF, e1, e2]; omega

theorem countS_c (s : ByteArray) (c : UInt8) (w : World) : Calls Tryz.prog 205 #[.string s, .string ⟨⟨[c]⟩⟩] w fun e w' => e = .returned (.int .i64 (s.data.toList.count c : Nat)) ∧ w = w' :=
  (Tryz.strings_Count_one s c w).mono fun _ _ h => ⟨h.1, h.2.symm⟩

set_option maxRecDepth 100000 in
set_option maxHeartbeats 2000000 in
theorem bsr_replace_c (B p : Nat) (s : ByteArray) (o1 o2 a1 a2 c1 c2 : UInt8) (hne : o1 ≠ o2) (w : World) (hs : s.size ≤ 1099511627776) (h : Bst B p o1 o2 [a1, a2] [c1, c2] 2 w) :
    Calls Tryz.prog 203 #[.pointer (some ⟨p, 0, none⟩), .string s] w fun e w' => e = .returned (.string ⟨⟨repl o1 o2 [a1, a2] [c1, c2] s.data.toList⟩⟩) ∧ Below w.heap.size w w' := by
  obtain ⟨g, gc, q1, k1, q2, k2, r256, rg0, rg1, rp1, rp2, rpn, rq1, rq2, hpl, hgl, hq1l, hq2l⟩ := h.reads hne
  clear h
  have Hrpn := Lib.hid rpn; have Hrq1 := Lib.hid rq1; have Hrq2 := Lib.hid rq2
  have hneq := fun (a : Option Addr) (n c : Nat) (w : World) => run_neq_slice_nil_any (P := Tryz.prog) w 111 5 a n c 0 0 Tryz.underlying111
  have hnot : ∀ (x : Bool) (w : World), (Op.unary .not (.bool x)).run Tryz.prog w = .ok (.bool (!x)) w := fun _ _ => rfl
  clear rpn rq1 rq2
  obtain ⟨n1, hn1⟩ : ∃ n1, s.data.toList.count o1 = n1 := ⟨_, rfl⟩
  obtain ⟨n2, hn2⟩ : ∃ n2, s.data.toList.count o2 = n2 := ⟨_, rfl⟩
  have hcn : cn o1 o2 s.data.toList = n1 + n2 := by unfold cn; rw [hn1, hn2]
  have hle := cn_le o1 o2 hne s.data.toList
  have hsl : s.data.toList.length = s.size := rfl
  have hle' : n1 + n2 ≤ s.size := by omega
  have HC1 := Lib.hid (fun w => by have := countS_c s o1 w; rw [hn1] at this; exact this); have HC2 := Lib.hid (fun w => by have := countS_c s o2 w; rw [hn2] at this; exact this)
  have HCN := Lib.hid hcn
  clear hn1 hn2 hcn hle hsl
  have hgb1 : o1.toNat < 256 := o1.toNat_lt
  have hgb2 : o2.toNat < 256 := o2.toNat_lt
  have hg1 : ∀ h, (⟨⟨[o1]⟩⟩ : ByteArray)[0]'h = o1 := fun _ => rfl
  have hg2 : ∀ h, (⟨⟨[o2]⟩⟩ : ByteArray)[0]'h = o2 := fun _ => rfl
  unfold str1 at rg0 rg1
  go_enter Tryz.func203, Tryz.ntmps203
  go_upto_if 26 with (fail)
  go_cut [5, 6] (fun n any wx => ∃ (N : Nat) (A : Bool), n = .int .i64 (N : Int) ∧ any = .bool A ∧ N ≤ 2199023255552 ∧ Hid (N = s.size + n1 + n2) ∧ Hid (A = decide (0 < n1 + n2)) ∧ Hid (Below w.heap.size w wx))
  case first =>
    by_cases h16 : (16 : Int) ≤ (s.size : Int)
    · have h16d : decide ((16 : Int) ≤ (s.size : Int)) = true := by simpa using h16
      rw [h16d]
      go_wp2
      go_loopg [5, 6, 32] 2 (fun gh n any i wr => ∃ (k c : Nat) (A : Bool), gh = 2 - k ∧ n = .int .i64 ((s.size + c : Nat) : Int) ∧ any = .bool A ∧ ((k = 0 ∧ i = .int .i64 0 ∧ c = 0) ∨ (k = 1 ∧ i = .int .i64 1 ∧ n2 = c) ∨ (k = 2 ∧ i = .int .i64 2 ∧ n2 + n1 = c)) ∧ Hid (A = decide (0 < c)) ∧ Hid (Below w.heap.size w wr))
      case atStart => exact ⟨0, 0, false, rfl, by simp, rfl, .inl ⟨rfl, rfl, rfl⟩, by simp [Hid], Below.refl _ _⟩
      case round =>
        obtain ⟨k, c, A, rfl, rfl, rfl, hst, HA, HBr⟩ := hrel
        obtain ⟨hcr, hfr⟩ := bcell HBr.out
        clear hfr
        rcases hst with ⟨rfl, rfl, rfl⟩ | ⟨rfl, rfl, rfl⟩ | ⟨rfl, rfl, rfl⟩
        case inl =>
          have t0 := (hcr g 0 hgl).trans rg0
          have t1 := (hcr p o2.toNat hpl).trans rp2
          clear hcr
          cases hz : ((n2 : Int) != 0)
          · go_wp2_with (go_at_call 205; refine (HC2.out _).mono ?_; rintro e w' ⟨rfl, rfl⟩)
            have hz0 : n2 = 0 := by simpa using hz
            go_roundg (2 - (0 + 1))
            case measure => omega
            case rel => exact ⟨1, n2, A, rfl, by simp [hz0], rfl, .inr (.inl ⟨rfl, rfl, rfl⟩), by rw [hz0]; exact HA, HBr⟩
          · have hz0 : 0 < n2 := by have : n2 ≠ 0 := (by simpa using hz); omega
            go_wp2_with (go_at_call 205; refine (HC2.out _).mono ?_; rintro e w' ⟨rfl, rfl⟩)
            go_quiet (fail)
            go_wp2
            go_roundg (2 - (0 + 1))
            case measure => omega
            case rel => exact ⟨1, n2, true, rfl, by simp; try omega, rfl, .inr (.inl ⟨rfl, rfl, rfl⟩), by simp [Hid]; omega, below_drewN HBr.out _⟩
        case inr.inl =>
          have t0 := (hcr g 1 hgl).trans rg1
          have t1 := (hcr p o1.toNat hpl).trans rp1
          clear hcr
          cases hz : ((n1 : Int) != 0)
          · go_wp2_with (go_at_call 205; refine (HC1.out _).mono ?_; rintro e w' ⟨rfl, rfl⟩)
            have hz0 : n1 = 0 := by simpa using hz
            go_roundg (2 - (1 + 1))
            case measure => omega
            case rel => exact ⟨2, n2 + n1, A, rfl, by simp [hz0], rfl, .inr (.inr ⟨rfl, rfl, rfl⟩), by rw [hz0]; exact HA, HBr⟩
          · have hz0 : 0 < n1 := by have : n1 ≠ 0 := (by simpa using hz); omega
            go_wp2_with (go_at_call 205; refine (HC1.out _).mono ?_; rintro e w' ⟨rfl, rfl⟩)
            go_quiet (fail)
            go_wp2
            go_roundg (2 - (1 + 1))
            case measure => omega
            case rel => exact ⟨2, n2 + n1, true, rfl, by simp; try omega, rfl, .inr (.inr ⟨rfl, rfl, rfl⟩), by simp [Hid]; omega, below_drewN HBr.out _⟩
        case inr.inr =>
          clear hcr
          go_wp2
          go_meet
          case rel => exact ⟨s.size + n1 + n2, A, by simp; omega, rfl, by omega, rfl, by unfold Hid; rw [HA.out, Nat.add_comm], HBr⟩
    · have h16d : decide ((16 : Int) ≤ (s.size : Int)) = false := by simpa using h16
      rw [h16d]
      go_wp2
      go_loopg [5, 6, 10] s.size (fun gh n any i wr => ∃ (k c : Nat) (A : Bool), k ≤ s.size ∧ c ≤ k ∧ gh = s.size - k ∧ n = .int .i64 ((s.size + c : Nat) : Int) ∧ any = .bool A ∧ i = .int .i64 k ∧ Hid (c = cn o1 o2 (s.data.toList.take k)) ∧ Hid (A = decide (0 < c)) ∧ Hid (Below w.heap.size w wr))
      case atStart => exact ⟨0, 0, false, Nat.zero_le _, Nat.le_refl _, rfl, by simp, rfl, rfl, by simp [Hid, cn], by simp [Hid], Below.refl _ _⟩
      case round =>
        obtain ⟨k, c, A, hk, hck, rfl, rfl, rfl, rfl, Hc, HA, HBr⟩ := hrel
        obtain ⟨hcr, hfr⟩ := bcell HBr.out
        clear hfr
        by_cases hlt : k < s.size
        · have HT := Lib.hid (take_snoc' s k hlt)
          have hb := s[k].toNat_lt
          by_cases e1 : s[k] = o1
          · have t1 := (hcr p s[k].toNat hpl).trans ((congrArg (fun b : UInt8 => w.cell? ⟨p, b.toNat, none⟩) e1).trans rp1)
            have HE := Lib.hid e1
            clear hcr e1
            go_wp2
            go_roundg (s.size - (k + 1))
            case measure => omega
            case rel => exact ⟨k + 1, c + 1, true, hlt, by omega, rfl, by simp; omega, rfl, by go_num, by unfold Hid; rw [HT.out, cn_append, ← Hc.out]; simp [cn, HE.out, hne], by simp [Hid], HBr⟩
          · by_cases e2 : s[k] = o2
            · have t1 := (hcr p s[k].toNat hpl).trans ((congrArg (fun b : UInt8 => w.cell? ⟨p, b.toNat, none⟩) e2).trans rp2)
              have HE := Lib.hid e2
              clear hcr e1 e2
              go_wp2
              go_roundg (s.size - (k + 1))
              case measure => omega
              case rel => exact ⟨k + 1, c + 1, true, hlt, by omega, rfl, by simp; omega, rfl, by go_num, by unfold Hid; rw [HT.out, cn_append, ← Hc.out]; simp [cn, HE.out, hne.symm], by simp [Hid], HBr⟩
            · have t1 := (hcr p s[k].toNat hpl).trans (Hrpn.out s[k] e1 e2)
              have HE1 := Lib.hid e1; have HE2 := Lib.hid e2
              clear hcr e1 e2
              go_wp2
              go_roundg (s.size - (k + 1))
              case measure => omega
              case rel => exact ⟨k + 1, c, A, hlt, by omega, rfl, rfl, rfl, by go_num, by unfold Hid; rw [HT.out, cn_append, ← Hc.out]; simp [cn, HE1.out, HE2.out], HA, HBr⟩
        · obtain rfl : k = s.size := by omega
          clear hcr
          have hc : c = n1 + n2 := by rw [Hc.out, List.take_of_length_le (by simp), HCN.out]
          subst hc
          go_wp2
          go_meet
          case rel => exact ⟨s.size + n1 + n2, A, by simp; omega, rfl, by omega, rfl, HA, HBr⟩
  case rest =>
    obtain ⟨N, A, rfl, rfl, hNb, HN, HA, HBc⟩ := hcut
    cases A
    · have HR : Hid (repl o1 o2 [a1, a2] [c1, c2] s.data.toList = s.data.toList) := repl_none _ _ _ _ _ (by rw [HCN.out]; have := of_decide_eq_false HA.out.symm; omega)
      go_wp2
      go_ret
      exact ⟨by rw [HR.out]; rfl, HBc.out⟩
    · have m1 := run_make_any' (P := Tryz.prog) 111 5 _ 1 1 Tryz.underlying111 infoByte' .i64 .i64 N (by omega) (by omega)
      have HL : Hid ((repl o1 o2 [a1, a2] [c1, c2] s.data.toList).length = N) := by unfold Hid; rw [repl_len _ _ _ _ _ _ hne, HCN.out, HN.out]; show s.size + _ = _; omega
      have hsz := HBc.out.size
      go_wp2
      go_loopg [13, 14] s.size (fun gh j i wr => ∃ (k J : Nat) (cur : List Value), k ≤ s.size ∧ gh = s.size - k ∧ i = .int .i64 k ∧ j = .int .i64 J ∧ J ≤ N ∧ Hid (J = (repl o1 o2 [a1, a2] [c1, c2] (s.data.toList.take k)).length) ∧
        Hid (wr.heap[wc.heap.size]? = some (.cells cur.toArray 5 (0, 0))) ∧ Hid (cur.length = N) ∧ Hid (cur.take J = byts (repl o1 o2 [a1, a2] [c1, c2] (s.data.toList.take k))) ∧ Hid (Below w.heap.size w wr))
      case atStart => exact ⟨0, 0, List.replicate N (.int .u8 0), Nat.zero_le _, rfl, rfl, rfl, Nat.zero_le _, rfl, by unfold Hid; rw [blk_new]; simp [made1], by simp [Hid], rfl, HBc.out.alloc HBc.out.size _⟩
      case round =>
        obtain ⟨k, J, cur, hk, rfl, rfl, rfl, hJN, HJ, HG, HCl, HT, HBr⟩ := hrel
        obtain ⟨hcr, hfr⟩ := bcell HBr.out
        clear hfr m1
        have hzr := HBr.out.size
        by_cases hlt : k < s.size
        · have HTk := Lib.hid (take_snoc' s k hlt)
          have hb := s[k].toNat_lt
          have hmono : Hid ((repl o1 o2 [a1, a2] [c1, c2] (s.data.toList.take (k + 1))).length ≤ N) := by
            unfold Hid
            rw [← HL.out]
            conv => rhs; rw [← List.take_append_drop (k + 1) s.data.toList, repl_append, List.length_append]
            omega
          have HS : Hid (repl o1 o2 [a1, a2] [c1, c2] (s.data.toList.take (k + 1)) = repl o1 o2 [a1, a2] [c1, c2] (s.data.toList.take k) ++ rp o1 o2 [a1, a2] [c1, c2] s[k]) := by unfold Hid; rw [HTk.out, repl_append, repl_one]
          by_cases e1 : s[k] = o1
          · have t1 := (hcr p s[k].toNat hpl).trans ((congrArg (fun b : UInt8 => w.cell? ⟨p, b.toNat, none⟩) e1).trans rp1)
            have HE : Hid (rp o1 o2 [a1, a2] [c1, c2] s[k] = [a1, a2]) := by unfold Hid rp; rw [if_pos e1]
            have hJ2 : J + 2 ≤ N := by have := hmono.out; rw [HS.out, HE.out, List.length_append, ← HJ.out] at this; exact this
            have hJi : (J : Int) < (N : Int) := by omega
            have hNJ : ¬ N = J := by omega
            have hbI : ((s[k].toNat : Nat) : Int) < 256 := by omega
            have hJl : (J : Int) ≤ (N : Int) := by omega
            have hby : (byts [a1, a2]).length = 2 := rfl
            clear hcr e1
            go_wp2
            go_region_law (refine step_copy_splice rfl (.tmp 105) (.tmp 111) 111 111 rfl 5 Tryz.underlying111 byteSz _ _ _ _ _ _ rfl rfl wc.heap.size J cur 5 (by exact HG.out) (byts [a1, a2]) (show 2 = Nat.min 2 (N - J) from (Nat.min_eq_left (by omega)).symm) (fun _ => ⟨rfl, ⟨q1, 0, none⟩, rfl, fun j v hv => by rw [add_off, Nat.zero_add]; exact (HBr.out.cell (p := ⟨q1, j, none⟩) hq1l).trans (Hrq1.out j v hv)⟩) (by rw [HCl.out]; exact hJ2) (byts_one _) w.heap.size w HBr.out.drew (by have := HBc.out.size; omega) ?_; intro w4 hg4 hb4)
            go_wp2
            go_roundg (s.size - (k + 1))
            case measure => omega
            case rel => exact ⟨k + 1, J + 2, splice cur J (byts [a1, a2]), hlt, rfl, by go_num, by go_num, hJ2, by unfold Hid; rw [HS.out, HE.out, List.length_append, ← HJ.out]; rfl, hg4, by unfold Hid; rw [length_splice _ _ _ (by rw [HCl.out]; exact hJ2)]; exact HCl.out, by unfold Hid; rw [HS.out, HE.out, show J + 2 = J + (byts [a1, a2]).length from rfl, splice_take _ _ _ (by rw [HCl.out]; omega), HT.out]; simp [byts], hb4⟩
          · by_cases e2 : s[k] = o2
            · have t1 := (hcr p s[k].toNat hpl).trans ((congrArg (fun b : UInt8 => w.cell? ⟨p, b.toNat, none⟩) e2).trans rp2)
              have HE : Hid (rp o1 o2 [a1, a2] [c1, c2] s[k] = [c1, c2]) := by unfold Hid rp; rw [if_neg e1, if_pos e2]
              have hJ2 : J + 2 ≤ N := by have := hmono.out; rw [HS.out, HE.out, List.length_append, ← HJ.out] at this; exact this
              have hJi : (J : Int) < (N : Int) := by omega
              have hNJ : ¬ N = J := by omega
              have hbI : ((s[k].toNat : Nat) : Int) < 256 := by omega
              have hJl : (J : Int) ≤ (N : Int) := by omega
              have hby : (byts [c1, c2]).length = 2 := rfl
              clear hcr e1 e2
              go_wp2
              go_region_law (refine step_copy_splice rfl (.tmp 105) (.tmp 111) 111 111 rfl 5 Tryz.underlying111 byteSz _ _ _ _ _ _ rfl rfl wc.heap.size J cur 5 (by exact HG.out) (byts [c1, c2]) (show 2 = Nat.min 2 (N - J) from (Nat.min_eq_left (by omega)).symm) (fun _ => ⟨rfl, ⟨q2, 0, none⟩, rfl, fun j v hv => by rw [add_off, Nat.zero_add]; exact (HBr.out.cell (p := ⟨q2, j, none⟩) hq2l).trans (Hrq2.out j v hv)⟩) (by rw [HCl.out]; exact hJ2) (byts_one _) w.heap.size w HBr.out.drew (by have := HBc.out.size; omega) ?_; intro w4 hg4 hb4)
              go_wp2
              go_roundg (s.size - (k + 1))
              case measure => omega
              case rel => exact ⟨k + 1, J + 2, splice cur J (byts [c1, c2]), hlt, rfl, by go_num, by go_num, hJ2, by unfold Hid; rw [HS.out, HE.out, List.length_append, ← HJ.out]; rfl, hg4, by unfold Hid; rw [length_splice _ _ _ (by rw [HCl.out]; exact hJ2)]; exact HCl.out, by unfold Hid; rw [HS.out, HE.out, show J + 2 = J + (byts [c1, c2]).length from rfl, splice_take _ _ _ (by rw [HCl.out]; omega), HT.out]; simp [byts], hb4⟩
            · have t1 := (hcr p s[k].toNat hpl).trans (Hrpn.out s[k] e1 e2)
              have HE : Hid (rp o1 o2 [a1, a2] [c1, c2] s[k] = [s[k]]) := by unfold Hid rp; rw [if_neg e1, if_neg e2]
              have hJ2 : J + 1 ≤ N := by have := hmono.out; rw [HS.out, HE.out, List.length_append, ← HJ.out] at this; exact this
              have hJi : (J : Int) < (N : Int) := by omega
              have hJc : J < cur.length := by rw [HCl.out]; omega
              have j1 : wr.cell? ⟨wc.heap.size, J, none⟩ = some cur[J] := by rw [cell_blk HG.out]; simp [hJc]
              have jf : wr.frozen? ⟨wc.heap.size, J, none⟩ = false := fro_blk HG.out J
              clear hcr e1 e2
              go_wp2
              go_roundg (s.size - (k + 1))
              case measure => omega
              case rel => exact ⟨k + 1, J + 1, cur.set J (.int .u8 s[k].toNat), hlt, rfl, by go_num, by go_num, hJ2, by unfold Hid; rw [HS.out, HE.out, List.length_append, ← HJ.out]; rfl, by unfold Hid; rw [heap_setCell_same _ _ _ _ _ _ HG.out]; simp, by unfold Hid; rw [List.length_set]; exact HCl.out, by unfold Hid; rw [HS.out, HE.out, List.take_set_succ' _ _ _ hJc, HT.out]; simp [byts], HBr.out.setCell (p := ⟨wc.heap.size, J, none⟩) (by have := HBc.out.size; omega) _⟩
        · obtain rfl : k = s.size := by omega
          have hJe : J = N := by rw [HJ.out, List.take_of_length_le (by simp), HL.out]
          subst hJe
          have hcv := run_convert_bytes_back (P := Tryz.prog) wr 111 9 5 ⟨wc.heap.size, 0, none⟩ J (repl o1 o2 [a1, a2] [c1, c2] s.data.toList) Tryz.underlying111 Tryz.underlying5 Tryz.underlying9 (fun j hj => by
            rw [add_off, Nat.zero_add, cell_blk HG.out]
            have hT := HT.out
            rw [List.take_of_length_le (Nat.le_of_eq HCl.out), List.take_of_length_le (by simp)] at hT
            rw [hT]; simp [byts, hj])
          rw [HL.out] at hcv
          clear hcr
          go_wp2
          go_ret
          exact ⟨rfl, HBr.out⟩
end Go.Proofs.YtbldchemgkfdcaaGreatDoor
