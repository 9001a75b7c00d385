/- spec.l1Text. -/
import Derived.Test.YtbldchemgkfdcaaGreatDoorKids
namespace Go.Proofs.YtbldchemgkfdcaaGreatDoor
open Go.RowKit

theorem owns_nat {w : World} {base : Nat} {js : List Nat} {a : Option Addr} {n c : Nat} (h : w.ownsRow base 3 1 (.slice a n c) n (natCells js)) (i : Nat) (hi : i < js.length) :
    ∃ gj, a = some ⟨gj, 0, none⟩ ∧ base ≤ gj ∧ gj < w.heap.size ∧ w.cell? ⟨gj, i, none⟩ = some (.int .i64 (js[i] : Int)) := by
  obtain ⟨hl, h⟩ := h
  rcases h with ⟨hv, h0⟩ | ⟨g, cap, cur, hv, hb, hg, hnc, hm, hsz, ht⟩
  · simp [natCells] at hl; omega
  · simp only [Value.slice.injEq] at hv
    obtain ⟨rfl, _, rfl⟩ := hv
    refine ⟨g, rfl, hb, lt_blk hg, ?_⟩
    rw [cell_blk hg]
    have hc : (natCells js)[i]? = some (.int .i64 (js[i] : Int)) := by simp [natCells, hi]
    rw [← ht, List.getElem?_take] at hc
    split at hc
    · simpa using hc
    · cases hc

set_option maxRecDepth 100000 in
set_option maxHeartbeats 1000000 in
theorem l1Text_c (n : Nat) : ∀ (t : T) (l : List N) (k : Nat) (v : Value) (w : World) (S : Nat → Prop), t.cnt ≤ n → t.cnt ≤ 1073741824 → TR l k t → t.bounded = true → t.kok → l.length ≤ 1099511627776 → Nods w S v l → (∀ b, S b → b < w.heap.size) →
    Calls Tryz.prog 64 #[.agg #[v], .int .i64 k] w fun e w' => e = .returned (.string ⟨⟨t.txt⟩⟩) ∧ Below w.heap.size w w' := by
  induction n with
  | zero => intro t l k v w S hn; have := t.cnt_pos; omega
  | succ n ih =>
  rintro ⟨kind, num, text, names, kids⟩ l k v w S hn hc ⟨x, hx, hk1, hk2, hk3, hnm, hkids⟩ hb hkok hl h hS
  have hlen := T.txt_len _ hb
  obtain ⟨hk, hxe⟩ := List.getElem?_eq_some_iff.1 hx
  obtain ⟨a, c, rfl⟩ := Row.form h
  obtain ⟨g, off, rfl, hSg, x0, x1, x2, x3, x4⟩ := Nods.at h hk
  have hgb := hS g hSg
  rw [hxe, hk1] at x0
  rw [hxe, hk2] at x1
  rw [hxe, hk3] at x2
  rw [hxe] at x3 x4
  have HR := Lib.hid h; have HS := Lib.hid hS
  have y0 := fun o => (cell_old w o hgb).trans x0
  have y1 := fun o => (cell_old w o hgb).trans x1
  have y2 := fun o => (cell_old w o hgb).trans x2
  have y3 := fun o => (cell_old w o hgb).trans x3
  have y4 := fun o => (cell_old w o hgb).trans x4
  have c0 := cell_blk (blk_new w (.cells #[.slice (some ⟨g, off, none⟩) l.length c] 28)) 0
  have HB0 := Lib.hid ((Below.refl w.heap.size w).alloc (Nat.le_refl _) (.cells #[.slice (some ⟨g, off, none⟩) l.length c] 28))
  clear h hS x0 x1 x2 x3 x4
  have HBA := Lib.hid (HB0.out.alloc (by simp) (.cells #[.int .i64 kind, .int .i64 num, .string text, .string x.name, .int .i64 x.up] 63))
  simp only [T.bounded, Bool.and_eq_true] at hb
  have hnum := hb.1.1.1
  simp only [okNum, Bool.and_eq_true, decide_eq_true_eq] at hnum
  have htx := okStr_size hb.1.1.2
  by_cases k1 : kind = 1
  · subst k1
    go_enter Tryz.func64, Tryz.ntmps64
    go_wp2
    go_ret
    exact ⟨rfl, HBA.out⟩
  by_cases k2 : kind = 2
  · subst k2
    go_enter Tryz.func64, Tryz.ntmps64
    go_wp2
    go_ret
    exact ⟨rfl, HBA.out⟩
  by_cases k3 : kind = 3
  · subst k3
    go_enter Tryz.func64, Tryz.ntmps64
    go_wp2
    go_ret
    exact ⟨rfl, HBA.out⟩
  by_cases k4 : kind = 4
  · subst k4
    have HC := Lib.hid (l1Int_c num ((w.alloc (.cells #[.slice (some ⟨g, off, none⟩) l.length c] 28)).alloc (.cells #[.int .i64 4, .int .i64 num, .string text, .string x.name, .int .i64 x.up] 63)) hnum.1 hnum.2)
    go_enter Tryz.func64, Tryz.ntmps64
    go_wp2_with (go_at_call 93; refine HC.out.mono ?_; rintro e w1 ⟨rfl, hB⟩)
    go_ret
    exact ⟨rfl, HBA.out.trans (hB.mono (by simp; omega))⟩
  by_cases k5 : kind = 5
  · subst k5
    go_enter Tryz.func64, Tryz.ntmps64
    go_wp2_with (go_at_call 94; refine (l1Quote_c text _ (by omega)).mono ?_; rintro e w' ⟨rfl, rfl⟩)
    go_ret
    exact ⟨rfl, HBA.out⟩
  have k67 : kind = 6 ∨ kind = 7 := by have := hkok.1; simp only [within, Bool.and_eq_true, decide_eq_true_eq] at this; omega
  have b1 : (kind == 1) = false := by simpa using k1
  have b2 : (kind == 2) = false := by simpa using k2
  have b3 : (kind == 3) = false := by simpa using k3
  have b4 : (kind == 4) = false := by simpa using k4
  have b5 : (kind == 5) = false := by simpa using k5
  have HKs := Lib.hid hkids
  have hcl := T.cnts_len kids
  simp only [T.cnt] at hc hn
  have hjl := (TRs.get hkids).1
  have hlen2 := T.txts_len kids names kind 0 hb.1.2 hb.2
  have HKC := Lib.hid (l1Kids_c l k (.slice (some ⟨g, off, none⟩) l.length c) ((w.alloc (.cells #[.slice (some ⟨g, off, none⟩) l.length c] 28)).alloc (.cells #[.int .i64 kind, .int .i64 num, .string text, .string x.name, .int .i64 x.up] 63)) S hl hk (Row.frame HR.out (Below.fr HBA.out HS.out) HBA.out.size) (fun b hb => by have := HS.out b hb; have := HBA.out.size; omega))
  have HBnd := Lib.hid hb
  have HKok := Lib.hid hkok.2
  have HNm := Lib.hid hnm
  clear hkids hb hkok hnm hlen
  have hq : ∃ js, js = kidsTo l k l.length := ⟨_, rfl⟩
  obtain ⟨js, hjs⟩ := hq
  rw [← hjs] at HKC HKs HNm hjl
  have HMem : Hid (∀ j, j ∈ js → k < j ∧ j < l.length ∧ ∃ h : j < l.length, l[j].up = (k : Int)) := by rw [hjs]; exact fun j hj => kidsTo_mem hj
  clear hjs
  go_enter Tryz.func64, Tryz.ntmps64
  go_wp2_with (go_at_call 66; refine HKC.out.mono ?_; rintro e w1 ⟨sv, rfl, ho, hB⟩; obtain ⟨aj, cj, rfl⟩ := owns_form ho; have HJ := Lib.hid (owns_nat ho); have HB1 := Lib.hid (HBA.out.trans (hB.mono HBA.out.size)); clear ho)
  have d0 : w1.cell? ⟨w.heap.size, 0, none⟩ = some (.slice (some ⟨g, off, none⟩) l.length c) := (hB.cell (p := ⟨w.heap.size, 0, none⟩) (by simp; omega)).trans ((cell_old _ _ (by simp)).trans (cell_blk (blk_new w _) 0))
  have d1 : w1.cell? ⟨w.heap.size + 1, 0, none⟩ = some (.int .i64 kind) := (hB.cell (p := ⟨w.heap.size + 1, 0, none⟩) (by simp)).trans (by have := cell_blk (blk_new (w.alloc (.cells #[.slice (some ⟨g, off, none⟩) l.length c] 28)) (.cells #[.int .i64 kind, .int .i64 num, .string text, .string x.name, .int .i64 x.up] 63)) 0; simp)
  have hz1 := hB.size
  simp at hz1
  clear hB y0 y1 y2 y3 y4 c0
  have hlen3 : ∀ i, (T.txts kind names (kids.take i) 0).length ≤ 139586437120 := fun i => by have := T.txts_pre kind names kids 0 i; omega
  have HL := Lib.hid hlen3
  clear hlen3 hlen2
  go_wp2
  go_loopg [6, 36] kids.length (fun gh out i wr => ∃ j : Nat, j ≤ kids.length ∧ gh = kids.length - j ∧ i = .int .i64 j ∧ ∃ s : ByteArray, out = .string s ∧ Hid (s = ⟨⟨T.txts kind names (kids.take j) 0⟩⟩) ∧ Hid (Below w1.heap.size w1 wr))
  case atStart => exact ⟨0, Nat.zero_le _, rfl, rfl, _, rfl, rfl, Below.refl _ _⟩
  case round =>
    obtain ⟨j, hj, rfl, rfl, s, rfl, HT, HBr⟩ := hrel
    have e0 := (HBr.out.cell (p := ⟨w.heap.size, 0, none⟩) (by simp; omega)).trans d0
    have e1 := (HBr.out.cell (p := ⟨w.heap.size + 1, 0, none⟩) (by simp; omega)).trans d1
    have hsr := HBr.out.size
    clear d0 d1
    have hs1 : s.size ≤ 139586437120 := by rw [HT.out]; exact HL.out j
    by_cases hlt : j < kids.length
    · have hjj : j < js.length := by omega
      obtain ⟨gj, rfl, hgj0, hgj1, hgj2⟩ := HJ.out j hjj
      obtain ⟨p, hp⟩ : ∃ p, js[j] = p := ⟨_, rfl⟩
      have hmp := HMem.out p (by rw [← hp]; exact List.getElem_mem _)
      have hTR := (TRs.get HKs.out).2 j hlt hjj
      rw [hp] at hTR hgj2
      have e2 := (HBr.out.cell (p := ⟨gj, j, none⟩) hgj1).trans hgj2
      clear hgj2
      obtain ⟨hpk, hpl, hpup⟩ := hmp
      clear hpup
      have hkc : kids[j].cnt ≤ T.cnts kids := T.cnts_mem (List.getElem_mem _)
      have hsz2 : w.heap.size ≤ wr.heap.size := by omega
      have HIH := Lib.hid (fun (w2 : World) (hb2 : Below wr.heap.size wr w2) => ih kids[j] l p (.slice (some ⟨g, off, none⟩) l.length c) w2 S (by omega) (by omega) hTR (T.boundeds_get HBnd.out.2 j hlt) (T.koks_mem HKok.out j hlt) hl (Row.frame HR.out (fun b hb _ => ((HB1.out.trans (HBr.out.mono (by omega))).trans (hb2.mono hsz2)).block b (HS.out b hb)) (by have := hb2.size; omega)) (fun b hb => by have := HS.out b hb; have := hb2.size; omega))
      have hpre := HL.out (j + 1)
      rw [T.txts_take kind names kids 0 j hlt] at hpre
      simp only [List.length_append, Nat.zero_add] at hpre
      have htt := T.txts_take kind names kids 0 j hlt
      rw [Nat.zero_add] at htt
      have HTT := Lib.hid htt
      clear htt
      clear hTR hkc
      obtain ⟨ks, hks⟩ : ∃ ks : ByteArray, ks = ⟨⟨kids[j].txt⟩⟩ := ⟨_, rfl⟩
      have hksl : ks.data.toList = kids[j].txt := by rw [hks]
      have hkss : ks.size = kids[j].txt.length := by rw [hks]; rfl
      rw [← hks] at HIH
      have HKsl := Lib.hid hksl
      clear hks hksl
      rcases k67 with k6 | k7
      · subst k6
        rw [if_neg (show ¬ ((6 : Int) = 7) by decide)] at HTT hpre
        by_cases hj0 : 0 < j
        · have hj0' : decide (0 < (j : Int)) = true := by simpa using hj0
          have HF : Hid ((s ++ ⟨#[44]⟩ ++ ks : ByteArray) = ⟨⟨T.txts 6 names (kids.take (j + 1)) 0⟩⟩) := by
            refine ba_ext _ _ ?_
            rw [cat_list, cat_list, HTT.out, HT.out, HKsl.out, if_pos hj0]; simp
          go_wp2_with (go_at_call 64; refine (HIH.out wr (Below.refl _ _)).mono ?_; rintro e w2 ⟨rfl, hB2⟩)
          go_roundg (kids.length - (j + 1))
          case measure => omega
          case rel => exact ⟨j + 1, hlt, rfl, by go_num, _, rfl, HF.out, HBr.out.trans (hB2.mono hsr)⟩
        · have hj0' : decide (0 < (j : Int)) = false := by simp; omega
          have HF : Hid ((s ++ ks : ByteArray) = ⟨⟨T.txts 6 names (kids.take (j + 1)) 0⟩⟩) := by
            refine ba_ext _ _ ?_
            rw [cat_list, HTT.out, HT.out, HKsl.out, if_neg hj0]; simp
          go_wp2_with (go_at_call 64; refine (HIH.out wr (Below.refl _ _)).mono ?_; rintro e w2 ⟨rfl, hB2⟩)
          go_roundg (kids.length - (j + 1))
          case measure => omega
          case rel => exact ⟨j + 1, hlt, rfl, by go_num, _, rfl, HF.out, HBr.out.trans (hB2.mono hsr)⟩
      · subst k7
        rw [if_pos rfl] at HTT hpre
        obtain ⟨g', off', hgo, _, z0, z1, z2, z3, z4⟩ := Nods.at HR.out hpl
        simp only [Option.some.injEq, Addr.mk.injEq, and_true] at hgo
        obtain ⟨rfl, rfl⟩ := hgo
        have e3 := (HBr.out.cell (p := ⟨g, off + p * 5 + 3, none⟩) (by simp; omega)).trans ((HB1.out.cell (p := ⟨g, off + p * 5 + 3, none⟩) hgb).trans z3)
        clear z0 z1 z2 z3 z4
        have hnj : kname 7 names j = l[p].name := by
          unfold kname
          rw [if_pos rfl, HNm.out, if_pos rfl, List.getD_eq_getElem?_getD, List.getElem?_map, List.getElem?_eq_getElem hjj, hp]
          exact nameAt_get hpl
        have hns := kname_size HBnd.out.1.2 7 j
        rw [hnj] at hns HTT hpre
        obtain ⟨qs, hqs⟩ : ∃ ks : ByteArray, ks = ⟨⟨quote l[p].name⟩⟩ := ⟨_, rfl⟩
        have HQ := Lib.hid (l1Quote_c l[p].name wr (by omega))
        have hqs1 : qs.size ≤ 50 := by rw [hqs]; show (quote l[p].name).length ≤ 50; have := quote_len l[p].name; omega
        have hqsl : qs.data.toList = quote l[p].name := by rw [hqs]
        rw [← hqs] at HQ
        have HQl := Lib.hid hqsl
        clear hqs hqsl hnj
        by_cases hj0 : 0 < j
        · have hj0' : decide (0 < (j : Int)) = true := by simpa using hj0
          have HF : Hid ((s ++ ⟨#[44]⟩ ++ (qs ++ ⟨#[58]⟩) ++ ks : ByteArray) = ⟨⟨T.txts 7 names (kids.take (j + 1)) 0⟩⟩) := by
            refine ba_ext _ _ ?_
            rw [cat_list, cat_list, cat_list, cat_list, HTT.out, HT.out, HKsl.out, HQl.out, if_pos hj0]; simp
          go_wp2_with (first | (go_at_call 94; refine HQ.out.mono ?_; rintro e w' ⟨rfl, rfl⟩) | (go_at_call 64; refine (HIH.out wr (Below.refl _ _)).mono ?_; rintro e w2 ⟨rfl, hB2⟩))
          go_roundg (kids.length - (j + 1))
          case measure => omega
          case rel => exact ⟨j + 1, hlt, rfl, by go_num, _, rfl, HF.out, HBr.out.trans (hB2.mono hsr)⟩
        · have hj0' : decide (0 < (j : Int)) = false := by simp; omega
          have HF : Hid ((s ++ (qs ++ ⟨#[58]⟩) ++ ks : ByteArray) = ⟨⟨T.txts 7 names (kids.take (j + 1)) 0⟩⟩) := by
            refine ba_ext _ _ ?_
            rw [cat_list, cat_list, cat_list, HTT.out, HT.out, HKsl.out, HQl.out, if_neg hj0]; simp
          go_wp2_with (first | (go_at_call 94; refine HQ.out.mono ?_; rintro e w' ⟨rfl, rfl⟩) | (go_at_call 64; refine (HIH.out wr (Below.refl _ _)).mono ?_; rintro e w2 ⟨rfl, hB2⟩))
          go_roundg (kids.length - (j + 1))
          case measure => omega
          case rel => exact ⟨j + 1, hlt, rfl, by go_num, _, rfl, HF.out, HBr.out.trans (hB2.mono hsr)⟩
    · obtain rfl : j = kids.length := by omega
      have HTf : Hid (T.txts kind names kids 0 = s.data.toList) := by unfold Hid; rw [HT.out, List.take_length]
      rcases k67 with k6 | k7
      · subst k6
        have HE : Hid ((⟨⟨(T.mk 6 num text names kids).txt⟩⟩ : ByteArray) = ⟨#[91]⟩ ++ s ++ ⟨#[93]⟩) := by
          refine ba_ext _ _ ?_
          rw [cat_list, cat_list, ← HTf.out]; rfl
        go_wp2
        go_ret
        exact ⟨by rw [HE.out]; rfl, HB1.out.trans (HBr.out.mono (by omega))⟩
      · subst k7
        have HE : Hid ((⟨⟨(T.mk 7 num text names kids).txt⟩⟩ : ByteArray) = ⟨#[123]⟩ ++ s ++ ⟨#[125]⟩) := by
          refine ba_ext _ _ ?_
          rw [cat_list, cat_list, ← HTf.out]; rfl
        go_wp2
        go_ret
        exact ⟨by rw [HE.out]; rfl, HB1.out.trans (HBr.out.mono (by omega))⟩
end Go.Proofs.YtbldchemgkfdcaaGreatDoor
