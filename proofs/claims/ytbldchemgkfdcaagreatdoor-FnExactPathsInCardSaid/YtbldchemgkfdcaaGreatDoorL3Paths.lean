/- spec.l3Paths. -/
import Derived.Test.YtbldchemgkfdcaaGreatDoorL3Text
import Derived.Test.YtbldchemgkfdcaaGreatDoorFlat
import Derived.Deep.RegionHeld3
namespace Go.Proofs.YtbldchemgkfdcaaGreatDoor
open Go.RowKit

theorem repl_id (l : List UInt8) (h : ∀ b ∈ l, b ≠ 126 ∧ b ≠ 47) : repl 126 47 [126, 48] [126, 49] l = l := by
  induction l with
  | nil => rfl
  | cons b l ih =>
    have hb := h b (by simp)
    have h1 : repl 126 47 [126, 48] [126, 49] (b :: l) = rp 126 47 [126, 48] [126, 49] b ++ repl 126 47 [126, 48] [126, 49] l := by simp [repl]
    rw [h1, ih (fun x hx => h x (by simp [hx]))]
    unfold rp
    rw [if_neg hb.1, if_neg hb.2]; rfl
theorem dig_plain (k : Nat) (h : k < 10) : UInt8.ofNat (48 + k) ≠ 126 ∧ UInt8.ofNat (48 + k) ≠ 47 := by
  have : ∀ k : Fin 10, UInt8.ofNat (48 + k.val) ≠ 126 ∧ UInt8.ofNat (48 + k.val) ≠ 47 := by decide
  exact this ⟨k, h⟩
theorem decDigits_plain (u : Nat) : ∀ b ∈ Go.Lib.decDigits u, b ≠ 126 ∧ b ≠ 47 := by
  intro b hb
  rw [Go.Lib.decDigits_eq] at hb
  simp only [List.mem_map, List.mem_range] at hb
  obtain ⟨t, _, rfl⟩ := hb
  exact dig_plain _ (Nat.mod_lt _ (by omega))
theorem escP_dec (u : Nat) : escP ⟨⟨Go.Lib.decDigits u⟩⟩ = Go.Lib.decDigits u := repl_id _ (decDigits_plain u)
/-- the name of part i -/
def sname (kind : Int) (names : List ByteArray) (i : Nat) : ByteArray := if kind = 7 then names.getD i ⟨#[]⟩ else ⟨⟨Go.Lib.decDigits i⟩⟩
theorem escP_sname (kind : Int) (names : List ByteArray) (i : Nat) : escP (sname kind names i) = pname kind names i := by
  unfold sname pname
  split
  · rfl
  · exact escP_dec i

theorem owns_e {w : World} {base g : Nat} {e : TypeId} (h : w.heap[g]? = some (.cells #[] e (0, 0))) (hb : base ≤ g) : w.ownsRow base e 1 (.slice (some ⟨g, 0, none⟩) 0 0) 0 [] :=
  ⟨rfl, .inr ⟨g, 0, #[], rfl, hb, h, Nat.le_refl _, by unfold maxLen; omega, rfl, rfl⟩⟩

theorem sname_size {names : List ByteArray} (h : names.all okStr = true) (kind : Int) (k : Nat) (hk : k ≤ 1099511627) : (sname kind names k).size ≤ 29 := by
  unfold sname
  split
  · have := kname_size h 7 k; rw [kname, if_pos rfl] at this; omega
  · show (Go.Lib.decDigits k).length ≤ 29
    have := Go.Lib.itoa_length_le (k : Int) (by omega) (by omega)
    rw [Go.Lib.itoa_nonneg] at this; omega

/-- append of a row of a call's own, nil or not, as a step of a region that draws -/
theorem step_append_src {P : Program} {ops : Array Oper} {o : Oper} {a : Act} {w : World} {K : Act → World → Prop} {Q : Exit → Act → World → Prop} {E : Prop}
    (hgd : o.guard = none) (s x : Operand) (t : TypeId) (ho : o.op = Op.call { callee := Callee.builtin Builtin.append, args := #[s, x], argTypes := #[t, t] })
    (base : Nat) (e : TypeId) (i : TypeInfo) (z : Value) (bytes : Nat) (ht : P.underlying t = some (.slice e)) (hi : P.info? e = some i) (hz : i.zero = some z)
    (hsize : i.size = 1) (hby : i.bytes = bytes) (hzs : z.cells.size = 1)
    (v : Value) (n : Nat) (xs : List Value) (hs : a.eval s = v) (hown : w.ownsRow base e 1 v n xs)
    (b2 : Nat) (e2 : TypeId) (sv : Value) (m : Nat) (news : List Value) (hx : a.eval x = sv) (hsrc : w.ownsRow b2 e2 1 sv m news) (h1 : ∀ u ∈ news, u.oneCell' = true)
    (h63 : n + m ≤ maxLen) (hbytes : (n + m) * bytes ≤ 140737488355328) (hbase : base ≤ w.heap.size)
    (h : ∀ v' w', w'.ownsRow base e 1 v' (n + m) (xs ++ news) → w.grownBy w' v.ownBlock → K (a.put o.dst v') w') :
    if Region.wanted o (yielded ops a.tmps) = true then Oper.wp P o a w K Q else E := by
  have hw : Region.wanted o (yielded ops a.tmps) = true := by simp [Region.wanted, hgd]
  obtain ⟨hl, h3⟩ := hsrc
  rcases h3 with ⟨hv, rfl⟩ | ⟨g, cap, cur, hv, _, hg, hnc, _, hsz, htk⟩
  · obtain rfl : news = [] := List.eq_nil_of_length_eq_zero (by simpa using hl)
    rw [if_pos hw]
    have hrun := run_append_owned_none (P := P) (w := w) base t o.type e i 1 ht hi v n xs hown
    unfold Oper.wp
    simp [execOp, ho, resolve, invoke, builtin, hs, hx.trans hv, hrun, Result.andThen]
    exact h v w (by simpa using hown) ⟨rfl, rfl, rfl, Nat.le_refl _, fun _ _ _ => rfl⟩
  · refine step_append_own hgd s x t ho base e i z 1 bytes ht hi hz hsize hby hzs (by omega) v n xs hs hown ⟨g, 0, none⟩ m cap news (hx.trans hv) (by simpa using hl) (fun j u hj => ?_) h1 h63 hbytes hbase h
    rw [add_off, Nat.zero_add, cell_blk hg]
    rw [← htk, List.getElem?_take] at hj
    split at hj
    · simpa using hj
    · cases hj

theorem blk1 {X : World} {o : Obj} {g : Nat} (h : X.heap.size = g) : (X.alloc o).heap[g]? = some o := h ▸ blk_new X o
theorem blk2 {X : World} {o o' : Obj} {g : Nat} (h : X.heap.size = g) : ((X.alloc o).alloc o').heap[g]? = some o := (blk_old _ o' (by simp; omega)).trans (blk1 h)
theorem owns_blk {w w' : World} {base n : Nat} {e : TypeId} {v : Value} {xs : List Value} (h : w.ownsRow base e 1 v n xs) (hb : ∀ g, v.ownBlock = some g → w'.heap[g]? = w.heap[g]?) : w'.ownsRow base e 1 v n xs := by
  obtain ⟨hl, h⟩ := h
  refine ⟨hl, ?_⟩
  rcases h with h | ⟨g, cap, cur, rfl, h1, h2, h3⟩
  · exact .inl h
  · exact .inr ⟨g, cap, cur, rfl, h1, (hb g rfl).trans h2, h3⟩
theorem Keeps.of_below {s s0 : Nat} {o : Option Nat} {w w' : World} (h : Below s w w') (hs : s0 ≤ s) : Keeps s0 o o w w' := ⟨fun b hb _ => h.block b (by omega), fun _ _ h => h⟩
theorem str_cells (l : List ByteArray) : ∀ u ∈ l.map Value.string, u.oneCell' = true := by
  intro u hu
  simp only [List.mem_map] at hu
  obtain ⟨x, _, rfl⟩ := hu
  rfl

set_option maxRecDepth 100000 in
set_option maxHeartbeats 2000000 in
theorem l3Paths_c (n : Nat) : ∀ (t : T) (an ak : Option Addr) (cn ck : Nat) (w : World) (S : Nat → Prop) (pv : Value) (pl : List ByteArray) (out : Value) (m base : Nat) (cs : List Value), t.cnt ≤ n → m + t.cnt ≤ 1099511627 → pl.length + t.cnt ≤ 1099511627 → (l3T pl).length + 60 * t.cnt ≤ 1099511627776 → t.wn → t.bounded = true →
   IsV w S t [.int .i64 t.kind, .int .i64 t.num, .string t.text, .slice an t.names.length cn, .slice ak t.kids.length ck] → (∀ b, S b → b < base) → base ≤ w.heap.size → w.ownsRow 0 9 1 pv pl.length (pl.map Value.string) → (∀ b, pv.ownBlock = some b → out.ownBlock ≠ some b) → w.ownsRow base 9 1 out m cs →
    Calls Tryz.prog 44 #[.agg #[.int .i64 t.kind, .int .i64 t.num, .string t.text, .slice an t.names.length cn, .slice ak t.kids.length ck], pv, out] w fun e w' => ∃ out', e = .returned out' ∧ w'.ownsRow base 9 1 out' (m + t.cnt) (cs ++ (t.paths (l3T pl)).map strv) ∧ Below base w w' ∧ Keeps w.heap.size out.ownBlock out'.ownBlock w w' := by
  induction n with
  | zero => intro t an ak cn ck w S pv pl out m base cs hn; have := t.cnt_pos; omega
  | succ n ih =>
  rintro ⟨kind, num, text, names, kids⟩ an ak cn ck w S pv pl out m base cs hn hb hpb hp hwn hbd hv hSb hbase hpo hpn hown
  simp only [T.kind, T.num, T.text, T.names, T.kids] at hv ⊢
  obtain ⟨sn, sk, vs, heq, hnames, hrow, hkids⟩ := hv
  simp only [List.cons.injEq, true_and, and_true] at heq
  obtain ⟨rfl, rfl⟩ := heq
  simp only [T.bounded, Bool.and_eq_true] at hbd
  obtain ⟨⟨⟨hb1, hb2⟩, hb3⟩, hb4⟩ := hbd
  obtain ⟨ao, co, rfl⟩ := owns_form hown
  obtain ⟨ap, cp, rfl⟩ := owns_form hpo
  have HO := Lib.hid hown; have HSb := Lib.hid hSb; have HW := Lib.hid hwn; have HPo := Lib.hid hpo; have HPn := Lib.hid hpn
  have HK := Lib.hid hkids; have HN := Lib.hid hnames; have HR := Lib.hid hrow; have H3 := Lib.hid hb3; have H4 := Lib.hid hb4
  clear hkids hnames hown hSb hrow hwn hpo hpn hb1 hb2 hb3 hb4
  obtain ⟨i0, hi, hz0, hz1, hz2⟩ := info_parts info_str
  have hkl : kids.length ≤ 1099511627 := by have := T.cnts_len kids; simp only [T.cnt] at hb; omega
  have HBk := Lib.hid (blk_new w (.cells #[.int .i64 kind, .int .i64 num, .string text, .slice an names.length cn, .slice ak kids.length ck] 59))
  have HA0 := Lib.hid ((Below.refl w.heap.size w).alloc (Nat.le_refl _) (.cells #[.int .i64 kind, .int .i64 num, .string text, .slice an names.length cn, .slice ak kids.length ck] 59))
  have HLT := Lib.hid (l3Text_c pl _ (w.alloc (.cells #[.int .i64 kind, .int .i64 num, .string text, .slice an names.length cn, .slice ak kids.length ck] 59)) (fun _ => True) (Row.of_owns (owns_call HPo.out HA0.out) (fun _ _ => trivial)) (by omega) (by omega))
  obtain ⟨x, hx⟩ : ∃ x : ByteArray, (⟨⟨l3T pl⟩⟩ : ByteArray) = x := ⟨_, rfl⟩
  rw [hx] at HLT
  have HXv := Lib.hid (show Value.string x = strv (l3T pl) by rw [← hx]; rfl)
  clear hx
  go_enter Tryz.func44, Tryz.ntmps44
  go_wp2_with (first
    | (go_at_call 72; refine HLT.out.mono ?_; rintro e w0 ⟨rfl, rfl⟩)
    | (at_builtin; refine wpList_append_lies _ rfl (.tmp 10) (.tmp 13) 35 rfl base 9 i0 _ 1 16 Tryz.underlying35 hi hz0 hz1 hz2 rfl (by decide) (.slice ao m co) m cs rfl ((HO.out.alloc _).alloc _) ⟨w.heap.size + 1, 0, none⟩ 1 1 [.string x] rfl rfl ?c1 (by intro u hu; simp at hu; subst hu; rfl) (Nat.le_refl 1) ?c3 ?c4 ?c5 (w.heap.size + 1 + 1) ?c6 ?_))
  case c1 => intro j u hu; exact cells_new' (by simp) hu
  case c3 => unfold maxLen; omega
  case c4 => omega
  case c5 => simp; omega
  case c6 => simp
  intro g1 q1 w1 hown1 hgr1 hlies1 hlt1
  have hbx : w1.heap[w.heap.size]? = some (.cells #[.int .i64 kind, .int .i64 num, .string text, .slice an names.length cn, .slice ak kids.length ck] 59) := by
    rw [hgr1.block w.heap.size (by simp; omega) (fun e => by have := (HO.out.lt _ e.symm).2; omega), blk_old _ _ (by simp)]; exact HBk.out
  have hB1 : Below base w w1 := (((Below.refl base w).alloc hbase _).alloc (by simp; omega) _).grown hgr1 (by simp; omega) (fun k hk => (HO.out.lt k hk).1)
  have hz1' : w.heap.size < w1.heap.size := by have := hgr1.size; simp at this; omega
  have hk1 : Keeps (w.heap.size + 1) (Value.slice ao m co).ownBlock (some g1) (w.alloc (.cells #[.int .i64 kind, .int .i64 num, .string text, .slice an names.length cn, .slice ak kids.length ck] 59)) w1 := by
    refine ⟨fun b hb hn => ?_, fun b hb e => ?_⟩
    · rw [hgr1.block b (by simp; omega) (fun e => hn e.symm), blk_old _ _ (by simp; omega)]
    · simp only [Option.some.injEq] at e
      subst e
      rcases hlies1 with h | h
      · exact h
      · omega
  have HK1 := Lib.hid hk1
  clear hk1 hlies1
  rw [HXv.out] at hown1
  have HO1 := Lib.hid hown1; have HB1 := Lib.hid hB1; have HBx := Lib.hid hbx
  obtain ⟨d0, d1, d2, d3, d4⟩ := val_cells hbx
  clear hown1 hgr1 hB1 hbx
  go_wp2
  go_loopg [2, 18] kids.length (fun gh out i wr => ∃ k : Nat, k ≤ kids.length ∧ gh = kids.length - k ∧ i = .int .i64 k ∧ ∃ a q, out = .slice a (m + 1 + T.cnts (kids.take k)) q ∧
    Hid (wr.ownsRow base 9 1 (.slice a (m + 1 + T.cnts (kids.take k)) q) (m + 1 + T.cnts (kids.take k)) (cs ++ strv (l3T pl) :: (T.pathss kind names (kids.take k) 0 (l3T pl)).map strv)) ∧ Hid (Below base w1 wr) ∧ Hid (Keeps (w.heap.size + 1) (Value.slice ao m co).ownBlock (Value.slice a (m + 1 + T.cnts (kids.take k)) q).ownBlock (w.alloc (.cells #[.int .i64 kind, .int .i64 num, .string text, .slice an names.length cn, .slice ak kids.length ck] 59)) wr))
  case atStart => exact ⟨0, Nat.zero_le _, by simp, rfl, some ⟨g1, 0, none⟩, q1, by simp [T.cnts], by simpa [T.cnts, T.pathss] using HO1, Below.refl _ _, HK1⟩
  case round =>
    obtain ⟨k, hk, rfl, rfl, a, q, rfl, HOk, HBr, HKp⟩ := hrel
    have HBk' := Lib.hid ((HKp.out.blk w.heap.size (by omega) (fun e => by have := (HO.out.lt _ e).2; omega)).trans HBk.out)
    clear d0 d1 d2 d3 d4 HO1
    obtain ⟨d0, d1, d2, d3, d4⟩ := val_cells HBk'.out
    have hsz := HBr.out.size
    have HBall := Lib.hid (HB1.out.trans HBr.out)
    by_cases hlt : k < kids.length
    · obtain ⟨g, off, an2, cn2, ak2, ck2, rfl, hSg, hkid, x0, x1, x2, x3, x4⟩ := kid_at HR.out HK.out k hlt
      have hgb := HSb.out g hSg
      have y0 := (HBall.out.cell (p := ⟨g, off + k * 5, none⟩) hgb).trans x0
      have y1 := (HBall.out.cell (p := ⟨g, off + k * 5 + 1, none⟩) hgb).trans x1
      have y2 := (HBall.out.cell (p := ⟨g, off + k * 5 + 2, none⟩) hgb).trans x2
      have y3 := (HBall.out.cell (p := ⟨g, off + k * 5 + 3, none⟩) hgb).trans x3
      have y4 := (HBall.out.cell (p := ⟨g, off + k * 5 + 4, none⟩) hgb).trans x4
      clear x0 x1 x2 x3 x4
      have HKid := Lib.hid hkid
      clear hkid
      have hm := T.cnts_take_le kids k
      have hm1 := T.cnts_take_succ kids k hlt
      have hm2 := T.cnts_take_le kids (k + 1)
      have hkc : kids[k].cnt ≤ T.cnts kids := T.cnts_mem (List.getElem_mem _)
      have HM := Lib.hid hm1
      have hkn : kids[k].cnt ≤ n := by simp only [T.cnt] at hn; omega
      have hkb : m + 1 + T.cnts (kids.take k) + kids[k].cnt ≤ 1099511627 := by simp only [T.cnt] at hb; omega
      have hkpl : pl.length + 1 + kids[k].cnt ≤ 1099511627 := by simp only [T.cnt] at hpb; omega
      have hkp : (l3T pl).length + 60 + 60 * kids[k].cnt ≤ 1099511627776 := by simp only [T.cnt] at hp; omega
      have HKw := Lib.hid (T.wns_mem HW.out.2 k hlt)
      have HKb := Lib.hid (T.boundeds_get H4.out k hlt)
      have HX := Lib.hid (T.pathss_take kind names kids 0 k (l3T pl) hlt)
      have hwz : base ≤ wr.heap.size := by omega
      clear hm1 hm hm2 hkc
      have hbz : w.heap.size < wr.heap.size := by omega
      have HNum := Lib.hid (fun (w' : World) => l1Num_c k k w' (Nat.le_refl _) (by omega))
      obtain ⟨x, hx⟩ : ∃ x : ByteArray, (⟨⟨Go.Lib.decDigits k⟩⟩ : ByteArray) = x := ⟨_, rfl⟩
      rw [hx] at HNum
      have HXk := Lib.hid hx
      clear hx
      by_cases h7 : kind = 7
      · obtain ⟨gn, offn, han, hSn, hcn⟩ := HN.out.at (k := k) (by rw [HW.out.1.1 h7]; exact hlt)
        have hgnb := HSb.out gn hSn
        subst han
        have hnl : (k : Int) < (names.length : Int) := by rw [HW.out.1.1 h7]; omega
        subst h7
        go_wp2_with fail
        refine (HNum.out _).mono ?_
        rintro e w2 ⟨rfl, hI⟩
        have HI2 := Lib.hid (((Below.refl wr.heap.size wr).alloc (Nat.le_refl _) (.cells #[.int .i64 kids[k].kind, .int .i64 kids[k].num, .string kids[k].text, .slice an2 kids[k].names.length cn2, .slice ak2 kids[k].kids.length ck2] 59)).trans (hI.mono (by simp)))
        have hbk2 : w2.heap[wr.heap.size]? = some (.cells #[.int .i64 kids[k].kind, .int .i64 kids[k].num, .string kids[k].text, .slice an2 kids[k].names.length cn2, .slice ak2 kids[k].kids.length ck2] 59) := (hI.block wr.heap.size (by simp)).trans (blk_new wr _)
        have hlw2 : wr.heap.size + 1 ≤ w2.heap.size := by have := hI.size; simpa using this
        obtain ⟨b0, b1, b2, b3, b4⟩ := val_cells hbk2
        have HBk2 := Lib.hid hbk2
        have e0 := (HI2.out.cell (p := ⟨w.heap.size, 0, none⟩) hbz).trans d0
        have e3 := (HI2.out.cell (p := ⟨w.heap.size, 3, none⟩) hbz).trans d3
        clear d0 d1 d2 d3 d4 y0 y1 y2 y3 y4 hI hbk2
        have yn := (HI2.out.cell (p := ⟨gn, offn + k, none⟩) (by simp; omega)).trans ((HBall.out.cell (p := ⟨gn, offn + k, none⟩) hgnb).trans hcn)
        obtain ⟨nm, hnm⟩ : ∃ nm, names.getD k ⟨#[]⟩ = nm := ⟨_, rfl⟩
        have HNm := Lib.hid (show nm = sname 7 names k by rw [← hnm]; rfl)
        rw [hnm] at yn
        clear hnm
        have hns : nm.size ≤ 29 := by rw [HNm.out]; exact sname_size H3.out 7 k (by omega)
        have HPo2 := Lib.hid (owns_blk HPo.out (fun g hg => (HI2.out.block g (by have := (HPo.out.lt g hg).2; omega)).trans ((HKp.out.blk g (by have := (HPo.out.lt g hg).2; omega) (fun e => HPn.out g hg e)).trans (blk_old w _ (HPo.out.lt g hg).2))))
        have HOk2 := Lib.hid (owns_call HOk.out HI2.out)
        have HKid2 := Lib.hid (IsV.frame (Below.fr (HBall.out.trans (HI2.out.mono hwz)) HSb.out) (HBall.out.trans (HI2.out.mono hwz)).size HKid.out)
        have HIH := Lib.hid (fun (w4 : World) (v4 : Value) (hb4 : Below w2.heap.size w2 w4) (ho4 : w4.ownsRow w2.heap.size 9 1 v4 (pl ++ [nm]).length ((pl ++ [nm]).map Value.string)) => ih kids[k] an2 ak2 cn2 ck2 w4 S v4 (pl ++ [nm]) (.slice a (m + 1 + T.cnts (kids.take k)) q) (m + 1 + T.cnts (kids.take k)) base _ hkn hkb (by simp; omega) (by rw [l3T_append, l3T_one, List.length_append, List.length_cons]; have := escP_len nm; omega) HKw.out HKb.out
          (IsV.frame (Below.fr (hb4.mono (Nat.le_trans hwz HI2.out.size)) HSb.out) hb4.size HKid2.out) HSb.out (Nat.le_trans (Nat.le_trans hwz HI2.out.size) hb4.size) (owns_base ho4 (Nat.zero_le _)) (fun b h1 h2 => by have := (ho4.lt b h1).1; have := (HOk2.out.lt b h2).2; omega) (owns_call HOk2.out hb4))
        go_upto_region 8 with fail
        go_region_held3 (fun w' => w'.cell? ⟨wr.heap.size, 0, none⟩ = some (.int .i64 kids[k].kind) ∧ w'.cell? ⟨wr.heap.size, 1, none⟩ = some (.int .i64 kids[k].num) ∧ w'.cell? ⟨wr.heap.size, 2, none⟩ = some (.string kids[k].text) ∧ w'.cell? ⟨wr.heap.size, 3, none⟩ = some (.slice an2 kids[k].names.length cn2) ∧ w'.cell? ⟨wr.heap.size, 4, none⟩ = some (.slice ak2 kids[k].kids.length ck2))
          (first | go_keep | exact val_cells ((HK5.out.blk wr.heap.size (by have := HB4.out.size; omega) (fun e => by have := (HOk.out.lt _ e).2; omega)).trans ((HB4.out.block wr.heap.size (by omega)).trans HBk2.out)) | exact val_cells ((HB4.out.block wr.heap.size (by omega)).trans HBk2.out) | exact val_cells ((HB3.out.block wr.heap.size (by omega)).trans HBk2.out))
          (first
            | ((refine step_append_src rfl (.tmp 34) (.tmp 35) 35 rfl w2.heap.size 9 i0 _ 16 Tryz.underlying35 hi hz0 hz1 hz2 (by decide) (.slice (some ⟨_, 0, none⟩) 0 0) 0 [] rfl (owns_e (by first | exact blk1 (by simp <;> omega) | exact blk2 (by simp <;> omega)) (by simp <;> omega)) 0 9 (.slice ap pl.length cp) pl.length (pl.map Value.string) rfl (by first | exact HPo2.out.alloc _ | exact (HPo2.out.alloc _).alloc _) (str_cells _) (by unfold maxLen; omega) (by omega) (by simp <;> omega) ?_); intro v3 w3 hown3 hgr3; rw [Nat.zero_add, List.nil_append] at hown3; obtain ⟨a3, c3, rfl⟩ := owns_form hown3; have HB3 := Lib.hid (show Below w2.heap.size w2 w3 by first | exact ((Below.refl _ _).drew.alloc (by simp <;> omega) _).grown hgr3 (by simp <;> omega) (by intro k hk; simp [Value.ownBlock] at hk; omega) | exact (((Below.refl _ _).drew.alloc (by simp <;> omega) _).alloc (by simp <;> omega) _).grown hgr3 (by simp <;> omega) (by intro k hk; simp [Value.ownBlock] at hk; omega)); have HN3 := Lib.hid hgr3; have HO3 := Lib.hid hown3; clear hown3 hgr3)
            | ((first | refine step_append_own rfl (.tmp 36) (.tmp 38) 35 rfl w2.heap.size 9 i0 _ 1 16 Tryz.underlying35 hi hz0 hz1 hz2 rfl (by decide) (.slice a3 pl.length c3) _ _ rfl (HO3.out.alloc _) ⟨w3.heap.size, 0, none⟩ 1 1 [.string nm] rfl rfl (by intro j u hu; exact cells_new hu) (str_cells [nm]) (by unfold maxLen; omega) (by omega) (by have := HB3.out.size; simp; omega) ?_ | refine step_append_own rfl (.tmp 36) (.tmp 38) 35 rfl w2.heap.size 9 i0 _ 1 16 Tryz.underlying35 hi hz0 hz1 hz2 rfl (by decide) (.slice a3 pl.length c3) _ _ rfl HO3.out _ 1 1 [.string nm] rfl rfl (World.news_of_block ((HN3.out.block _ (by simp <;> omega) (by simp [Value.ownBlock])).trans (by first | exact blk1 (by simp <;> omega) | exact blk2 (by simp <;> omega)))) (str_cells [nm]) (by unfold maxLen; omega) (by omega) (by have := HB3.out.size; omega) ?_); intro v4 w4 hown4 hgr4; obtain ⟨a4, c4, rfl⟩ := owns_form hown4; have HB4 := Lib.hid (show Below w2.heap.size w2 w4 by first | exact (HB3.out.alloc HB3.out.size _).grown hgr4 (by have := HB3.out.size; simp; omega) (fun k hk => (HO3.out.lt k hk).1) | exact HB3.out.grown hgr4 HB3.out.size (fun k hk => (HO3.out.lt k hk).1)); have HO4 := Lib.hid hown4; clear hown4 hgr4)
            | (go_simp; go_at_call 44; refine (HIH.out w4 _ HB4.out (by simpa using HO4.out)).mono ?_; rintro e w5 ⟨out', rfl, hown5, hB5, hK5⟩; obtain ⟨a5, q5, rfl⟩ := owns_form hown5; have HO5 := Lib.hid hown5; have HB5 := Lib.hid hB5; have HK5 := Lib.hid hK5; clear hown5 hB5 hK5))
        all_goals go_wp2
        all_goals go_roundg (kids.length - (k + 1))
        all_goals first
          | (case measure => omega)
          | (case rel =>
              have hx' := HX.out
              rw [Nat.zero_add] at hx'
              have h := HO5.out
              rw [l3T_append, l3T_one, HNm.out, escP_sname, Nat.add_assoc, List.append_assoc, List.cons_append, ← List.map_append, ← hx', Nat.add_assoc, ← HM.out, ← Nat.add_assoc] at h
              have hk := HKp.out.trans ((Keeps.of_below (s0 := wr.heap.size) (HI2.out.trans (HB4.out.mono HI2.out.size)) (Nat.le_refl _)).trans HK5.out (Nat.le_trans HI2.out.size HB4.out.size)) (by omega)
              rw [Nat.add_assoc, ← HM.out] at hk
              exact ⟨k + 1, hlt, rfl, by go_num, a5, q5, by rw [HM.out]; simp; omega, h, HBr.out.trans (((HI2.out.mono hwz).trans (HB4.out.mono (Nat.le_trans hwz HI2.out.size))).trans HB5.out), hk⟩)
      · have h7' : (kind == 7) = false := by simpa using h7
        go_wp2_with fail
        refine (HNum.out _).mono ?_
        rintro e w2 ⟨rfl, hI⟩
        have HI2 := Lib.hid (((Below.refl wr.heap.size wr).alloc (Nat.le_refl _) (.cells #[.int .i64 kids[k].kind, .int .i64 kids[k].num, .string kids[k].text, .slice an2 kids[k].names.length cn2, .slice ak2 kids[k].kids.length ck2] 59)).trans (hI.mono (by simp <;> omega)))
        have hbk2 : w2.heap[wr.heap.size]? = some (.cells #[.int .i64 kids[k].kind, .int .i64 kids[k].num, .string kids[k].text, .slice an2 kids[k].names.length cn2, .slice ak2 kids[k].kids.length ck2] 59) := (hI.block wr.heap.size (by simp <;> omega)).trans (blk_new wr _)
        have hlw2 : wr.heap.size + 1 ≤ w2.heap.size := by have := hI.size; simpa using this
        obtain ⟨b0, b1, b2, b3, b4⟩ := val_cells hbk2
        have HBk2 := Lib.hid hbk2
        have e0 := (HI2.out.cell (p := ⟨w.heap.size, 0, none⟩) hbz).trans d0
        have e3 := (HI2.out.cell (p := ⟨w.heap.size, 3, none⟩) hbz).trans d3
        clear d0 d1 d2 d3 d4 y0 y1 y2 y3 y4 hI hbk2
        have HNm := Lib.hid (show x = sname kind names k by rw [← HXk.out]; unfold sname; rw [if_neg h7])
        have hns : x.size ≤ 29 := by rw [HNm.out]; exact sname_size H3.out kind k (by omega)
        have HPo2 := Lib.hid (owns_blk HPo.out (fun g hg => (HI2.out.block g (by have := (HPo.out.lt g hg).2; omega)).trans ((HKp.out.blk g (by have := (HPo.out.lt g hg).2; omega) (fun e => HPn.out g hg e)).trans (blk_old w _ (HPo.out.lt g hg).2))))
        have HOk2 := Lib.hid (owns_call HOk.out HI2.out)
        have HKid2 := Lib.hid (IsV.frame (Below.fr (HBall.out.trans (HI2.out.mono hwz)) HSb.out) (HBall.out.trans (HI2.out.mono hwz)).size HKid.out)
        have HIH := Lib.hid (fun (w4 : World) (v4 : Value) (hb4 : Below w2.heap.size w2 w4) (ho4 : w4.ownsRow w2.heap.size 9 1 v4 (pl ++ [x]).length ((pl ++ [x]).map Value.string)) => ih kids[k] an2 ak2 cn2 ck2 w4 S v4 (pl ++ [x]) (.slice a (m + 1 + T.cnts (kids.take k)) q) (m + 1 + T.cnts (kids.take k)) base _ hkn hkb (by simp; omega) (by rw [l3T_append, l3T_one, List.length_append, List.length_cons]; have := escP_len x; omega) HKw.out HKb.out
          (IsV.frame (Below.fr (hb4.mono (Nat.le_trans hwz HI2.out.size)) HSb.out) hb4.size HKid2.out) HSb.out (Nat.le_trans (Nat.le_trans hwz HI2.out.size) hb4.size) (owns_base ho4 (Nat.zero_le _)) (fun b h1 h2 => by have := (ho4.lt b h1).1; have := (HOk2.out.lt b h2).2; omega) (owns_call HOk2.out hb4))
        go_upto_region 8 with fail
        go_region_held3 (fun w' => w'.cell? ⟨wr.heap.size, 0, none⟩ = some (.int .i64 kids[k].kind) ∧ w'.cell? ⟨wr.heap.size, 1, none⟩ = some (.int .i64 kids[k].num) ∧ w'.cell? ⟨wr.heap.size, 2, none⟩ = some (.string kids[k].text) ∧ w'.cell? ⟨wr.heap.size, 3, none⟩ = some (.slice an2 kids[k].names.length cn2) ∧ w'.cell? ⟨wr.heap.size, 4, none⟩ = some (.slice ak2 kids[k].kids.length ck2))
          (first | go_keep | exact val_cells ((HK5.out.blk wr.heap.size (by have := HB4.out.size; omega) (fun e => by have := (HOk.out.lt _ e).2; omega)).trans ((HB4.out.block wr.heap.size (by omega)).trans HBk2.out)) | exact val_cells ((HB4.out.block wr.heap.size (by omega)).trans HBk2.out) | exact val_cells ((HB3.out.block wr.heap.size (by omega)).trans HBk2.out))
          (first
            | ((refine step_append_src rfl (.tmp 34) (.tmp 35) 35 rfl w2.heap.size 9 i0 _ 16 Tryz.underlying35 hi hz0 hz1 hz2 (by decide) (.slice (some ⟨_, 0, none⟩) 0 0) 0 [] rfl (owns_e (by first | exact blk1 (by simp <;> omega) | exact blk2 (by simp <;> omega)) (by simp <;> omega)) 0 9 (.slice ap pl.length cp) pl.length (pl.map Value.string) rfl (by first | exact HPo2.out.alloc _ | exact (HPo2.out.alloc _).alloc _) (str_cells _) (by unfold maxLen; omega) (by omega) (by simp <;> omega) ?_); intro v3 w3 hown3 hgr3; rw [Nat.zero_add, List.nil_append] at hown3; obtain ⟨a3, c3, rfl⟩ := owns_form hown3; have HB3 := Lib.hid (show Below w2.heap.size w2 w3 by first | exact ((Below.refl _ _).drew.alloc (by simp <;> omega) _).grown hgr3 (by simp <;> omega) (by intro k hk; simp [Value.ownBlock] at hk; omega) | exact (((Below.refl _ _).drew.alloc (by simp <;> omega) _).alloc (by simp <;> omega) _).grown hgr3 (by simp <;> omega) (by intro k hk; simp [Value.ownBlock] at hk; omega)); have HN3 := Lib.hid hgr3; have HO3 := Lib.hid hown3; clear hown3 hgr3)
            | ((first | refine step_append_own rfl (.tmp 36) (.tmp 38) 35 rfl w2.heap.size 9 i0 _ 1 16 Tryz.underlying35 hi hz0 hz1 hz2 rfl (by decide) (.slice a3 pl.length c3) _ _ rfl (HO3.out.alloc _) ⟨w3.heap.size, 0, none⟩ 1 1 [.string x] rfl rfl (by intro j u hu; exact cells_new hu) (str_cells [x]) (by unfold maxLen; omega) (by omega) (by have := HB3.out.size; simp; omega) ?_ | refine step_append_own rfl (.tmp 36) (.tmp 38) 35 rfl w2.heap.size 9 i0 _ 1 16 Tryz.underlying35 hi hz0 hz1 hz2 rfl (by decide) (.slice a3 pl.length c3) _ _ rfl HO3.out _ 1 1 [.string x] rfl rfl (World.news_of_block ((HN3.out.block _ (by simp <;> omega) (by simp [Value.ownBlock])).trans (by first | exact blk1 (by simp <;> omega) | exact blk2 (by simp <;> omega)))) (str_cells [x]) (by unfold maxLen; omega) (by omega) (by have := HB3.out.size; omega) ?_); intro v4 w4 hown4 hgr4; obtain ⟨a4, c4, rfl⟩ := owns_form hown4; have HB4 := Lib.hid (show Below w2.heap.size w2 w4 by first | exact (HB3.out.alloc HB3.out.size _).grown hgr4 (by have := HB3.out.size; simp; omega) (fun k hk => (HO3.out.lt k hk).1) | exact HB3.out.grown hgr4 HB3.out.size (fun k hk => (HO3.out.lt k hk).1)); have HO4 := Lib.hid hown4; clear hown4 hgr4)
            | (go_simp; go_at_call 44; refine (HIH.out w4 _ HB4.out (by simpa using HO4.out)).mono ?_; rintro e w5 ⟨out', rfl, hown5, hB5, hK5⟩; obtain ⟨a5, q5, rfl⟩ := owns_form hown5; have HO5 := Lib.hid hown5; have HB5 := Lib.hid hB5; have HK5 := Lib.hid hK5; clear hown5 hB5 hK5))
        all_goals go_wp2
        all_goals go_roundg (kids.length - (k + 1))
        all_goals first
          | (case measure => omega)
          | (case rel =>
              have hx' := HX.out
              rw [Nat.zero_add] at hx'
              have h := HO5.out
              rw [l3T_append, l3T_one, HNm.out, escP_sname, Nat.add_assoc, List.append_assoc, List.cons_append, ← List.map_append, ← hx', Nat.add_assoc, ← HM.out, ← Nat.add_assoc] at h
              have hk := HKp.out.trans ((Keeps.of_below (s0 := wr.heap.size) (HI2.out.trans (HB4.out.mono HI2.out.size)) (Nat.le_refl _)).trans HK5.out (Nat.le_trans HI2.out.size HB4.out.size)) (by omega)
              rw [Nat.add_assoc, ← HM.out] at hk
              exact ⟨k + 1, hlt, rfl, by go_num, a5, q5, by rw [HM.out]; simp; omega, h, HBr.out.trans (((HI2.out.mono hwz).trans (HB4.out.mono (Nat.le_trans hwz HI2.out.size))).trans HB5.out), hk⟩)
    · have : k = kids.length := by omega
      subst this
      go_wp2
      go_ret
      refine ⟨.slice a (m + 1 + T.cnts (kids.take kids.length)) q, rfl, ?_, HBall.out, (Keeps.alloc _ (Nat.le_refl _)).trans HKp.out (by omega)⟩
      have h := HOk.out
      rw [List.take_length] at h ⊢
      simp only [T.cnt, T.paths, List.map_cons]
      rw [show m + (T.cnts kids + 1) = m + 1 + T.cnts kids by omega]
      exact h
end Go.Proofs.YtbldchemgkfdcaaGreatDoor
