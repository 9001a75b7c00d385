/- impl.val.clean. -/
import Derived.Test.YtbldchemgkfdcaaGreatDoorVD
import Derived.Test.YtbldchemgkfdcaaGreatDoorRegN
import Derived.Test.YtbldchemgkfdcaaGreatDoorCleanP
import Derived.Test.YtbldchemgkfdcaaGreatDoorValOf
namespace Go.Proofs.YtbldchemgkfdcaaGreatDoor
open Go.RowKit

set_option linter.unusedSimpArgs false in
set_option maxRecDepth 100000 in
set_option maxHeartbeats 2000000 in
theorem clean_c (n : Nat) : ∀ (t : T) (v : Value) (w : World) (S : Nat → Prop), t.cnt ≤ n → t.cnt ≤ 1099511627 → t.wn → IsVal w S t v → (∀ b, S b → b < w.heap.size) →
    Calls Tryz.prog 51 #[v] w fun e w' => ∃ v', e = .returned v' ∧ IsVal w' (fun b => S b ∨ w.heap.size ≤ b) t.clean v' ∧ Below w.heap.size w w' := by
  induction n with
  | zero => intro t v w S hn; have := t.cnt_pos; omega
  | succ n ih =>
  rintro ⟨kind, num, text, names, kids⟩ v w S hn hb hwn hv hSb
  have HV0 := Lib.hid hv
  obtain ⟨b, sn, sk, vs, rfl, hS, hblk, hnames, hrow, hkids⟩ := hv
  have hbb := hSb _ hS
  have c0 := cell_blk hblk 0
  have c3 := cell_blk hblk 3
  have c4 := cell_blk hblk 4
  simp only [List.getElem?_toArray, List.getElem?_cons_zero, List.getElem?_cons_succ] at c0 c3 c4
  obtain ⟨an, cn, rfl⟩ := Row.form hnames
  obtain ⟨ak, ck, rfl⟩ := hrow.form
  have HSb := Lib.hid hSb; have HW := Lib.hid hwn
  have HBk := Lib.hid hblk; have HK := Lib.hid hkids; have HN := Lib.hid hnames; have HR := Lib.hid hrow
  clear hblk hkids hnames hSb hrow hwn
  by_cases h7 : kind = 7
  · have HC : Hid ((T.mk kind num text names kids).clean = .mk 7 0 ⟨#[]⟩ (cnames names kids) (T.cleans kids)) := by unfold Hid; rw [T.clean, if_pos h7]
    have hnl : names.length = kids.length := HW.out.1.1 h7
    have hkl : kids.length ≤ 1099511627 := by have := T.cnts_len kids; simp only [T.cnt] at hb; omega
    subst h7
    have HB0 := Lib.hid ((Below.refl w.heap.size w).alloc (Nat.le_refl _) (.cells #[.int .i64 7, .int .i64 0, .string ⟨#[]⟩, .slice none 0 0, .slice none 0 0] 103))
    have HD0 : Hid (VD (w.alloc (.cells #[.int .i64 7, .int .i64 0, .string ⟨#[]⟩, .slice none 0 0, .slice none 0 0] 103)) w.heap.size w.heap.size (.slice none 0 0) (.slice none 0 0) (.slice none 0 0) [] (.slice none 0 0) [] (fun b => S b ∨ w.heap.size ≤ b) [] []) :=
      ⟨Nat.le_refl _, blk_new w _, World.ownsRow_nil _ _ _ _, World.ownsRow_nil _ _ _ _, trivial⟩
    clear HV0
    go_enter Tryz.func51, Tryz.ntmps51
    go_wp2
    go_loopg [19] kids.length (fun gh i wr => ∃ k : Nat, k ≤ kids.length ∧ gh = kids.length - k ∧ i = .int .i64 k ∧ Hid (Below w.heap.size w wr) ∧ Hid (∃ nv kv kn, VD wr w.heap.size w.heap.size nv kv nv (cnames (names.take k) (kids.take k)) kv kn (fun b => S b ∨ w.heap.size ≤ b) (T.cleans (kids.take k)) kn))
    case atStart => exact ⟨0, Nat.zero_le _, by simp, rfl, HB0.out, _, _, _, HD0.out⟩
    case round =>
      obtain ⟨k, hk, rfl, rfl, HBr, HDe⟩ := hrel
      obtain ⟨nv, kv, kn, hD⟩ := HDe.out
      obtain ⟨nn, hnn⟩ : ∃ nn, cnames (names.take k) (kids.take k) = nn := ⟨_, rfl⟩
      obtain ⟨ts, hts⟩ : ∃ ts, T.cleans (kids.take k) = ts := ⟨_, rfl⟩
      rw [hnn, hts] at hD
      have hsz := HBr.out.size
      obtain ⟨d0, d1, d2, d3, d4⟩ := val_cells hD.blk
      obtain ⟨xn, qn, rfl⟩ := owns_form hD.on
      obtain ⟨xk, qk, rfl⟩ := owns_form hD.ok
      have HD := Lib.hid hD
      clear hD HDe
      obtain ⟨iq, hiq, hq0, hq1, hq2⟩ := info_parts info_str
      obtain ⟨ip, hip, hp0, hp1, hp2⟩ := info_parts info_pval
      by_cases hlt : k < kids.length
      · obtain ⟨g, off, u, hak, hSg, hg, hu, hcell⟩ := HR.out.at1 hlt
        subst hak
        have hgb := HSb.out g hSg
        obtain ⟨v, hv1, hkid⟩ := (HK.out.get).2 k hlt
        obtain rfl : u = v := Option.some.inj (hu.symm.trans hv1)
        have y := (HBr.out.cell (p := ⟨g, off + k, none⟩) hgb).trans hcell
        have e0 := (HBr.out.cell (p := ⟨b, 0, none⟩) hbb).trans c0
        have e3 := (HBr.out.cell (p := ⟨b, 3, none⟩) hbb).trans c3
        have HKid := Lib.hid hkid
        have hkc : kids[k].cnt ≤ T.cnts kids := T.cnts_mem (List.getElem_mem _)
        have hnl2 : nn.length ≤ kids.length := by
          rw [← hnn, cnames_len _ _ (by simp; omega)]
          have := T.cleans_len (kids.take k); simp at this; omega
        have hkl2 : kn.length ≤ kids.length := by
          rw [HD.out.len, ← hts]
          have := T.cleans_len (kids.take k); simp at this; omega
        have hkn : kids[k].cnt ≤ n := by simp only [T.cnt] at hn; omega
        have hkb : kids[k].cnt ≤ 1099511627 := by simp only [T.cnt] at hb; omega
        have HKw := Lib.hid (T.wns_mem HW.out.2 k hlt)
        obtain ⟨nm, hnm⟩ : ∃ nm, names.getD k ⟨#[]⟩ = nm := ⟨_, rfl⟩
        have hnm' : names[k] = nm := by rw [← hnm]; simp [show k < names.length by omega]
        have hx1 := T.cleans_take kids k hlt
        have hx2 := cnames_take names kids k hlt (by omega)
        rw [hts] at hx1
        rw [hnn, hnm'] at hx2
        have HX1 := Lib.hid hx1
        have HX2 := Lib.hid hx2
        clear hx1 hx2 hnm'
        obtain ⟨gn, offn, han, hSn, hcn⟩ := HN.out.at (k := k) (by omega)
        subst han
        have hgnb := HSb.out gn hSn
        rw [hnm] at hcn
        have cn' := hcn
        have c3' := c3
        clear hnm
        have yn' := (HBr.out.cell (p := ⟨gn, offn + k, none⟩) hgnb).trans hcn
        have hkk : ∃ bk, u = .pointer (some ⟨bk, 0, none⟩) ∧ S bk ∧ w.cell? ⟨bk, 0, none⟩ = some (.int .i64 kids[k].kind) := by
          obtain ⟨tk, htk⟩ : ∃ tk, kids[k] = tk := ⟨_, rfl⟩
          rw [htk] at hkid ⊢
          obtain ⟨kk, num', text', names', kids'⟩ := tk
          obtain ⟨bk, sn', sk', vs', hv', hSk, hblk', _⟩ := hkid
          exact ⟨bk, hv', hSk, cell_blk hblk' 0⟩
        obtain ⟨bk, rfl, hSk, hck⟩ := hkk
        have yk := (HBr.out.cell (p := ⟨bk, 0, none⟩) (HSb.out bk hSk)).trans hck
        clear hkid hck hcell hv1 hu c0 c3 c4
        by_cases h1 : kids[k].kind = 1
        · rw [if_pos h1, List.append_nil] at HX1 HX2
          rw [h1] at yk
          clear h1
          go_wp2
          go_roundg (kids.length - (k + 1))
          case measure => omega
          case rel => exact ⟨k + 1, hlt, rfl, by go_num, HBr, _, _, kn, by rw [HX1.out, HX2.out]; exact HD.out⟩
        · rw [if_neg h1] at HX1 HX2
          have h1' : (kids[k].kind != 1) = true := by simpa using h1
          go_upto_region 8 with fail
          have hkI : (k : Int) < (names.length : Int) := by omega
          refine wp_region_N (fun w' => w'.cell? ⟨w.heap.size, 3, none⟩ = some (.slice xn nn.length qn) ∧ w'.cell? ⟨w.heap.size, 4, none⟩ = some (.slice xk kn.length qk) ∧ w'.cell? ⟨b, 3, none⟩ = some (.slice (some ⟨gn, offn, none⟩) names.length cn) ∧ w'.cell? ⟨gn, offn + k, none⟩ = some (.string nm)) 25 (by kernel_rfl) ?_
          have hS0 : (fun w' => w'.cell? ⟨w.heap.size, 3, none⟩ = some (.slice xn nn.length qn) ∧ w'.cell? ⟨w.heap.size, 4, none⟩ = some (.slice xk kn.length qk) ∧ w'.cell? ⟨b, 3, none⟩ = some (.slice (some ⟨gn, offn, none⟩) names.length cn) ∧ w'.cell? ⟨gn, offn + k, none⟩ = some (.string nm)) wr.drew := ⟨d3, d4, e3, yn'⟩
          refine wpAnyN_pure (i := 0) (v := ?_) (some 29) rfl rfl (by kernel_rfl) (by kernel_rfl) (by kernel_rfl) (by decide) (fun _ _ _ h => h) (Or.inl ⟨by rfl, ?_⟩) (fun _ => hS0) ?_
          rotate_left
          · intro wz _; go_simp
            try with_reducible rfl
          simp only [Act.put, List.setIfInBounds_toArray, List.set_cons_zero, List.set_cons_succ]
          refine wpAnyN_pure (i := 1) (v := ?_) (some 30) rfl rfl (by kernel_rfl) (by kernel_rfl) (by kernel_rfl) (by decide) (fun _ _ _ h => h) (Or.inl ⟨by rfl, ?_⟩) (fun _ => hS0) ?_
          rotate_left
          · intro wz _; go_simp
            try with_reducible rfl
          simp only [Act.put, List.setIfInBounds_toArray, List.set_cons_zero, List.set_cons_succ]
          refine wpAnyN_pure (i := 2) (v := ?_) (some 31) rfl rfl (by kernel_rfl) (by kernel_rfl) (by kernel_rfl) (by decide) (fun _ _ _ h => h) (Or.inl ⟨by rfl, ?_⟩) (fun _ => hS0) ?_
          rotate_left
          · intro wz _; go_simp
            try with_reducible rfl
          simp only [Act.put, List.setIfInBounds_toArray, List.set_cons_zero, List.set_cons_succ]
          refine wpAnyN_pure (i := 3) (v := ?_) (some 32) rfl rfl (by kernel_rfl) (by kernel_rfl) (by kernel_rfl) (by decide) (fun _ _ _ h => h) (Or.inl ⟨by rfl, ?_⟩) (fun _ => hS0) ?_
          rotate_left
          · intro wz _; go_simp
            try with_reducible rfl
          simp only [Act.put, List.setIfInBounds_toArray, List.set_cons_zero, List.set_cons_succ]
          refine wpAnyN_pure (i := 4) (v := ?_) (some 33) rfl rfl (by kernel_rfl) (by kernel_rfl) (by kernel_rfl) (by decide) (fun _ _ _ h => h) (Or.inl ⟨by rfl, ?_⟩) (fun _ => hS0) ?_
          rotate_left
          · intro wz _; go_simp
            try with_reducible rfl
          simp only [Act.put, List.setIfInBounds_toArray, List.set_cons_zero, List.set_cons_succ]
          refine wpAnyN_take (i := 5) (v := ?_) (some 34) rfl rfl (by kernel_rfl) (by kernel_rfl) (by kernel_rfl) (by kernel_rfl) (by decide) (by kernel_rfl) (fun _ _ _ h => h) (Or.inl ⟨by rfl, ?_⟩) hS0 ?_
          rotate_left
          · intro wz hSw; obtain ⟨s1, s2, s3, s4⟩ := hSw; go_simp
            try with_reducible rfl
          simp only [Act.put, List.setIfInBounds_toArray, List.set_cons_zero, List.set_cons_succ]
          refine wpAnyN_pure (i := 6) (v := ?_) (some 35) rfl rfl (by kernel_rfl) (by kernel_rfl) (by kernel_rfl) (by decide) (fun _ _ _ h => h) (Or.inl ⟨by rfl, ?_⟩) (fun _ => hS0) ?_
          rotate_left
          · intro wz _; go_simp
            try with_reducible rfl
          simp only [Act.put, List.setIfInBounds_toArray, List.set_cons_zero, List.set_cons_succ]
          refine wpAnyN_pure (i := 7) (v := ?_) (some 36) rfl rfl (by kernel_rfl) (by kernel_rfl) (by kernel_rfl) (by decide) (fun _ _ _ h => h) (Or.inl ⟨by rfl, ?_⟩) (fun _ => hS0) ?_
          rotate_left
          · intro wz _; go_simp
            try with_reducible rfl
          simp only [Act.put, List.setIfInBounds_toArray, List.set_cons_zero, List.set_cons_succ]
          refine wpAnyN_pure (i := 8) (v := ?_) (some 37) rfl rfl (by kernel_rfl) (by kernel_rfl) (by kernel_rfl) (by decide) (fun _ _ _ h => h) (Or.inl ⟨by rfl, ?_⟩) (fun _ => hS0) ?_
          rotate_left
          · intro wz _; go_simp
            try with_reducible rfl
          simp only [Act.put, List.setIfInBounds_toArray, List.set_cons_zero, List.set_cons_succ]
          refine wpAnyN_take (i := 9) (v := ?_) (some 38) rfl rfl (by kernel_rfl) (by kernel_rfl) (by kernel_rfl) (by kernel_rfl) (by decide) (by kernel_rfl) (fun _ _ _ h => h) (Or.inl ⟨by rfl, ?_⟩) hS0 ?_
          rotate_left
          · intro wz hSw; obtain ⟨s1, s2, s3, s4⟩ := hSw; go_simp
            try with_reducible rfl
          simp only [Act.put, List.setIfInBounds_toArray, List.set_cons_zero, List.set_cons_succ]
          refine wpAnyN_pure (i := 10) (v := ?_) (some 39) rfl rfl (by kernel_rfl) (by kernel_rfl) (by kernel_rfl) (by decide) (fun _ _ _ h => h) (Or.inl ⟨by rfl, ?_⟩) (fun _ => hS0) ?_
          rotate_left
          · intro wz _; go_simp
            try with_reducible rfl
          simp only [Act.put, List.setIfInBounds_toArray, List.set_cons_zero, List.set_cons_succ]
          refine wpAnyN_pure (i := 11) (v := ?_) (some 40) rfl rfl (by kernel_rfl) (by kernel_rfl) (by kernel_rfl) (by decide) (fun _ _ _ h => h) (Or.inl ⟨by rfl, ?_⟩) (fun _ => hS0) ?_
          rotate_left
          · intro wz _; go_simp
            try with_reducible rfl
          simp only [Act.put, List.setIfInBounds_toArray, List.set_cons_zero, List.set_cons_succ]
          refine wpAnyN_take (i := 12) (v := ?_) (some 41) rfl rfl (by kernel_rfl) (by kernel_rfl) (by kernel_rfl) (by kernel_rfl) (by decide) (by kernel_rfl) (fun _ _ _ h => h) (Or.inl ⟨by rfl, ?_⟩) hS0 ?_
          rotate_left
          · intro wz hSw; obtain ⟨s1, s2, s3, s4⟩ := hSw; go_simp
            try with_reducible rfl
          simp only [Act.put, List.setIfInBounds_toArray, List.set_cons_zero, List.set_cons_succ]
          refine wpAnyN_pure (i := 15) (v := ?_) (some 44) rfl rfl (by kernel_rfl) (by kernel_rfl) (by kernel_rfl) (by decide) (fun _ _ _ h => h) (Or.inl ⟨by rfl, ?_⟩) (fun _ => hS0) ?_
          rotate_left
          · intro wz _; go_simp
            try with_reducible rfl
          simp only [Act.put, List.setIfInBounds_toArray, List.set_cons_zero, List.set_cons_succ]
          refine wpAnyN_pure (i := 16) (v := ?_) (some 45) rfl rfl (by kernel_rfl) (by kernel_rfl) (by kernel_rfl) (by decide) (fun _ _ _ h => h) (Or.inl ⟨by rfl, ?_⟩) (fun _ => hS0) ?_
          rotate_left
          · intro wz _; go_simp
            try with_reducible rfl
          simp only [Act.put, List.setIfInBounds_toArray, List.set_cons_zero, List.set_cons_succ]
          refine wpAnyN_pure (i := 17) (v := ?_) (some 46) rfl rfl (by kernel_rfl) (by kernel_rfl) (by kernel_rfl) (by decide) (fun _ _ _ h => h) (Or.inl ⟨by rfl, ?_⟩) (fun _ => hS0) ?_
          rotate_left
          · intro wz _; go_simp
            try with_reducible rfl
          simp only [Act.put, List.setIfInBounds_toArray, List.set_cons_zero, List.set_cons_succ]
          refine wpAnyN_take (i := 18) (v := ?_) (some 47) rfl rfl (by kernel_rfl) (by kernel_rfl) (by kernel_rfl) (by kernel_rfl) (by decide) (by kernel_rfl) (fun _ _ _ h => h) (Or.inl ⟨by rfl, ?_⟩) hS0 ?_
          rotate_left
          · intro wz hSw; obtain ⟨s1, s2, s3, s4⟩ := hSw; go_simp
            try with_reducible rfl
          simp only [Act.put, List.setIfInBounds_toArray, List.set_cons_zero, List.set_cons_succ]
          refine wpAnyN_pure (i := 19) (v := ?_) (some 48) rfl rfl (by kernel_rfl) (by kernel_rfl) (by kernel_rfl) (by decide) (fun _ _ _ h => h) (Or.inl ⟨by rfl, ?_⟩) (fun _ => hS0) ?_
          rotate_left
          · intro wz _; go_simp
            try with_reducible rfl
          simp only [Act.put, List.setIfInBounds_toArray, List.set_cons_zero, List.set_cons_succ]
          have HZ3 := Lib.hid (((Below.refl wr.heap.size wr).drew).alloc (Nat.le_refl _) (.cells #[.string nm] 9))
          refine wpAnyN_one (i := 13) (by kernel_rfl) rfl (fun K hK => ?_)
          go_simp
          have HB3 := Lib.hid (HBr.out.trans (HZ3.out.mono hsz))
          have HD3 := Lib.hid (HD.out.call HZ3.out)
          have hb42 : (wr.drew.alloc (.cells #[.string nm] 9)).heap[wr.heap.size]? = some (.cells #[.string nm] 9 (0, 0)) := blk_new wr.drew _
          refine hK.out _ (wr.drew.alloc (.cells #[.string nm] 9)) ⟨cell_blk HD3.out.blk 3, cell_blk HD3.out.blk 4, (HB3.out.cell (p := ⟨b, 3, none⟩) hbb).trans c3', (HB3.out.cell (p := ⟨gn, offn + k, none⟩) hgnb).trans cn'⟩ ?_
          obtain ⟨w3, hw3⟩ : ∃ w3, wr.drew.alloc (.cells #[.string nm] 9) = w3 := ⟨_, rfl⟩
          rw [hw3] at HB3 HD3 hb42 HZ3 ⊢
          clear hw3
          clear hK K HD HBr
          refine wpAnyN_one (i := 14) (by kernel_rfl) rfl (fun K hK => ?_)
          refine step_append_lies _ rfl (.tmp 34) (.tmp 42) 35 rfl w.heap.size 9 iq _ 1 16 Tryz.underlying35 hiq hq0 hq1 hq2 rfl (by decide) (.slice xn nn.length qn) nn.length _ rfl HD3.out.on ⟨wr.heap.size, 0, none⟩ 1 1 [.string nm] rfl rfl (World.news_of_block hb42) (by intro u hu; simp at hu; subst hu; rfl) (Nat.le_refl 1) (by unfold maxLen; omega) (by omega) HB3.out.size w3.heap.size rfl ?_
          intro g4 q4 w4 hown4 hgr4 hlies4 hlt4
          have HB4 := Lib.hid (HB3.out.grown hgr4 HB3.out.size (fun k hk => (HD3.out.on.lt k hk).1))
          have HD4 := Lib.hid (HD3.out.appN hown4 hgr4 (lies_own hlies4))
          clear hown4 hgr4 hlies4
          refine hK.out _ w4 ⟨cell_blk HD4.out.blk 3, cell_blk HD4.out.blk 4, (HB4.out.cell (p := ⟨b, 3, none⟩) hbb).trans c3', (HB4.out.cell (p := ⟨gn, offn + k, none⟩) hgnb).trans cn'⟩ ?_
          clear hK K HD3 HB3 hb42 HZ3
          simp only [Act.put, List.setIfInBounds_toArray, List.set_cons_zero, List.set_cons_succ]
          have hih := ih kids[k] _ w4 S hkn hkb HKw.out (IsVal.frame (Below.fr HB4.out HSb.out) HB4.out.size HKid.out) (fun b hb => by have := HSb.out b hb; have := HB4.out.size; omega)
          refine wpAnyN_one (i := 20) (by kernel_rfl) rfl (fun K hK => ?_)
          go_simp
          go_wp2_with (go_at_call 51; refine hih.mono ?_; rintro e w5 ⟨v5, rfl, hv5, hB5⟩; obtain ⟨b5, rfl, _⟩ := hv5.ptr)
          have HB5 := Lib.hid (HB4.out.trans (hB5.mono HB4.out.size))
          have HD5 := Lib.hid ((HD4.out.call hB5).pend hv5 (fun b hb => by
            have h1 := HD4.out.lt
            have h2 := HD4.out.on.lt b; have h3 := HD4.out.ok.lt b
            rcases hb with hb | hb
            · have := HSb.out b hb
              exact ⟨.inl hb, by omega, fun e => by have := h2 e; omega, fun e => by have := h3 e; omega⟩
            · exact ⟨.inr (by omega), by omega, fun e => by have := h2 e; omega, fun e => by have := h3 e; omega⟩))
          clear hih hv5 hB5
          refine hK.out _ w5 ⟨cell_blk HD5.out.blk 3, cell_blk HD5.out.blk 4, (HB5.out.cell (p := ⟨b, 3, none⟩) hbb).trans c3', (HB5.out.cell (p := ⟨gn, offn + k, none⟩) hgnb).trans cn'⟩ ?_
          clear hK K HD4 HB4
          refine wpAnyN_one (i := 21) (by kernel_rfl) rfl (fun K hK => ?_)
          go_simp
          have HZ6 := Lib.hid ((Below.refl w5.heap.size w5).alloc (Nat.le_refl _) (.cells #[.pointer (some ⟨b5, 0, none⟩)] 64))
          have HB6 := Lib.hid (HB5.out.trans (HZ6.out.mono HB5.out.size))
          have HD6 := Lib.hid (HD5.out.call HZ6.out)
          have hb50 : (w5.alloc (.cells #[.pointer (some ⟨b5, 0, none⟩)] 64)).heap[w5.heap.size]? = some (.cells #[.pointer (some ⟨b5, 0, none⟩)] 64 (0, 0)) := blk_new w5 _
          refine hK.out _ (w5.alloc (.cells #[.pointer (some ⟨b5, 0, none⟩)] 64)) ⟨cell_blk HD6.out.blk 3, cell_blk HD6.out.blk 4, (HB6.out.cell (p := ⟨b, 3, none⟩) hbb).trans c3', (HB6.out.cell (p := ⟨gn, offn + k, none⟩) hgnb).trans cn'⟩ ?_
          obtain ⟨w6, hw6⟩ : ∃ w6, w5.alloc (.cells #[.pointer (some ⟨b5, 0, none⟩)] 64) = w6 := ⟨_, rfl⟩
          rw [hw6] at HB6 HD6 hb50 HZ6 ⊢
          clear hw6 hK K HD5 HB5
          refine wpAnyN_one (i := 22) (by kernel_rfl) rfl (fun K hK => ?_)
          refine step_append_lies _ rfl (.tmp 47) (.tmp 50) 87 rfl w.heap.size 64 ip _ 1 8 Tryz.underlying87 hip hp0 hp1 hp2 rfl (by decide) (.slice xk kn.length qk) kn.length _ rfl HD6.out.ok ⟨w5.heap.size, 0, none⟩ 1 1 [.pointer (some ⟨b5, 0, none⟩)] rfl rfl (World.news_of_block hb50) (by intro u hu; simp at hu; subst hu; rfl) (Nat.le_refl 1) (by unfold maxLen; omega) (by omega) HB6.out.size w6.heap.size rfl ?_
          intro g7 q7 w7 hown7 hgr7 hlies7 hlt7
          have HB7 := Lib.hid (HB6.out.grown hgr7 HB6.out.size (fun k hk => (HD6.out.ok.lt k hk).1))
          have HD7 := Lib.hid (HD6.out.appK hown7 hgr7 (lies_own hlies7))
          clear hown7 hgr7 hlies7
          refine hK.out _ w7 ⟨cell_blk HD7.out.blk 3, cell_blk HD7.out.blk 4, (HB7.out.cell (p := ⟨b, 3, none⟩) hbb).trans c3', (HB7.out.cell (p := ⟨gn, offn + k, none⟩) hgnb).trans cn'⟩ ?_
          clear hK K HD6 HB6 hb50 HZ6
          simp only [Act.put, List.setIfInBounds_toArray, List.set_cons_zero, List.set_cons_succ]
          refine wpAnyN_pure (i := 23) (v := ?_) (some 52) rfl rfl (by kernel_rfl) (by kernel_rfl) (by kernel_rfl) (by decide) (fun _ _ _ h => h) (Or.inl ⟨by rfl, ?_⟩) (fun _ => ⟨cell_blk HD7.out.blk 3, cell_blk HD7.out.blk 4, (HB7.out.cell (p := ⟨b, 3, none⟩) hbb).trans c3', (HB7.out.cell (p := ⟨gn, offn + k, none⟩) hgnb).trans cn'⟩) ?_
          rotate_left
          · intro wz _; go_simp
            try with_reducible rfl
          simp only [Act.put, List.setIfInBounds_toArray, List.set_cons_zero, List.set_cons_succ]
          refine wpAnyN_pure (i := 24) (v := ?_) (some 53) rfl rfl (by kernel_rfl) (by kernel_rfl) (by kernel_rfl) (by decide) (fun _ _ _ h => h) (Or.inl ⟨by rfl, ?_⟩) (fun _ => ⟨cell_blk HD7.out.blk 3, cell_blk HD7.out.blk 4, (HB7.out.cell (p := ⟨b, 3, none⟩) hbb).trans c3', (HB7.out.cell (p := ⟨gn, offn + k, none⟩) hgnb).trans cn'⟩) ?_
          rotate_left
          · intro wz _; go_simp
            try with_reducible rfl
          simp only [Act.put, List.setIfInBounds_toArray, List.set_cons_zero, List.set_cons_succ]
          have k3 := cell_blk HD7.out.blk 3; have f3 := fro_blk HD7.out.blk 3
          simp only [List.getElem?_toArray, List.getElem?_cons_zero, List.getElem?_cons_succ] at k3
          refine wpAnyN_late (i := 25) (by kernel_rfl) (by kernel_rfl) rfl (fun K hK => ?_)
          go_simp
          refine hK.out _ (w7.setCell ⟨w.heap.size, 3, none⟩ (.slice (some ⟨g4, 0, none⟩) (nn.length + 1) q4)) ?_
          have HB8 := Lib.hid (HB7.out.setCell (p := ⟨w.heap.size, 3, none⟩) (Nat.le_refl _) (.slice (some ⟨g4, 0, none⟩) (nn.length + 1) q4))
          have HD8 := Lib.hid (HD7.out.set3 (.slice (some ⟨g4, 0, none⟩) (nn.length + 1) q4))
          obtain ⟨w8, hw8⟩ : ∃ w8, w7.setCell ⟨w.heap.size, 3, none⟩ (.slice (some ⟨g4, 0, none⟩) (nn.length + 1) q4) = w8 := ⟨_, rfl⟩
          rw [hw8] at HB8 HD8 ⊢
          clear hw8 hK K HD7 HB7 k3 f3
          refine wpAnyN_pure (i := 26) (v := ?_) (some 54) rfl rfl (by kernel_rfl) (by kernel_rfl) (by kernel_rfl) (by decide) (fun _ _ _ h => h) (Or.inl ⟨by rfl, ?_⟩) (fun h0 => (by cases h0)) ?_
          rotate_left
          · intro wz _; go_simp
            try with_reducible rfl
          simp only [Act.put, List.setIfInBounds_toArray, List.set_cons_zero, List.set_cons_succ]
          refine wpAnyN_pure (i := 27) (v := ?_) (some 55) rfl rfl (by kernel_rfl) (by kernel_rfl) (by kernel_rfl) (by decide) (fun _ _ _ h => h) (Or.inl ⟨by rfl, ?_⟩) (fun h0 => (by cases h0)) ?_
          rotate_left
          · intro wz _; go_simp
            try with_reducible rfl
          simp only [Act.put, List.setIfInBounds_toArray, List.set_cons_zero, List.set_cons_succ]
          have k4 := cell_blk HD8.out.blk 4; have f4 := fro_blk HD8.out.blk 4
          simp only [List.getElem?_toArray, List.getElem?_cons_zero, List.getElem?_cons_succ] at k4
          refine wpAnyN_late (i := 28) (by kernel_rfl) (by kernel_rfl) rfl (fun K hK => ?_)
          go_simp
          refine hK.out _ (w8.setCell ⟨w.heap.size, 4, none⟩ (.slice (some ⟨g7, 0, none⟩) (kn.length + 1) q7)) ?_
          have HB9 := Lib.hid (HB8.out.setCell (p := ⟨w.heap.size, 4, none⟩) (Nat.le_refl _) (.slice (some ⟨g7, 0, none⟩) (kn.length + 1) q7))
          have HD9 := Lib.hid (HD8.out.set4 (.slice (some ⟨g7, 0, none⟩) (kn.length + 1) q7))
          obtain ⟨w9, hw9⟩ : ∃ w9, w8.setCell ⟨w.heap.size, 4, none⟩ (.slice (some ⟨g7, 0, none⟩) (kn.length + 1) q7) = w9 := ⟨_, rfl⟩
          rw [hw9] at HB9 HD9 ⊢
          clear hw9 hK K HD8 HB8 k4 f4
          refine wpAnyN_done (by kernel_rfl) ?_ _
          go_wp2
          go_roundg (kids.length - (k + 1))
          case measure => omega
          case rel => exact ⟨k + 1, hlt, rfl, by go_num, HB9, _, _, _, by rw [HX1.out, HX2.out]; exact HD9.out⟩
      · obtain rfl : k = kids.length := by omega
        have hD := HD.out
        rw [← hnn, ← hts] at hD
        have hl := hD.len
        rw [List.take_of_length_le (by omega), List.take_of_length_le (by omega)] at hD
        rw [List.take_of_length_le (by omega)] at hl
        have HF := Lib.hid (hD.val hl (fun b hb => .inr hb))
        clear hD hl
        go_wp2
        go_ret
        exact ⟨_, rfl, by rw [HC.out]; exact HF.out, HBr.out⟩
  · have HC : Hid ((T.mk kind num text names kids).clean = .mk kind num text names kids) := by unfold Hid; rw [T.clean, if_neg h7]
    have h7' : (kind != 7) = true := by simpa using h7
    go_enter Tryz.func51, Tryz.ntmps51
    go_wp2
    go_ret
    exact ⟨_, rfl, by rw [HC.out]; exact IsVal.mono (fun b hb _ => .inl hb) HV0.out, Below.refl _ _⟩
end Go.Proofs.YtbldchemgkfdcaaGreatDoor
