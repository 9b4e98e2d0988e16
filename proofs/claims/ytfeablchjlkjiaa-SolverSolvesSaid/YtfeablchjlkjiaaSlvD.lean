/-
  THE LAW 'SOLVES', WALKED: every Solve is the document's, step for step.
-/
import Derived.Test.YtfeablchjlkjiaaSlvC
import Derived.Deep.CutBlock
import Derived.Deep.DeepCutAuto
namespace Go.Proofs.Ytfeablchjlkjiaa
open Go.RowKit Go.Proofs.YtfeablchjlkjiaaW.PrintWords Go.Proofs.YtfeablchjlkjiaaW.PrintMore

set_option maxRecDepth 100000 in
set_option maxHeartbeats 12800000 in
theorem solves_any {w : World} {n bud : Int} {A B : Option Addr} {c d : Nat} {cl : List (List Int)} {pf : List Int} (_ : (Lit.int .i64 n).wf = true) (hcl : RowsArg w A c cl) (hpf : IntsArg w B d pf) (_ : (Lit.int .i64 bud).wf = true) :
    Calls Try.prog 3 #[.int .i64 n, .slice A cl.length c, .slice B pf.length d, .int .i64 bud] w fun e w' => e = .returned (.bool true) ∧ Below w.heap.size w w' := by
  have HC := Lib.hid hcl
  have HP := Lib.hid hpf
  have HS := Lib.hid hcl.small
  have hcc := hcl.cap
  have hpc := hpf.cap
  clear hcl hpf
  go_enter Try.func3, Try.ntmps3
  go_wp2_with fail
  refine (twin_any HC.out.reads HC.out.small).mono ?_
  rintro e w1 ⟨hb, cap, fb, fc, cells, rfl, ht, hb1⟩
  have hcap := own_cap ht.own
  have HT1 := Lib.hid ht
  have HB1 := Lib.hid hb1
  have hs01 := hb1.size
  clear ht hb1
  go_wp2_with fail
  refine (headers_any HT1.out HS.out.hdr).mono ?_
  rintro e w2 ⟨ov, rfl, ho, hb2⟩
  have HO2 := Lib.hid ho
  have HT2 := Lib.hid (HT1.out.kept (fun k hk => hb2.block k hk))
  have HB2 := Lib.hid (HB1.out.trans (hb2.mono HB1.out.size))
  have hs12 := hb2.size
  have HTOP := Lib.hid HT1.out.top
  clear ho hb2 HT1 HB1
  go_wp2_with fail
  have hp2 := HP.out.below HB2.out
  refine (lent_any hp2.reads hp2.small).mono ?_
  rintro e w3 ⟨b, bc, rfl, hl, hb3⟩
  have HL3 := Lib.hid hl
  have HT3 := Lib.hid (HT2.out.kept (fun k hk => hb3.block k hk))
  have HO3 := Lib.hid (pw_own_below HO2.out hb3)
  have HB3 := Lib.hid (HB2.out.trans (hb3.mono HB2.out.size))
  have hlb := hl.base_le
  have hbc := hl.cap
  clear hp2 hl hb3 HT2 HO2 HB2
  have hsol := fun w' (h : Below w3.heap.size w3 w') => solve_any (n := n) (bud := bud) (c := cap) (d := bc) (Kd.C_below HT3.out.reads h) (by omega) (Kd.C_below HL3.out.reads h) (by omega) HS.out.hdr
  have hrs := fun w' (h1 : KRows.C w' A cl.length cl) (h2 : (Kd.int .i64).C w' B pf.length pf) => rsolve_any (n := n) (bud := bud) (c := c) (d := d) h1 h2
  have hvl := values_len n cl pf bud
  generalize Sv.solve n cl pf bud = r at *
  obtain ⟨F, er⟩ := r
  dsimp only at hvl
  have HSOL := Lib.hid hsol
  have HRS := Lib.hid hrs
  clear hsol hrs
  go_wp2_with fail
  refine (HSOL.out w3 (Below.refl _ _)).mono ?_
  rintro e w4 ⟨va, rfl, hRa, hb4⟩
  obtain ⟨rA, rc, hva, _, _⟩ := Kd.R_reads hRa
  subst hva
  dsimp only at *
  go_wp2_with fail
  have hfa := FoundOwn.new hRa hb4.size
  have hwa := hb4.trans ((below_new w4 (.cells #[.int .i64 F.verdict, .slice rA F.values.length rc, .int .i64 F.steps] 28)).mono hb4.size)
  generalize World.alloc _ _ = wa at *
  generalize w4.heap.size = ga at *
  refine (HSOL.out wa hwa).mono ?_
  rintro e w5 ⟨vl, rfl, hRl, hb5⟩
  have HFA := Lib.hid (hfa.below hb5)
  have HW5 := Lib.hid (hwa.trans (hb5.mono hwa.size))
  have hsz1 := hwa.size
  have hsz2 := hb5.size
  obtain ⟨lA, lc, hvl2, _, _⟩ := Kd.R_reads hRl
  subst hvl2
  dsimp only at *
  generalize wa.heap.size = ta at *
  clear hfa hwa hb5 hRa hb4
  go_wp2_with fail
  have hfl := FoundOwn.new hRl hsz2
  have hbn := below_new w5 (.cells #[.int .i64 F.verdict, .slice lA F.values.length lc, .int .i64 F.steps] 28)
  have hsz3 : (w5.alloc (.cells #[.int .i64 F.verdict, .slice lA F.values.length lc, .int .i64 F.steps] 28)).heap.size = w5.heap.size + 1 := by simp
  generalize hfw : World.alloc w5 (.cells #[.int .i64 F.verdict, .slice lA F.values.length lc, .int .i64 F.steps] 28) = wl at *
  obtain ⟨wx, hwx⟩ : ∃ wx, wx = (((wl.alloc (.cells #[.int .i64 2] 3)).alloc (.cells #[.int .i64 (-1), .int .i64 3] 3)).alloc (.cells #[.slice (some ⟨w5.heap.size + 1, 0, none⟩) 1 1, .slice (some ⟨w5.heap.size + 1 + 1, 0, none⟩) 2 2] 23)).alloc (.cells #[.int .i64 1] 3) := ⟨_, rfl⟩
  have hlit := lit_two wl [2] [-1, 3] [1] (by decide) (by decide) (by decide)
  rw [hsz3] at hlit
  have hlit2 : KRows.C wx (some ⟨w5.heap.size + 1 + 1 + 1, 0, none⟩) 2 [[2], [-1, 3]] ∧ (Kd.int .i64).C wx (some ⟨w5.heap.size + 1 + 1 + 1 + 1, 0, none⟩) 1 [1] ∧ Below (w5.heap.size + 1) wl wx := by rw [hwx]; exact hlit
  rw [← hwx]
  obtain ⟨hx1, hx2, hx3⟩ := hlit2
  rw [← hsz3] at hx3
  have hsx := solve_any (n := 3) (bud := 99) (c := 2) (d := 1) hx1 (Nat.le_refl _) hx2 (Nat.le_refl _) (by decide)
  rw [lives3] at hsx
  have hwl := HW5.out.trans ((hbn.trans (hx3.mono hbn.size)).mono HW5.out.size)
  have HFA2 := Lib.hid (HFA.out.below (hbn.trans (hx3.mono hbn.size)))
  have HFL2 := Lib.hid (hfl.below hx3)
  have HWL := Lib.hid hwl
  have HSX := Lib.hid hsx
  have hsz4 := hx3.size
  have hsz5 := hbn.size
  clear hfl hbn hwx hlit hx1 hx2 hx3 hsx hwl hfw hRl HFA HW5
  generalize w5.heap.size = gl at *
  generalize wl.heap.size = tl at *
  refine HSX.out.mono ?_
  rintro e w6 ⟨vx, rfl, hRx, hb6⟩
  obtain ⟨xA, xc, hvx, _, _⟩ := Kd.R_reads hRx
  subst hvx
  have HFA3 := Lib.hid (HFA2.out.below hb6)
  have HFL3 := Lib.hid (HFL2.out.below hb6)
  have HW6 := Lib.hid (HWL.out.trans (hb6.mono HWL.out.size))
  dsimp only at *
  go_wp2_with fail
  have hRx3 : Kd.bool.R 4 w6 wx.heap.size (fun _ => True) (.slice xA 3 xc) [true, true, true] := hRx
  have hfx : FoundOwn (w6.alloc (.cells #[.int .i64 1, .slice xA 3 xc, .int .i64 8] 28)) wx.heap.size (w6.alloc (.cells #[.int .i64 1, .slice xA 3 xc, .int .i64 8] 28)).heap.size w6.heap.size (.slice xA 3 xc) ⟨1, [true, true, true], 8⟩ := FoundOwn.new (F := ⟨1, [true, true, true], 8⟩) hRx3 hb6.size
  have hbn := below_new w6 (.cells #[.int .i64 1, .slice xA 3 xc, .int .i64 8] 28)
  have hsz6 := hb6.size
  have hsz7 := hbn.size
  have HFA4 := Lib.hid (HFA3.out.below hbn)
  have HFL4 := Lib.hid (HFL3.out.below hbn)
  have hw7 := HW6.out.trans (hbn.mono HW6.out.size)
  clear hRx hRx3 hb6 hbn HFA2 HFL2 HWL HSX HFA3 HFL3 HW6
  generalize World.alloc _ _ = w7 at *
  generalize w6.heap.size = gx at *
  generalize wx.heap.size = bx at *
  refine (HSOL.out w7 hw7).mono ?_
  rintro e w8 ⟨vg, rfl, hRg, hb8⟩
  obtain ⟨gA, gc, hvg, _, _⟩ := Kd.R_reads hRg
  subst hvg
  dsimp only at hRg ⊢
  go_wp2_with fail
  have hfg := FoundOwn.new hRg hb8.size
  have hbn := below_new w8 (.cells #[.int .i64 F.verdict, .slice gA F.values.length gc, .int .i64 F.steps] 28)
  have hbt := hb8.trans (hbn.mono hb8.size)
  have hsz8 := hb8.size
  have hsz9 := hbn.size
  have HFA5 := Lib.hid (HFA4.out.below hbt)
  have HFL5 := Lib.hid (HFL4.out.below hbt)
  have HFX5 := Lib.hid (hfx.below hbt)
  have hw9 := hw7.trans (hbt.mono hw7.size)
  clear hRg hb8 hbn hbt hfx hw7 HFA4 HFL4 HSOL
  generalize World.alloc _ _ = w9 at *
  generalize w8.heap.size = gg at *
  generalize w7.heap.size = bg at *
  have hc9 := HC.out.below (HB3.out.trans (hw9.mono HB3.out.size))
  have hp9 := HP.out.below (HB3.out.trans (hw9.mono HB3.out.size))
  refine (HRS.out w9 hc9.reads hp9.reads).mono ?_
  rintro e w10 ⟨vb, rfl, hRb, hb10⟩
  obtain ⟨bA, bbc, hvb, _, _⟩ := Kd.R_reads hRb
  subst hvb
  dsimp only at hRb ⊢
  have hfb := FoundOwn.new hRb hb10.size
  have hbn := below_new w10 (.cells #[.int .i64 F.verdict, .slice bA F.values.length bbc, .int .i64 F.steps] 28)
  have hbt := hb10.trans (hbn.mono hb10.size)
  have hfa := HFA5.out.below hbt
  have hfl := HFL5.out.below hbt
  have hfx := HFX5.out.below hbt
  have hfg2 := hfg.below hbt
  have hwb := hw9.trans (hbt.mono hw9.size)
  have hszb := hb10.size
  obtain ⟨wb, hwbq⟩ : ∃ wb, wb = w10.alloc (.cells #[.int .i64 F.verdict, .slice bA F.values.length bbc, .int .i64 F.steps] 28) := ⟨_, rfl⟩
  rw [← hwbq] at hfb hfa hfl hfx hfg2 hwb
  have HFA := Lib.hid hfa
  have HFL := Lib.hid hfl
  have HFX := Lib.hid hfx
  have HFG := Lib.hid hfg2
  have HFB := Lib.hid hfb
  have HWB := Lib.hid hwb
  have a0 := hfa.c0
  have a1 := hfa.c1
  have a2 := hfa.c2
  have b0 := hfb.c0
  have b1 := hfb.c1
  have b2 := hfb.c2
  rw [hwbq] at a0 a1 a2 b0 b1 b2
  clear hRb hb10 hbn hbt hfa hfl hfx hfg hfg2 hfb hwb HFA5 HFL5 HFX5 hc9 hp9 hw9 HRS
  go_wp2_with fail
  rw [← hwbq] at a0 a1 a2 b0 b1 b2 ⊢
  generalize w10.heap.size = gb at *
  clear a0 a1 a2 b0 b1 b2 hwbq
  refine (found_true HFA.out.reads HFB.out.reads).mono ?_
  rintro e wc ⟨rfl, hbc1⟩
  have HFA1 := Lib.hid (HFA.out.below hbc1)
  have HFL1 := Lib.hid (HFL.out.below hbc1)
  have HFX1 := Lib.hid (HFX.out.below hbc1)
  have HFG1 := Lib.hid (HFG.out.below hbc1)
  have HFB1 := Lib.hid (HFB.out.below hbc1)
  have HW1 := Lib.hid (HWB.out.trans (hbc1.mono HWB.out.size))
  have hsc := hbc1.size
  clear hbc1 HFA HFL HFX HFG HFB HWB
  have l0 := HFL1.out.c0
  have l1 := HFL1.out.c1
  have l2 := HFL1.out.c2
  have b0 := HFB1.out.c0
  have b1 := HFB1.out.c1
  have b2 := HFB1.out.c2
  go_wp2_with fail
  refine (num_any _ _ _).mono ?_
  rintro e wc ⟨rfl, rfl⟩
  go_wp2_with fail
  refine (found_true HFL1.out.reads HFB1.out.reads).mono ?_
  rintro e wd ⟨rfl, hbd⟩
  have HFA2 := Lib.hid (HFA1.out.below hbd)
  have HFL2 := Lib.hid (HFL1.out.below hbd)
  have HFX2 := Lib.hid (HFX1.out.below hbd)
  have HFG2 := Lib.hid (HFG1.out.below hbd)
  have HFB2 := Lib.hid (HFB1.out.below hbd)
  have HW2 := Lib.hid (HW1.out.trans (hbd.mono HW1.out.size))
  have hsd := hbd.size
  clear hbd HFA1 HFL1 HFX1 HFG1 HFB1 HW1 l0 l1 l2 b0 b1 b2
  have g0 := HFG2.out.c0
  have g1 := HFG2.out.c1
  have g2 := HFG2.out.c2
  have b0 := HFB2.out.c0
  have b1 := HFB2.out.c1
  have b2 := HFB2.out.c2
  go_wp2_with fail
  refine (found_true HFG2.out.reads HFB2.out.reads).mono ?_
  rintro e we ⟨rfl, hbe⟩
  have HFA3 := Lib.hid (HFA2.out.below hbe)
  have HFL3 := Lib.hid (HFL2.out.below hbe)
  have HFX3 := Lib.hid (HFX2.out.below hbe)
  have HFG3 := Lib.hid (HFG2.out.below hbe)
  have HFB3 := Lib.hid (HFB2.out.below hbe)
  have HW3 := Lib.hid (HW2.out.trans (hbe.mono HW2.out.size))
  have hse := hbe.size
  clear hbe HFA2 HFL2 HFX2 HFG2 HFB2 HW2 g0 g1 g2 b0 b1 b2
  have x1 := HFX3.out.c1
  go_wp2_with fail
  refine (num_any _ _ _).mono ?_
  rintro e we ⟨rfl, rfl⟩
  go_wp2_with fail
  have hbn := below_new we (.cells #[.bool true, .bool true, .bool true] 4)
  have hxr : Kd.bool.C we xA 3 [true, true, true] := HFX3.out.reads
  have hlb3 : Kd.bool.C (we.alloc (.cells #[.bool true, .bool true, .bool true] 4)) (some ⟨we.heap.size, 0, none⟩) 3 [true, true, true] := by have h := lit_bools we [true, true, true] (by decide); simpa [encs] using h
  have hbo : Calls Try.prog 17 #[.slice xA 3 xc, .slice (some ⟨we.heap.size, 0, none⟩) 3 3] (we.alloc (.cells #[.bool true, .bool true, .bool true] 4)) fun e w' => e = .returned (.bool true) ∧ ∃ m, w' = (we.alloc (.cells #[.bool true, .bool true, .bool true] 4)).drewN m := bools_true (xs := [true, true, true]) (c := xc) (d := 3) (Kd.C_below hxr hbn) hlb3
  refine hbo.mono ?_
  rintro e wf ⟨rfl, q, rfl⟩
  have hbf := hbn.trans ((below_drewN (we.alloc (.cells #[.bool true, .bool true, .bool true] 4)) q).mono hbn.size)
  have HFA4 := Lib.hid (HFA3.out.below hbf)
  have HFL4 := Lib.hid (HFL3.out.below hbf)
  have HFG4 := Lib.hid (HFG3.out.below hbf)
  have HFB4 := Lib.hid (HFB3.out.below hbf)
  have HW4 := Lib.hid (HW3.out.trans (hbf.mono HW3.out.size))
  have hsf := hbf.size
  clear hbf hbn hbo hlb3 hxr HFA3 HFL3 HFX3 HFG3 HFB3 HW3 x1
  generalize World.drewN _ _ = wf at *
  go_wp2_with fail
  have hcf := HC.out.below (HB3.out.trans (HW4.out.mono HB3.out.size))
  refine (untouched_true (HT3.out.kept (fun k hk => HW4.out.block k hk)) (pw_own_below HO3.out HW4.out) hcf.reads HS.out).mono ?_
  rintro e wg ⟨rfl, hbg⟩
  have HFA5 := Lib.hid (HFA4.out.below hbg)
  have HFL5 := Lib.hid (HFL4.out.below hbg)
  have HFG5 := Lib.hid (HFG4.out.below hbg)
  have HFB5 := Lib.hid (HFB4.out.below hbg)
  have HW5 := Lib.hid (HW4.out.trans (hbg.mono HW4.out.size))
  have hsg := hbg.size
  clear hbg hcf HFA4 HFL4 HFG4 HFB4 HW4
  go_wp2_with fail
  have hpg := HP.out.below (HB3.out.trans (HW5.out.mono HB3.out.size))
  refine (still_true (HL3.out.move (HW5.out.block b HL3.out.lt)) hpg.reads hpg.small).mono ?_
  rintro e wh ⟨rfl, qh, rfl⟩
  have hbh := below_drewN wg qh
  have HFA6 := Lib.hid (HFA5.out.below hbh)
  have HFL6 := Lib.hid (HFL5.out.below hbh)
  have HFG6 := Lib.hid (HFG5.out.below hbh)
  have HFB6 := Lib.hid (HFB5.out.below hbh)
  have HW6 := Lib.hid (HW5.out.trans (hbh.mono HW5.out.size))
  have hsh := hbh.size
  clear hbh hpg HFA5 HFL5 HFG5 HFB5 HW5
  generalize World.drewN _ _ = wh at *
  go_wp2_with fail
  go_loopw [22] (fun iv wr => ∃ (i : Nat) (vs : List Bool), i ≤ F.values.length ∧ iv = .int .i64 i ∧ Hid (vs.length = F.values.length) ∧ Hid (wr.ownsRow w3.heap.size 4 1 (.slice rA F.values.length rc) F.values.length (encs Value.bool vs)) ∧ Hid (wh.grownBy wr (Value.slice rA F.values.length rc).ownBlock)) (fun iv _ => F.values.length - (intOf iv).toNat)
  case atStart => exact ⟨0, F.values, Nat.zero_le _, rfl, rfl, HFA6.out.own, grown_refl _ _⟩
  case round =>
    obtain ⟨i, vs, hi, rfl, HV, HO, HG⟩ := hrel
    have hba := blk_grown HFA6.out.blk HG.out (own_ne HFA6.out.own HFA6.out.blk (by decide))
    have a1 := cell_blk hba 1
    by_cases hlt : i < F.values.length
    · obtain ⟨qa, qc, he, _, _⟩ := HO.out.form (by omega)
      cases he
      have hat := own_at_of (enc := Value.bool) (d := false) HO.out (i : Int) (by omega) (by omega)
      have hst := fun x => own_store_of (enc := Value.bool) HO.out (i : Int) x
      rw [Int.toNat_natCast] at hat hst
      obtain ⟨hat1, hat2⟩ := hat
      generalize rdOf false vs (i : Int) = x at *
      have HST := Lib.hid hst
      have HBA := Lib.hid hba
      clear hst hba
      dsimp only [Value.ownBlock, Option.map] at HG
      go_wp2_with fail
      go_region
      all_goals
        go_wp2_with fail
        go_roundw
        case rel =>
          exact ⟨i + 1, vs.set i (!x), by omega, by go_num, Lib.hid (by rw [List.length_set]; exact HV.out), Lib.hid (own_drew (HST.out (!x)).1), Lib.hid (grown_drewN (grown_then HG.out (HST.out (!x)).2 (.inl rfl)) 1)⟩
        case measure => simp [intOf]; omega
    · obtain rfl : i = F.values.length := by omega
      have hq1 : ∀ q, (Value.slice rA F.values.length rc).ownBlock = some q → w3.heap.size ≤ q ∧ q < ta := fun q hq => ⟨own_base HFA6.out.own q hq, HFA6.out.rlt q hq⟩
      have hgl := blk_lt HFL6.out.blk
      have hgb := blk_lt HFB6.out.blk
      have hgb2 := HFB6.out.ge
      have hglg := HFL6.out.ge
      have HQ1 := Lib.hid hq1
      have HFL7 := Lib.hid (HFL6.out.apart HG.out (fun q hq => by have := hq1 q hq; omega) (by omega))
      have HFG7 := Lib.hid (HFG6.out.apart HG.out (fun q hq => by have := hq1 q hq; omega) (by omega))
      have HFB7 := Lib.hid (HFB6.out.apart HG.out (fun q hq => by have := hq1 q hq; omega) (by omega))
      have HW7 := Lib.hid (HW6.out.trans (grown_below HG.out (by omega) (fun q hq => (hq1 q hq).1)))
      have HA7 := Lib.hid hba
      have HSZ7 := HG.out.size
      have HGA := Lib.hid HFA6.out.lt
      have HAG := Lib.hid HFA6.out.ge
      clear hba HFL6 HFG6 HFB6 HW6 hq1 HFA6 HG hgl hgb
      have g1 := HFG7.out.c1
      go_wp2_with fail
      obtain ⟨wk, hwk⟩ : ∃ wk, wk = wr := ⟨_, rfl⟩
      subst hwk
      go_loopw [23] (fun iv wr => ∃ (i : Nat) (vs : List Bool), i ≤ F.values.length ∧ iv = .int .i64 i ∧ Hid (wr.ownsRow bg 4 1 (.slice gA F.values.length gc) F.values.length (encs Value.bool vs)) ∧ Hid (wk.grownBy wr (Value.slice gA F.values.length gc).ownBlock)) (fun iv _ => F.values.length - (intOf iv).toNat)
      case atStart => exact ⟨0, F.values, Nat.zero_le _, rfl, HFG7.out.own, grown_refl _ _⟩
      case round =>
        obtain ⟨i, vs2, hi2, rfl, HO2, HG2⟩ := hrel
        have hbg2 := blk_grown HFG7.out.blk HG2.out (own_ne HFG7.out.own HFG7.out.blk (by decide))
        have g1 := cell_blk hbg2 1
        by_cases hlt2 : i < F.values.length
        · obtain ⟨qg, qc, he, _, _⟩ := HO2.out.form (by omega)
          cases he
          have hat := own_at_of (enc := Value.bool) (d := false) HO2.out (i : Int) (by omega) (by omega)
          have hst := fun x => own_store_of (enc := Value.bool) HO2.out (i : Int) x
          rw [Int.toNat_natCast] at hat hst
          obtain ⟨hat1, hat2⟩ := hat
          have HST := Lib.hid hst
          clear hst hbg2
          go_wp2_with fail
          go_roundw
          case rel =>
            exact ⟨i + 1, vs2.set i true, by omega, by go_num, Lib.hid (HST.out true).1, Lib.hid (grown_then HG2.out (HST.out true).2 (.inl rfl))⟩
          case measure => simp [intOf]; omega
        · obtain rfl : i = F.values.length := by omega
          have hq2 : ∀ q, (Value.slice gA F.values.length gc).ownBlock = some q → bg ≤ q ∧ q < w9.heap.size := fun q hq => ⟨own_base HFG7.out.own q hq, HFG7.out.rlt q hq⟩
          have hgl := blk_lt HFL7.out.blk
          have hgb := blk_lt HFB7.out.blk
          have hgag := HGA.out
          have hag := HAG.out
          have HFL8 := Lib.hid (HFL7.out.apart HG2.out (fun q hq => by have := hq2 q hq; omega) (by omega))
          have HFB8 := Lib.hid (HFB7.out.apart HG2.out (fun q hq => by have := hq2 q hq; omega) (by omega))
          have HW8 := Lib.hid (HW7.out.trans (grown_below HG2.out (by omega) (fun q hq => by have := hq2 q hq; omega)))
          have hna : some ga ≠ (Value.slice gA F.values.length gc).ownBlock := fun e => by have := hq2 ga e.symm; omega
          have hba8 := blk_grown HA7.out HG2.out hna
          have hoa8 := own_other HO.out HG2.out (by
            rcases hro : (Value.slice rA F.values.length rc).ownBlock with _ | q
            · exact .inl rfl
            · refine .inr (fun e => ?_)
              have h1 := HQ1.out q hro
              have h2 := hq2 q e.symm
              omega)
          have a1 := cell_blk hba8 1
          have HA8 := Lib.hid hba8
          have HO8 := Lib.hid hoa8
          have HSZ8 := HG2.out.size
          clear hq2 hgl hgb hbg2 hba8 hoa8 hna HFL7 HFB7 HW7 HFG7 HG2 HO2 HA7 HO
          go_wp2_with fail
          obtain ⟨wm, hwm⟩ : ∃ wm, wm = wr := ⟨_, rfl⟩
          subst hwm
          have hby : 0 < 1 := by decide
          go_loopw [24, 25] (fun mv iv wr => ∃ (i m : Nat) (mA : Option Addr) (mc : Nat) (vals : List Value), mv = .slice mA m mc ∧ Hid (m = F.values.length + i) ∧ i ≤ 70 ∧ iv = .int .i64 i ∧ Hid (wr.ownsRow w3.heap.size 4 1 mv m vals) ∧ Hid (wm.grownBy wr (Value.slice rA F.values.length rc).ownBlock) ∧ Hid (mv.ownBlock = (Value.slice rA F.values.length rc).ownBlock ∨ ∃ q, mv.ownBlock = some q ∧ wm.heap.size ≤ q)) (fun _ iv _ => 70 - (intOf iv).toNat)
          case atStart => exact ⟨0, F.values.length, rA, rc, _, rfl, rfl, by decide, rfl, HO8, grown_refl _ _, .inl rfl⟩
          case round =>
            obtain ⟨i, m, mA, mc, vals, rfl, hm, hi3, rfl, HO3, HG3, HM3⟩ := hrel
            have HBM : Hid (Below w3.heap.size w3 wr) := Lib.hid (HW8.out.trans (grown_below HG3.out (by have := HW8.out.size; omega) (fun q hq => (HQ1.out q hq).1)))
            by_cases hlt3 : i < 70
            · have hl1 : (m + 1) * 1 ≤ 140737488355328 := by have := hm.out; omega
              go_wp2_with (at_builtin; refine print_append_cells (w0 := w3) w3.heap.size rfl _ _ 26 4 (.bool false) 1 1 rfl Try.underlying26 infoBool rfl hby hby (.slice mA m mc) m _ [.bool _] rfl rfl rfl (one_bool _) HO3.out HBM.out HBM.out.size hl1 ?_; intro v1 wq hown1 hB1 hg1 hat1; obtain ⟨A1, c1, rfl⟩ := own_slice hown1; have HO4 := Lib.hid hown1; have HG4 := Lib.hid hg1; have HAT := Lib.hid hat1; clear hown1 hB1 hg1 hat1)
              go_roundw
              case rel =>
                refine ⟨i + 1, m + 1, A1, c1, _, rfl, Lib.hid (by have := hm.out; omega), by omega, by go_num, HO4, Lib.hid (grown_then HG3.out HG4.out HM3.out), Lib.hid ?_⟩
                rcases HAT.out with h | ⟨q, h, hq⟩
                · rcases HM3.out with h2 | ⟨q2, h2, hq2⟩
                  · exact .inl (h.trans h2)
                  · exact .inr ⟨q2, h.trans h2, hq2⟩
                · exact .inr ⟨q, h, Nat.le_trans HG3.out.size hq⟩
              case measure => simp [intOf]; omega
            · obtain rfl : i = 70 := by omega
              have hgl := blk_lt HFL8.out.blk
              have hgb := blk_lt HFB8.out.blk
              have HFL9 := Lib.hid (HFL8.out.apart HG3.out (fun q hq => by have := HQ1.out q hq; omega) (by omega))
              have HFB9 := Lib.hid (HFB8.out.apart HG3.out (fun q hq => by have := HQ1.out q hq; omega) (by omega))
              have l0 := HFL9.out.c0
              have l1 := HFL9.out.c1
              have l2 := HFL9.out.c2
              have b0 := HFB9.out.c0
              have b1 := HFB9.out.c1
              have b2 := HFB9.out.c2
              have HMI : Hid ((m : Int) = (F.values.length : Int) + 70) := Lib.hid (by have := hm.out; omega)
              have HWM := HG3.out.size
              clear hm HFL8 HFB8 HG3 HM3 HO3 HQ1 HA8 HO8 a1 hgl hgb
              go_wp2_with fail
              refine (found_true HFL9.out.reads HFB9.out.reads).mono ?_
              rintro e wn ⟨rfl, hbn⟩
              have HFL10 := Lib.hid (HFL9.out.below hbn)
              have HFB10 := Lib.hid (HFB9.out.below hbn)
              have HW10 := Lib.hid (HBM.out.trans (hbn.mono HBM.out.size))
              have HSN := hbn.size
              clear hbn HFL9 HFB9 HBM l0 l1 l2 b0 b1 b2
              have b1 := HFB10.out.c1
              go_wp2_with fail
              all_goals first | (rename_i hx; exact absurd HMI.out hx) | skip
              have hcn := HC.out.below (HB3.out.trans (HW10.out.mono HB3.out.size))
              refine (untouched_true (HT3.out.kept (fun k hk => HW10.out.block k hk)) (pw_own_below HO3.out HW10.out) hcn.reads HS.out).mono ?_
              rintro e wp ⟨rfl, hbp⟩
              have HFL11 := Lib.hid (HFL10.out.below hbp)
              have HFB11 := Lib.hid (HFB10.out.below hbp)
              have HW11 := Lib.hid (HW10.out.trans (hbp.mono HW10.out.size))
              have HSP := hbp.size
              clear hbp hcn HFL10 HFB10 HW10 b1
              go_wp2_with fail
              have hpn := HP.out.below (HB3.out.trans (HW11.out.mono HB3.out.size))
              refine (still_true (HL3.out.move (HW11.out.block b HL3.out.lt)) hpn.reads hpn.small).mono ?_
              rintro e wq ⟨rfl, qq, rfl⟩
              have hbq := below_drewN wp qq
              have HFL12 := Lib.hid (HFL11.out.below hbq)
              have HFB12 := Lib.hid (HFB11.out.below hbq)
              have HW12 := Lib.hid (HW11.out.trans (hbq.mono HW11.out.size))
              have HSQ := hbq.size
              clear hbq hpn HFL11 HFB11 HW11
              generalize World.drewN _ _ = wq at *
              go_wp2_with fail
              have htq := HT3.out.kept (fun k hk => HW12.out.block k hk)
              refine (turned_any htq.lent (by have := HS.out.hdr; omega) (fun i hi => by have := HS.out.get hi; omega)).mono ?_
              rintro e wt ⟨rfl, htd⟩
              have hlb3 := HL3.out.lt
              have htop := HTOP.out
              have hfb : ∀ i, i < cl.length → fb i < w1.heap.size := fun i hi => htop.2 i (by omega)
              have htw := Turned.twin htq htd
              have hlw := (HL3.out.move (HW12.out.block b hlb3)).move (htd.other b (fun i hi => by have := hfb i hi; omega))
              have hwt := (HB3.out.trans (HW12.out.mono HB3.out.size)).trans (htd.below (fun i hi => (htq.row i hi).base_le))
              have hfl := HFL12.out.move (w1 := wt) (fun k h1 h2 => htd.other k (fun i hi => by have := hfb i hi; omega))
              have hfb2 := HFB12.out.move (w1 := wt) (fun k h1 h2 => htd.other k (fun i hi => by have := hfb i hi; omega))
              have HTW := Lib.hid htw
              have HLW := Lib.hid hlw
              have HWT := Lib.hid hwt
              have HFL13 := Lib.hid hfl
              have HFB13 := Lib.hid hfb2
              have HSZT := Lib.hid htd.size
              clear htq htd htw hlw hwt hfl hfb2 htop hfb HFL12 HFB12
              go_wp2_with fail
              have hbz := below_new wt (.cells #[.slice (some ⟨b, 0, none⟩) pf.length bc] 23)
              refine (turned_any HLW.out.lone (by decide) (fun i hi => by have := HP.out.small; omega)).mono ?_
              rintro e wu ⟨rfl, htd⟩
              have hlb3 := HL3.out.lt
              have hlu := htd.rows.row 0 (by decide)
              rw [turnF_end _ _ _ (by decide)] at hlu
              have hob : ∀ k, k ≠ b → k < wt.heap.size → wu.heap[k]? = wt.heap[k]? := fun k hk hk2 => (htd.other k (fun _ _ => hk)).trans (Below.heap_alloc _ _ _ hk2)
              have hwz := HWT.out.trans ((hbz.mono HWT.out.size).trans (htd.below (fun i hi => by have := HB3.out.size; have := hlb; omega)))
              have htop := HTOP.out
              have hszz := HSZT.out
              have hszw := HW12.out.size
              have htu := HTW.out.keptTop (w1 := wu) (top := w1.heap.size) (by rw [List.length_map]; exact htop) (fun k hk => hob k (by omega) (by omega))
              have hfl1 := blk_lt HFL13.out.blk
              have hfb1 := blk_lt HFB13.out.blk
              have hflt := (HFL13.out.below hbz).move (w1 := wu) (fun k h1 h2 => htd.other k (fun _ _ => by omega))
              have hfbt := (HFB13.out.below hbz).move (w1 := wu) (fun k h1 h2 => htd.other k (fun _ _ => by omega))
              have HTU := Lib.hid htu
              have HLU := Lib.hid hlu
              have HWU := Lib.hid hwz
              have HFL14 := Lib.hid hflt
              have HFB14 := Lib.hid hfbt
              have hs2 := small_turned HS.out
              have hp2l : (pf.map turnL).length * 8 ≤ 140737488351232 := by rw [List.length_map]; exact HP.out.small
              have e1 : cl.length = (cl.map (·.map turnL)).length := (List.length_map _).symm
              have e2 : pf.length = (pf.map turnL).length := (List.length_map _).symm
              rw [e1, e2]
              generalize cl.map (·.map turnL) = cl2 at *
              generalize pf.map turnL = pf2 at *
              have hcap2 : cl2.length + 2 ≤ cap := own_cap HTU.out.own
              have hpc2 : pf2.length + 2 ≤ bc := HLU.out.cap
              have HS2 := Lib.hid hs2
              clear hbz htd hlu hob hwz htop hszz htu hflt hfbt hs2 e1 e2 HTW HLW HWT HFL13 HFB13
              go_wp2_with fail
              refine (twin_any (c := cap) HTU.out.reads HS2.out).mono ?_
              rintro e wv ⟨hbz, capz, fbz, fcz, cellz, rfl, htz, hbv⟩
              have HTZ := Lib.hid htz
              have HFL15 := Lib.hid (HFL14.out.below hbv)
              have HFB15 := Lib.hid (HFB14.out.below hbv)
              have HTV := Lib.hid (HTU.out.kept (fun k hk => hbv.block k hk))
              have HLV := Lib.hid (HLU.out.move (hbv.block b HLU.out.lt))
              have HWV := Lib.hid (HWU.out.trans (hbv.mono HWU.out.size))
              have hO : (wv.alloc (.cells #[] 3)).ownsRow wv.heap.size 3 1 (.slice (some ⟨wv.heap.size, 0, none⟩) 0 0) ([] : List Int).length (nums .i64 []) := World.ownsRow_made wv #[] 0 (Nat.le_refl _) (Nat.zero_le _) rfl
              have HOE := Lib.hid hO
              have hby8 : 0 < 8 := by decide
              have HLE8 : Hid ((([] : List Int).length + pf2.length) * 8 ≤ 140737488355328) := Lib.hid (by simp; omega)
              have HRP := Lib.hid (Kd.reads_of_C (enc := Value.int .i64) (d := (0 : Int)) HLV.out.reads)
              clear htz hbv hO HFL14 HFB14 HTU HLU HWU
              go_wp2_with (at_builtin; refine print_append_row (w0 := wv) wv.heap.size rfl _ _ 23 3 .i64 8 rfl Try.underlying23 infoInt hby8 (.slice (some ⟨wv.heap.size, 0, none⟩) 0 0) [] pf2 (some ⟨b, 0, none⟩) pf2.length bc rfl rfl HOE.out (ReadsOf.below HRP.out ((Below.refl _ _).alloc (Nat.le_refl _) _)) ((Below.refl _ _).alloc (Nat.le_refl _) _) (by simp) HLE8.out ?_; intro v1 wy hown1 hB1 hg1 hat1; obtain ⟨A1, c1, rfl⟩ := own_slice hown1; have HOY := Lib.hid hown1; have HBY := Lib.hid hB1; clear hown1 hB1 hg1 hat1)
              rw [List.nil_append] at HOY
              have hrz := rsolve_any (n := n) (bud := bud) (c := capz) (d := c1) (Kd.C_below HTZ.out.reads HBY.out) (Kd.C_of_reads (enc := Value.int .i64) (d := (0 : Int)) (own_reads' HOY.out))
              have hsy := fun w' (h : Below wy.heap.size wy w') => solve_any (n := n) (bud := bud) (c := cap) (d := bc) (Kd.C_below (HTV.out.kept (fun k hk => HBY.out.block k hk)).reads h) (by omega) (Kd.C_below (HLV.out.move (HBY.out.block b HLV.out.lt)).reads h) (by omega) HS2.out.hdr
              generalize Sv.solve n cl2 pf2 bud = r2 at *
              obtain ⟨G, er2⟩ := r2
              have HRZ := Lib.hid hrz
              have HSY := Lib.hid hsy
              have HFL16 := Lib.hid (HFL15.out.below HBY.out)
              have HFB16 := Lib.hid (HFB15.out.below HBY.out)
              have HWY := Lib.hid (HWV.out.trans (HBY.out.mono HWV.out.size))
              clear hrz hsy HFL15 HFB15 HWV HTZ HTV HLV HOY HBY HOE HRP HLE8
              refine HRZ.out.mono ?_
              rintro e wz ⟨vz, rfl, hRz, hbz2⟩
              obtain ⟨zA, zc, hvz, _, _⟩ := Kd.R_reads hRz
              subst hvz
              dsimp only at hRz ⊢
              go_wp2_with fail
              have hfz := FoundOwn.new hRz hbz2.size
              have hbn := below_new wz (.cells #[.int .i64 G.verdict, .slice zA G.values.length zc, .int .i64 G.steps] 28)
              have hbt := hbz2.trans (hbn.mono hbz2.size)
              have HFL17 := Lib.hid (HFL16.out.below hbt)
              have HFB17 := Lib.hid (HFB16.out.below hbt)
              have HFZ := Lib.hid hfz
              have HBT := Lib.hid hbt
              have HWZ := Lib.hid (HWY.out.trans (hbt.mono HWY.out.size))
              clear hfz hbn hbt hRz hbz2 HFL16 HFB16 HRZ HWY
              generalize hwzq : World.alloc wz (.cells #[.int .i64 G.verdict, .slice zA G.values.length zc, .int .i64 G.steps] 28) = wz1 at *
              generalize wz.heap.size = gz at *
              clear hwzq
              refine (HSY.out wz1 HBT.out).mono ?_
              rintro e wy2 ⟨vy, rfl, hRy, hby2⟩
              obtain ⟨yA, yc, hvy, _, _⟩ := Kd.R_reads hRy
              subst hvy
              dsimp only at hRy ⊢
              have hfy := FoundOwn.new hRy hby2.size
              have hbn := below_new wy2 (.cells #[.int .i64 G.verdict, .slice yA G.values.length yc, .int .i64 G.steps] 28)
              have hbt := hby2.trans (hbn.mono hby2.size)
              have hfl := HFL17.out.below hbt
              have hfb := HFB17.out.below hbt
              have hfz := HFZ.out.below hbt
              have hwz := HWZ.out.trans (hbt.mono HWZ.out.size)
              obtain ⟨wb2, hwbq⟩ : ∃ wb, wb = wy2.alloc (.cells #[.int .i64 G.verdict, .slice yA G.values.length yc, .int .i64 G.steps] 28) := ⟨_, rfl⟩
              rw [← hwbq] at hfl hfb hfz hwz hfy
              have HFL18 := Lib.hid hfl
              have HFB18 := Lib.hid hfb
              have HFZ18 := Lib.hid hfz
              have HFY18 := Lib.hid hfy
              have HWB := Lib.hid hwz
              have y0 := hfy.c0
              have y1 := hfy.c1
              have y2 := hfy.c2
              have z0 := hfz.c0
              have z1 := hfz.c1
              have z2 := hfz.c2
              rw [hwbq] at y0 y1 y2 z0 z1 z2
              clear hfl hfb hfz hfy hwz hbt hbn hRy hby2 HFL17 HFB17 HFZ HBT HWZ HSY
              go_wp2_with fail
              rw [← hwbq]
              generalize wy2.heap.size = gy at *
              clear y0 y1 y2 z0 z1 z2 hwbq
              refine (found_true HFY18.out.reads HFZ18.out.reads).mono ?_
              rintro e wc2 ⟨rfl, hbc2⟩
              have HFL19 := Lib.hid (HFL18.out.below hbc2)
              have HFB19 := Lib.hid (HFB18.out.below hbc2)
              have HWC := Lib.hid (HWB.out.trans (hbc2.mono HWB.out.size))
              clear hbc2 HFL18 HFB18 HFZ18 HFY18 HWB
              have l0 := HFL19.out.c0
              have l1 := HFL19.out.c1
              have l2 := HFL19.out.c2
              have b0 := HFB19.out.c0
              have b1 := HFB19.out.c1
              have b2 := HFB19.out.c2
              go_wp2_with fail
              refine (num_any _ _ _).mono ?_
              rintro e wc2 ⟨rfl, rfl⟩
              go_wp2_with fail
              refine (found_true HFL19.out.reads HFB19.out.reads).mono ?_
              rintro e wd2 ⟨rfl, hbd2⟩
              have HWD := Lib.hid (HWC.out.trans (hbd2.mono HWC.out.size))
              clear hbd2 l0 l1 l2 b0 b1 b2
              go_wp2_with fail
              go_ret
              exact ⟨rfl, HWD.out⟩
end Go.Proofs.Ytfeablchjlkjiaa
