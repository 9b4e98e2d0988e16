/-
  THE LAW 'CORES', WALKED: every Core is the document's.
-/
import Derived.Test.YtfeablchjlkjiaaCrA
namespace Go.Proofs.Ytfeablchjlkjiaa
open Go.RowKit Go.Proofs.YtfeablchjlkjiaaW.PrintWords Go.Proofs.YtfeablchjlkjiaaW.PrintMore

set_option maxRecDepth 100000 in
set_option maxHeartbeats 12800000 in
theorem cores_any {w : World} {n bud : Int} {A : Option Addr} {c : Nat} {cl : List (List Int)} (_ : (Lit.int .i64 n).wf = true) (hcl : RowsArg w A c cl) (_ : (Lit.int .i64 bud).wf = true) (hsm : cl.length ≤ 1048576) :
    Calls Try.prog 8 #[.int .i64 n, .slice A cl.length c, .int .i64 bud] w fun e w' => e = .returned (.bool true) ∧ Below w.heap.size w w' := by
  have HC := Lib.hid hcl
  have HS := Lib.hid hcl.small
  have hcc := hcl.cap
  clear hcl
  go_enter Try.func8, Try.ntmps8
  go_wp2_with fail
  refine (twin_any HC.out.reads HC.out.small).mono ?_
  rintro e w1 ⟨hb, cap, fb, fc, cells, rfl, ht, hb1⟩
  have hcap := own_cap ht.own
  have HT1 := Lib.hid ht
  have HB1 := Lib.hid hb1
  clear ht hb1
  go_wp2_with fail
  refine (headers_any HT1.out HS.out.hdr).mono ?_
  rintro e w2 ⟨ov, rfl, ho, hb2⟩
  have HO2 := Lib.hid ho
  have HT2 := Lib.hid (HT1.out.kept (fun k hk => hb2.block k hk))
  have HB2 := Lib.hid (HB1.out.trans (hb2.mono HB1.out.size))
  clear ho hb2 HT1 HB1
  have hco := fun w' (h : Below w2.heap.size w2 w') => core_any (n := n) (bud := bud) (c := cap) (Kd.C_below HT2.out.reads h) (by omega) hsm
  have hrc := fun w' (h1 : KRows.C w' A cl.length cl) => rcore_any (n := n) (bud := bud) (c := c) h1 hsm
  have hcl0 : (Sv.core n cl bud).1.length ≤ 1048576 := by
    by_cases hu : (Sv.solve n cl [] bud).2 = 0 ∧ (Sv.solve n cl [] bud).1.verdict = 2
    · rw [Sv.core_unsat hu.1 hu.2]
      exact Nat.le_trans (Sv.core_blames hu.2).size hsm
    · rw [Sv.core_not hu]
      exact Nat.zero_le _
  generalize Sv.core n cl bud = r at *
  obtain ⟨l, vd, er⟩ := r
  dsimp only at hcl0
  have HCO := Lib.hid hco
  have HRC := Lib.hid hrc
  clear hco hrc
  go_wp2_with fail
  refine (HCO.out w2 (Below.refl _ _)).mono ?_
  rintro e w3 ⟨va, rfl, hoa, hb3⟩
  obtain ⟨aA, ac, rfl⟩ := own_slice hoa
  dsimp only at hoa ⊢
  have hA := IntOwn.of hoa
  have hw3 := hb3
  go_wp2_with fail
  refine (HCO.out w3 hw3).mono ?_
  rintro e w4 ⟨vl, rfl, hol, hb4⟩
  obtain ⟨lA, lc, rfl⟩ := own_slice hol
  dsimp only at hol ⊢
  have hsz3 := hb3.size
  have hsz4 := hb4.size
  have HA4 := Lib.hid (hA.below hb4)
  have HL4 := Lib.hid (IntOwn.of hol)
  have hw4 := hw3.trans (hb4.mono hw3.size)
  have HW4 := Lib.hid hw4
  clear hoa hb3 hA hw3 hol hb4 hw4
  go_wp2_with fail
  obtain ⟨wx, hwx⟩ : ∃ wx, wx = (((w4.alloc (.cells #[.int .i64 1] 3)).alloc (.cells #[.int .i64 1] 3)).alloc (.cells #[.int .i64 (-1)] 3)).alloc (.cells #[.slice (some ⟨w4.heap.size, 0, none⟩) 1 1, .slice (some ⟨w4.heap.size + 1, 0, none⟩) 1 1, .slice (some ⟨w4.heap.size + 1 + 1, 0, none⟩) 1 1] 23) := ⟨_, rfl⟩
  have hlit : KRows.C wx (some ⟨w4.heap.size + 1 + 1 + 1, 0, none⟩) 3 [[1], [1], [-1]] ∧ Below w4.heap.size w4 wx := by rw [hwx]; exact lit_three w4 [1] [1] [-1] (by decide) (by decide) (by decide)
  rw [← hwx]
  obtain ⟨hx1, hx3⟩ := hlit
  have hcx := core_any (n := 1) (bud := 100) (c := 3) hx1 (Nat.le_refl _) (by decide)
  rw [core_lit] at hcx
  have HCX := Lib.hid hcx
  have HAX := Lib.hid (HA4.out.below hx3)
  have HLX := Lib.hid (HL4.out.below hx3)
  have hsz5 := hx3.size
  have HWX := Lib.hid (HW4.out.trans (hx3.mono HW4.out.size))
  clear hx1 hx3 hcx hwx HA4 HL4 HW4
  refine HCX.out.mono ?_
  rintro e w5 ⟨vx, rfl, hox, hb5⟩
  obtain ⟨xA, xc, rfl⟩ := own_slice hox
  dsimp only [List.length_cons, List.length_nil] at hox ⊢
  have hox3 : w5.ownsRow wx.heap.size 3 1 (.slice xA 2 xc) ([1, 2] : List Int).length (nums .i64 [1, 2]) := hox
  have HX5 := Lib.hid (IntOwn.of hox3)
  have HA5 := Lib.hid (HAX.out.below hb5)
  have HL5 := Lib.hid (HLX.out.below hb5)
  have hsz6 := hb5.size
  have hw5 := HWX.out.trans (hb5.mono HWX.out.size)
  have hbx := hsz5
  clear hox hox3 hb5 HCX HAX HLX HWX
  go_wp2_with fail
  refine (HCO.out w5 hw5).mono ?_
  rintro e w6 ⟨vg, rfl, hog, hb6⟩
  obtain ⟨gA, gc, rfl⟩ := own_slice hog
  dsimp only at hog ⊢
  have HG6 := Lib.hid (IntOwn.of hog)
  have HA6 := Lib.hid (HA5.out.below hb6)
  have HL6 := Lib.hid (HL5.out.below hb6)
  have HX6 := Lib.hid (HX5.out.below hb6)
  have hsz7 := hb6.size
  have hw6 := hw5.trans (hb6.mono hw5.size)
  have HW6 := Lib.hid hw6
  clear hog hb6 hw5 hw6 HA5 HL5 HX5
  go_wp2_with fail
  have hc6 := HC.out.below (HB2.out.trans (HW6.out.mono HB2.out.size))
  refine (HRC.out w6 hc6.reads).mono ?_
  rintro e w7 ⟨vb, rfl, hob, hb7⟩
  obtain ⟨bA, bc, rfl⟩ := own_slice hob
  dsimp only at hob ⊢
  have HBo7 := Lib.hid (IntOwn.of hob)
  have HA7 := Lib.hid (HA6.out.below hb7)
  have HL7 := Lib.hid (HL6.out.below hb7)
  have HX7 := Lib.hid (HX6.out.below hb7)
  have HG7 := Lib.hid (HG6.out.below hb7)
  have hsz8 := hb7.size
  have HW7 := Lib.hid (HW6.out.trans (hb7.mono HW6.out.size))
  clear hob hb7 hc6 HA6 HL6 HX6 HG6 HW6 HRC HCO
  go_wp2_with fail
  refine (numbers_true HA7.out.C HBo7.out.C).mono ?_
  rintro e w8 ⟨rfl, q8, rfl⟩
  have hb8 := below_drewN w7 q8
  have HA8 := Lib.hid (HA7.out.below hb8)
  have HL8 := Lib.hid (HL7.out.below hb8)
  have HX8 := Lib.hid (HX7.out.below hb8)
  have HG8 := Lib.hid (HG7.out.below hb8)
  have HB8 := Lib.hid (HBo7.out.below hb8)
  have HW8 := Lib.hid (HW7.out.trans (hb8.mono HW7.out.size))
  have hsz9 := hb8.size
  clear hb8 HA7 HL7 HX7 HG7 HBo7 HW7
  generalize World.drewN _ _ = w8 at *
  go_wp2_with fail
  refine (num_any _ _ _).mono ?_
  rintro e w8 ⟨rfl, rfl⟩
  go_wp2_with fail
  refine (numbers_true HL8.out.C HB8.out.C).mono ?_
  rintro e w9 ⟨rfl, q9, rfl⟩
  have hb9 := below_drewN w8 q9
  have HA9 := Lib.hid (HA8.out.below hb9)
  have HL9 := Lib.hid (HL8.out.below hb9)
  have HX9 := Lib.hid (HX8.out.below hb9)
  have HG9 := Lib.hid (HG8.out.below hb9)
  have HB9 := Lib.hid (HB8.out.below hb9)
  have HW9 := Lib.hid (HW8.out.trans (hb9.mono HW8.out.size))
  have hszz9 := hb9.size
  clear hb9 HA8 HL8 HX8 HG8 HB8 HW8
  generalize World.drewN _ _ = w9 at *
  go_wp2_with fail
  refine (numbers_true HG9.out.C HB9.out.C).mono ?_
  rintro e w10 ⟨rfl, q10, rfl⟩
  have hb10 := below_drewN w9 q10
  have HA10 := Lib.hid (HA9.out.below hb10)
  have HL10 := Lib.hid (HL9.out.below hb10)
  have HX10 := Lib.hid (HX9.out.below hb10)
  have HG10 := Lib.hid (HG9.out.below hb10)
  have HB10 := Lib.hid (HB9.out.below hb10)
  have HW10 := Lib.hid (HW9.out.trans (hb10.mono HW9.out.size))
  have hszz10 := hb10.size
  clear hb10 HA9 HL9 HX9 HG9 HB9 HW9
  generalize World.drewN _ _ = w10 at *
  go_wp2_with fail
  have hbn := below_new w10 (.cells #[.int .i64 1, .int .i64 2] 3)
  have hxr : (Kd.int .i64).C w10 xA 2 [1, 2] := HX10.out.C
  have hl12 : (Kd.int .i64).C (w10.alloc (.cells #[.int .i64 1, .int .i64 2] 3)) (some ⟨w10.heap.size, 0, none⟩) 2 [1, 2] := by have h := lit_ints w10 [1, 2] (by decide); simpa [nums] using h
  have hnt : Calls Try.prog 28 #[.slice xA 2 xc, .slice (some ⟨w10.heap.size, 0, none⟩) 2 2] (w10.alloc (.cells #[.int .i64 1, .int .i64 2] 3)) fun e w' => e = .returned (.bool true) ∧ ∃ m, w' = (w10.alloc (.cells #[.int .i64 1, .int .i64 2] 3)).drewN m := numbers_true (xs := [1, 2]) (c := xc) (d := 2) (Kd.C_below hxr hbn) hl12
  refine hnt.mono ?_
  rintro e w11 ⟨rfl, q11, rfl⟩
  have hb11 := hbn.trans ((below_drewN (w10.alloc (.cells #[.int .i64 1, .int .i64 2] 3)) q11).mono hbn.size)
  have HA11 := Lib.hid (HA10.out.below hb11)
  have HL11 := Lib.hid (HL10.out.below hb11)
  have HX11 := Lib.hid (HX10.out.below hb11)
  have HG11 := Lib.hid (HG10.out.below hb11)
  have HB11 := Lib.hid (HB10.out.below hb11)
  have HW11 := Lib.hid (HW10.out.trans (hb11.mono HW10.out.size))
  have hszz11 := hb11.size
  clear hb11 hbn hxr hl12 hnt HA10 HL10 HX10 HG10 HB10 HW10
  generalize World.drewN _ _ = w11 at *
  go_wp2_with fail
  have hcf := HC.out.below (HB2.out.trans (HW11.out.mono HB2.out.size))
  refine (untouched_true (HT2.out.kept (fun k hk => HW11.out.block k hk)) (pw_own_below HO2.out HW11.out) hcf.reads HS.out).mono ?_
  rintro e w12 ⟨rfl, hb12⟩
  have HA12 := Lib.hid (HA11.out.below hb12)
  have HL12 := Lib.hid (HL11.out.below hb12)
  have HX12 := Lib.hid (HX11.out.below hb12)
  have HG12 := Lib.hid (HG11.out.below hb12)
  have HB12 := Lib.hid (HB11.out.below hb12)
  have HW12 := Lib.hid (HW11.out.trans (hb12.mono HW11.out.size))
  have hszz12 := hb12.size
  clear hb12 hcf HA11 HL11 HX11 HG11 HB11 HW11
  go_wp2_with fail
  have hbz := below_new w12 (.cells #[.slice aA l.length ac, .slice xA 2 xc, .slice gA l.length gc] 23)
  have hthree := three_rows (base := w2.heap.size) HA12.out HX12.out HG12.out rfl rfl rfl (Nat.le_refl _) (by omega) (Nat.le_refl _) hsz3 hsz6
  have hbsz := HW12.out.size
  have hap := apart_any (c := 3) hthree (fun i hi => by rcases show i = 0 ∨ i = 1 ∨ i = 2 by omega with rfl | rfl | rfl <;> rfl) (fun i hi => by rcases show i = 0 ∨ i = 1 ∨ i = 2 by omega with rfl | rfl | rfl <;> first | exact hcl0 | (show (2 : Nat) ≤ 1048576; decide)) (by simp; omega)
  have hszq : (w12.alloc (.cells #[.slice aA l.length ac, .slice xA 2 xc, .slice gA l.length gc] 23)).heap.size = w12.heap.size + 1 := by simp
  generalize World.alloc _ _ = w13 at *
  refine hap.mono ?_
  rintro e w14 ⟨rfl, hfil⟩
  have hoth : ∀ k, k < w12.heap.size → (k < w2.heap.size ∨ (w3.heap.size ≤ k ∧ k < w4.heap.size) ∨ w6.heap.size ≤ k) → w14.heap[k]? = w12.heap[k]? := fun k hk hk2 =>
    (hfil.other k (by omega) (three_blocks (HA12.out.blk_ne (by omega)) (HX12.out.blk_ne (by omega)) (HG12.out.blk_ne (by omega)))).trans (hbz.block k hk)
  have HL14 := Lib.hid (HL12.out.move (w1 := w14) (fun k h1 h2 => hoth k (by omega) (by omega)))
  have HB14 := Lib.hid (HB12.out.move (w1 := w14) (fun k h1 h2 => hoth k (by omega) (by omega)))
  have HW14 : Hid (Below w2.heap.size w2 w14) := Lib.hid ⟨hfil.io.1.trans (hbz.os.trans HW12.out.os), hfil.io.2.1.trans (hbz.tape.trans HW12.out.tape), hfil.io.2.2.trans (hbz.output.trans HW12.out.output), by have := hfil.size; omega, fun k hk => (hoth k (by omega) (.inl hk)).trans (HW12.out.block k hk)⟩
  clear hap hfil hoth hthree hbz HA12 HX12 HG12 HL12 HB12 HW12
  go_wp2_with fail
  refine (numbers_true HL14.out.C HB14.out.C).mono ?_
  rintro e w15 ⟨rfl, q15, rfl⟩
  have HW15 := Lib.hid (HW14.out.trans ((below_drewN w14 q15).mono HW14.out.size))
  clear HL14 HB14 HW14
  generalize World.drewN _ _ = w15 at *
  go_wp2_with fail
  have hcf := HC.out.below (HB2.out.trans (HW15.out.mono HB2.out.size))
  refine (untouched_true (HT2.out.kept (fun k hk => HW15.out.block k hk)) (pw_own_below HO2.out HW15.out) hcf.reads HS.out).mono ?_
  rintro e w16 ⟨rfl, hb16⟩
  have HW16 := Lib.hid (HW15.out.trans (hb16.mono HW15.out.size))
  clear hb16 hcf HW15
  go_wp2_with fail
  have hh := half_nat cl.length
  have hhr := (HT2.out.kept (fun k hk => HW16.out.block k hk)).headRow
  have HHR := Lib.hid hhr
  have hbt : hb < w2.heap.size := (HT2.out.top).1
  clear hhr
  generalize [Value.slice (some ⟨fb cl.length, 0, none⟩) 1 1, Value.slice (some ⟨fb (cl.length + 1), 0, none⟩) 1 1] = marks at *
  generalize hdrs fb fc cl = hs0 at *
  go_loopw [24] (fun iv wr => ∃ (q : Nat) (hs : List HdT) (xs : List (List Int)), q ≤ cl.length / 2 ∧ iv = .int .i64 q ∧ Hid (HeadRow wr w.heap.size hb cap cl.length hs marks xs) ∧ Hid (∀ x ∈ xs, x ∈ cl) ∧ Hid (w16.grownBy wr (some hb))) (fun iv _ => cl.length / 2 - (intOf iv).toNat)
  case atStart => exact ⟨0, hs0, cl, Nat.zero_le _, rfl, HHR, Lib.hid (fun _ h => h), grown_refl _ _⟩
  case round =>
    obtain ⟨q, hs, xs, hq, rfl, HR, HM, HG⟩ := hrel
    by_cases hlt : q < cl.length / 2
    · obtain ⟨o, ho⟩ : ∃ o, o = cl.length - 1 - q := ⟨_, rfl⟩
      have hoi : (cl.length : Int) - 1 - (q : Int) = (o : Int) := by omega
      have hqn : q < cl.length := by omega
      have hon : o < cl.length := by omega
      clear ho
      have c1 := HR.out.cell q hqn
      have c2 := HR.out.cell o hon
      have f1 := HR.out.free q
      have f2 := HR.out.free o
      have hsw := HR.out.swap q o hqn hon
      have hme := swap_mem HM.out q o (by rw [HR.out.lenx]; exact hqn) (by rw [HR.out.lenx]; exact hon)
      have HSW := Lib.hid hsw.1
      have HGW := Lib.hid (grown_then HG.out hsw.2 (.inl rfl))
      have HME := Lib.hid hme
      clear hsw hme
      generalize hs.getD q (none, 0, 0) = hq1 at *
      generalize hs.getD o (none, 0, 0) = ho1 at *
      obtain ⟨p1, n1, k1⟩ := hq1
      obtain ⟨p2, n2, k2⟩ := ho1
      dsimp only [hdV] at c1 c2 HSW HGW
      go_wp2_with fail
      go_region
      all_goals
        go_wp2_with fail
        go_roundw
        case rel => exact ⟨q + 1, _, _, by omega, by go_num, Lib.hid (HSW.out.below (Below.refl _ _).drew), HME, Lib.hid (grown_drewN HGW.out 1)⟩
        case measure => simp [intOf]; omega
    · have hlx := HR.out.lenx
      have hsx := small_of_mem HS.out (fun x hx => .inl (HM.out x hx)) hlx
      have hsn : SmallRows (xs.set (cl.length - 1) []) := small_of_mem HS.out (fun x hx => by
        rcases List.mem_or_eq_of_mem_set hx with h | h
        · exact .inl (HM.out x h)
        · exact .inr h) (by rw [List.length_set]; exact hlx)
      have hbw : w.heap.size ≤ hb := own_base HR.out.own hb rfl
      have hwr := (HB2.out.trans (HW16.out.mono HB2.out.size)).trans (grown_below HG.out (by have := HB2.out.size; have := HW16.out.size; omega) (fun k hk => by injection hk with hk; omega))
      have HSX := Lib.hid hsx
      have HSN := Lib.hid hsn
      have HWR := Lib.hid hwr
      clear hsx hsn hwr HG HM HHR HS HC HT2 HO2 HW16 hcc hh
      generalize cl.length = N at *
      subst hlx
      have hnq : ¬((q : Int) < ((xs.length / 2 : Nat) : Int)) := by omega
      go_wp2_with fail
      refine (twin_any (c := cap) HR.out.reads HSX.out).mono ?_
      rintro e wa ⟨hbz, capz, fbz, fcz, cellz, rfl, htz, hba⟩
      have hcapz := own_cap htz.own
      have hrz := rcore_any (n := n) (bud := bud) (c := capz) htz.reads hsm
      have HRA := Lib.hid (HR.out.below hba)
      have HWA := Lib.hid (HWR.out.trans (hba.mono HWR.out.size))
      have hsy := fun w' (h : Below wa.heap.size wa w') => core_any (n := n) (bud := bud) (c := cap) (HRA.out.below h).reads (by omega) hsm
      generalize Sv.core n xs bud = r2 at *
      obtain ⟨l2, vd2, er2⟩ := r2
      have HRZ := Lib.hid hrz
      have HSY := Lib.hid hsy
      clear htz hba hrz hsy HR HWR
      go_wp2_with fail
      refine HRZ.out.mono ?_
      rintro e wb ⟨vz, rfl, hoz, hbb⟩
      obtain ⟨zA, zc, rfl⟩ := own_slice hoz
      dsimp only at hoz ⊢
      have hbb2 := hbb
      go_wp2_with fail
      refine (HSY.out wb hbb2).mono ?_
      rintro e wy ⟨vy, rfl, hoy, hby⟩
      obtain ⟨yA, yc, rfl⟩ := own_slice hoy
      dsimp only at hoy ⊢
      have HOZ := Lib.hid (pw_own_below hoz hby)
      have HOY := Lib.hid hoy
      have hby2 := hbb.trans (hby.mono hbb.size)
      have HRY := Lib.hid (HRA.out.below hby2)
      have HWY := Lib.hid (HWA.out.trans (hby2.mono HWA.out.size))
      clear hoz hoy hbb hbb2 hby hby2 HRA HWA HSY HRZ
      go_wp2_with fail
      refine (numbers_true (own_ints_C HOY.out) (own_ints_C HOZ.out)).mono ?_
      rintro e wc ⟨rfl, qc, rfl⟩
      have hbc := below_drewN wy qc
      have HOZ2 := Lib.hid (pw_own_below HOZ.out hbc)
      have HOY2 := Lib.hid (pw_own_below HOY.out hbc)
      have HRC := Lib.hid (HRY.out.below hbc)
      have HWC := Lib.hid (HWY.out.trans (hbc.mono HWY.out.size))
      clear hbc HOZ HOY HRY HWY
      generalize World.drewN _ _ = wc at *
      go_wp2_with fail
      refine (num_any _ _ _).mono ?_
      rintro e wc ⟨rfl, rfl⟩
      by_cases hz : xs.length = 0
      · have hz2 : ((xs.length : Int) == 0) = true := beq_iff_eq.2 (by omega)
        go_wp2_with fail
        refine (numbers_true (own_ints_C HOY2.out) (own_ints_C HOZ2.out)).mono ?_
        rintro e wd ⟨rfl, qd, rfl⟩
        have HWD := Lib.hid (HWC.out.trans ((below_drewN wc qd).mono HWC.out.size))
        generalize World.drewN _ _ = wd at *
        go_wp2_with fail
        refine (num_any _ _ _).mono ?_
        rintro e wd ⟨rfl, rfl⟩
        go_wp2_with fail
        go_ret
        exact ⟨rfl, HWD.out⟩
      · have hz2 : ((xs.length : Int) == 0) = false := beq_eq_false_iff_ne.2 (by omega)
        obtain ⟨o, ho⟩ : ∃ o, o = xs.length - 1 := ⟨_, rfl⟩
        have hoi : (xs.length : Int) - 1 = (o : Int) := by omega
        have hon : o < xs.length := by omega
        rw [← ho] at HSN
        clear ho
        have c2 := HRC.out.cell o hon
        have f2 := HRC.out.free o
        obtain ⟨hset, hgs⟩ := HRC.out.set o hon (none, 0, 0) [] rfl (Nat.le_refl _) (nil_ints wc)
        have hws := HWC.out.trans (grown_below hgs (by have := HWC.out.size; omega) (fun k hk => by injection hk with hk; omega))
        have hlen3 : (xs.set o []).length = xs.length := List.length_set
        have hsm3 : (xs.set o []).length ≤ 1048576 := by rw [hlen3]; exact hsm
        dsimp only [hdV] at hset hws
        have HST := Lib.hid hset
        have HWS := Lib.hid hws
        have HSM3 := Lib.hid hsm3
        have HLEN3 := Lib.hid hlen3
        clear hset hgs hws hlen3 hsm3 HOZ2 HOY2
        go_wp2_with fail
        generalize World.setCell wc _ _ = wd at *
        rw [← HLEN3.out]
        have hrd := HST.out.reads
        have hcap3 : xs.length + 2 ≤ cap := own_cap HST.out.own
        have hcap4 : (xs.set o []).length ≤ cap := by rw [HLEN3.out]; omega
        rw [← HLEN3.out] at hrd
        generalize xs.set o [] = xs3 at *
        refine (twin_any (c := cap) hrd HSN.out).mono ?_
        rintro e we ⟨hbe, cape, fbe, fce, celle, rfl, hte, hbwe⟩
        have hcape := own_cap hte.own
        have hrz := rcore_any (n := n) (bud := bud) (c := cape) hte.reads HSM3.out
        have hrd2 := Kd.C_below hrd hbwe
        have HWE := Lib.hid (HWS.out.trans (hbwe.mono HWS.out.size))
        have hsm4 := HSM3.out
        have hsy := fun w' (h : Below we.heap.size we w') => core_any (n := n) (bud := bud) (c := cap) (Kd.C_below hrd2 h) hcap4 hsm4
        generalize Sv.core n xs3 bud = r3 at *
        obtain ⟨l3, vd3, er3⟩ := r3
        have HRZ := Lib.hid hrz
        have HSY := Lib.hid hsy
        clear hte hbwe hrz hsy hrd hrd2 HWS HWC HST HRC
        go_wp2_with fail
        refine HRZ.out.mono ?_
        rintro e wf ⟨vz3, rfl, hoz, hbf⟩
        obtain ⟨zA3, zc3, rfl⟩ := own_slice hoz
        dsimp only at hoz ⊢
        have hbf2 := hbf
        go_wp2_with fail
        refine (HSY.out wf hbf2).mono ?_
        rintro e wg ⟨vy3, rfl, hoy, hbg⟩
        obtain ⟨yA3, yc3, rfl⟩ := own_slice hoy
        dsimp only at hoy ⊢
        have HOZ := Lib.hid (pw_own_below hoz hbg)
        have HOY := Lib.hid hoy
        have hbg2 := hbf.trans (hbg.mono hbf.size)
        have HWG := Lib.hid (HWE.out.trans (hbg2.mono HWE.out.size))
        clear hoz hoy hbf hbf2 hbg hbg2 HWE HSY HRZ
        go_wp2_with fail
        refine (numbers_true (own_ints_C HOY.out) (own_ints_C HOZ.out)).mono ?_
        rintro e wi ⟨rfl, qi, rfl⟩
        have HWI := Lib.hid (HWG.out.trans ((below_drewN wg qi).mono HWG.out.size))
        clear HOZ HOY HWG
        generalize World.drewN _ _ = wi at *
        go_wp2_with fail
        refine (num_any _ _ _).mono ?_
        rintro e wi ⟨rfl, rfl⟩
        go_wp2_with fail
        go_ret
        exact ⟨rfl, HWI.out⟩
end Go.Proofs.Ytfeablchjlkjiaa
