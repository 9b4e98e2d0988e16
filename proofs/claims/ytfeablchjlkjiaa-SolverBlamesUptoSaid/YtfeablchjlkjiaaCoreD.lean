/-
  THE LAW 'BLAMES', WALKED: the clauses of a core have no model; without any one of them it is not said so.
-/
import Derived.Test.YtfeablchjlkjiaaCoreC
namespace Go.Proofs.Ytfeablchjlkjiaa
open Go.RowKit Go.Proofs.YtfeablchjlkjiaaW.PrintWords Go.Proofs.YtfeablchjlkjiaaW.PrintMore

theorem rises_at {l : List Int} (h : l.Pairwise (· < ·)) {j : Nat} (hj : j + 1 < l.length) : rd l (j : Int) < rd l ((j + 1 : Nat) : Int) := by
  have h2 := List.pairwise_iff_getElem.1 h j (j + 1) (by omega) hj (by omega)
  rw [rd, rd, Int.toNat_natCast, Int.toNat_natCast, List.getD_eq_getElem?_getD, List.getD_eq_getElem?_getD, List.getElem?_eq_getElem hj, List.getElem?_eq_getElem (show j < l.length by omega)]
  exact h2
theorem small_pick {cl : List (List Int)} {l : List Int} (h : SmallRows cl) (hl : ∀ x ∈ l, 0 ≤ x ∧ x < cl.length) (hn : l.length ≤ 1048576) : SmallRows (Sv.pick cl l) :=
  ⟨by rw [Sv.pick_length]; omega, fun x hx => h.row x (Sv.pick_mem hl hx)⟩

set_option maxRecDepth 100000 in
set_option maxHeartbeats 6400000 in
theorem blames_any {w : World} {n bud : Int} {A C : Option Addr} {c f : Nat} {cl : List (List Int)} {cand : List Bool} (_ : (Lit.int .i64 n).wf = true) (hcl : RowsArg w A c cl) (_ : (Lit.int .i64 bud).wf = true) (hcand : Kd.bool.C w C cand.length cand) (hsm : cl.length ≤ 1048576) :
    Calls Try.prog 9 #[.int .i64 n, .slice A cl.length c, .int .i64 bud, .slice C cand.length f] w fun e w' => e = .returned (.bool true) ∧ Below w.heap.size w w' := by
  have hcc := hcl.cap
  have hcore := Sv.core_not (n := n) (cl := cl) (bud := bud)
  have hcore2 := Sv.core_unsat (n := n) (cl := cl) (bud := bud)
  have hbl := Sv.core_blames (n := n) (cl := cl) (bud := bud)
  have HC := Lib.hid hcl
  have HD := Lib.hid hcand
  have HN := Lib.hid hcore
  have HU := Lib.hid hcore2
  have HBL := Lib.hid hbl
  have hsp := fun l => small_pick (cl := cl) (l := l) hcl.small
  have HSP := Lib.hid hsp
  clear hcl hcand hcore hcore2 hbl hsp
  go_enter Try.func9, Try.ntmps9
  go_wp2_with fail
  refine (lives_any _).mono ?_
  rintro e w1 ⟨rfl, hb1⟩
  have HB1 := Lib.hid hb1
  clear hb1
  go_wp2_with fail
  have hc1 := HC.out.below HB1.out
  refine (twin_any hc1.reads hc1.small).mono ?_
  rintro e w2 ⟨hb, cap, fb, fc, cells, rfl, ht, hb2⟩
  have hco := core_any (n := n) (bud := bud) (c := cap) ht.reads (by have := own_cap ht.own; omega) hsm
  have HCO := Lib.hid hco
  have HB2 := Lib.hid (HB1.out.trans (hb2.mono HB1.out.size))
  clear hc1 ht hb2 hco HB1
  go_wp2_with fail
  refine HCO.out.mono ?_
  rintro e w3 ⟨lv, rfl, hown, hb3⟩
  have HO3 := Lib.hid (own_weaken hown HB2.out.size)
  have HB3 := Lib.hid (HB2.out.trans (hb3.mono HB2.out.size))
  clear hown hb3 HCO HB2
  go_wp2_with fail
  have hc3 := HC.out.below HB3.out
  refine (twin_any hc3.reads hc3.small).mono ?_
  rintro e w4 ⟨hb2, cap2, fb2, fc2, cells2, rfl, ht, hb4⟩
  have hsol := solve_any (n := n) (bud := bud) (c := cap2) (d := 0) (pf := []) ht.reads (by have := own_cap ht.own; omega) (nil_ints _) (Nat.le_refl _) hc3.small.hdr
  have HSOL := Lib.hid hsol
  have HO4 := Lib.hid (pw_own_below HO3.out hb4)
  have HB4 := Lib.hid (HB3.out.trans (hb4.mono HB3.out.size))
  clear hc3 ht hb4 hsol HB3 HO3
  go_wp2_with fail
  refine HSOL.out.mono ?_
  rintro e w5 ⟨vv, rfl, hR5, hb5⟩
  obtain ⟨rA, rc, hv, _, _⟩ := Kd.R_reads hR5
  subst hv
  have HO5 := Lib.hid (pw_own_below HO4.out hb5)
  have HB5 := Lib.hid (HB4.out.trans (hb5.mono HB4.out.size))
  clear hR5 hb5 HSOL HO4 HB4
  by_cases hu : (Sv.solve n cl [] bud).2 = 0 ∧ (Sv.solve n cl [] bud).1.verdict = 2
  · have hco := HU.out hu.1 hu.2
    have hblm := HBL.out hu.2
    have hck := Sv.solve_ok' hu.1
    rw [hco] at HO5 ⊢
    obtain ⟨m, rfl, hprob⟩ := Sv.prob_of (decide_eq_true hck : problemL n cl [] bud = true)
    have hm := hprob.small
    have hpos := hblm.some hck
    have hnomod := Sv.uns_model hblm.is hck hblm.inn
    have hsz := hblm.size
    have hsub : ∀ l : List Int, (∀ x ∈ l, 0 ≤ x ∧ x < cl.length) → (Sv.solve m (Sv.pick cl l) [] bud).2 = 0 := fun l h => Sv.solve_ok (Sv.check_pick hck h)
    generalize Sv.coreP (Sv.uns m cl bud) (cl.length + 1) (Sv.iota cl.length) = l at *
    have hlits : ∀ x ∈ Sv.pick cl l, ∀ y ∈ x, Sv.LitN m y := fun x hx y hy => hprob.lits.cl x (Sv.pick_mem hblm.inn hx) y hy
    generalize Sv.solve m cl [] bud = r5 at *
    obtain ⟨⟨vd5, vs5, st5⟩, er5⟩ := r5
    dsimp only at *
    obtain ⟨rfl, rfl⟩ := hu
    have hrise := fun j => rises_at (j := j) hblm.rise
    obtain ⟨g, gc, rfl, _, _⟩ := HO5.out.form hpos
    have hread : (Kd.int .i64).C w5 (some ⟨g, 0, none⟩) l.length l := Kd.C_of_reads (enc := Value.int .i64) (d := (0 : Int)) (own_reads' HO5.out)
    have HIN := Lib.hid hblm.inn
    have HFIX := Lib.hid hblm.fix
    have HRISE := Lib.hid hrise
    have HNM := Lib.hid hnomod
    have HSUB := Lib.hid hsub
    have HLIT := Lib.hid hlits
    have HRD := Lib.hid hread
    have HPOS := Lib.hid hpos
    clear hco hblm hck hprob hpos hnomod hsub hlits hrise hread HO5 HN HU HBL
    go_wp2_with fail
    have hbn := below_new w5 (.cells #[.int .i64 2, .slice rA vs5.length rc, .int .i64 st5] 28)
    have HB6 := Lib.hid (HB5.out.trans (hbn.mono HB5.out.size))
    have HRD6 := Lib.hid (Kd.C_below HRD.out hbn)
    clear hbn HRD HB5
    generalize World.alloc _ _ = w6 at *
    go_loopw [14] (fun iv wr => ∃ (i q : Nat), i ≤ l.length ∧ iv = .int .i64 i ∧ wr = w6.drewN q) (fun iv _ => l.length - (intOf iv).toNat)
    case atStart => exact ⟨0, 0, Nat.zero_le _, rfl, rfl⟩
    case round =>
      obtain ⟨i, q, hi, rfl, rfl⟩ := hrel
      by_cases hlt : i < l.length
      · obtain ⟨ad, he, hcell0⟩ := Kd.at_int HRD6.out i (by omega) (by omega)
        cases he
        rw [Int.toNat_natCast, Addr.add_lit, Nat.zero_add] at hcell0
        have hin := HIN.out _ (rd_mem_of hlt)
        cases i with
        | zero =>
          generalize rd l ((0 : Nat) : Int) = x at *
          obtain ⟨h0, h1⟩ := hin
          have e0 : decide (x < 0) = false := decide_eq_false (by omega)
          have e1 : decide ((cl.length : Int) ≤ x) = false := decide_eq_false (by omega)
          go_wp2_with fail
          go_quiet (fail)
          go_wp2_with fail
          go_roundw
          case rel => exact ⟨1, _, by omega, by go_num, rfl⟩
          case measure => simp [intOf]; omega
        | succ i =>
          have hr := HRISE.out i hlt
          obtain ⟨ad, he, hcell1⟩ := Kd.at_int HRD6.out i (by omega) (by omega)
          cases he
          rw [Int.toNat_natCast, Addr.add_lit, Nat.zero_add] at hcell1
          generalize rd l ((i + 1 : Nat) : Int) = x at *
          generalize rd l (i : Int) = y at *
          obtain ⟨h0, h1⟩ := hin
          have e0 : decide (x < 0) = false := decide_eq_false (by omega)
          have e1 : decide ((cl.length : Int) ≤ x) = false := decide_eq_false (by omega)
          have e2 : decide (x ≤ y) = false := decide_eq_false (by omega)
          go_wp2_with fail
          go_quiet (fail)
          go_wp2_with fail
          go_roundw
          case rel => exact ⟨i + 1 + 1, _, by omega, by go_num, rfl⟩
          case measure => simp [intOf]; omega
      · obtain rfl : i = l.length := by omega
        have HB7 := Lib.hid (HB6.out.trans ((below_drewN w6 q).mono HB6.out.size))
        have HRD7 := Lib.hid (Kd.C_below HRD6.out (below_drewN w6 q))
        clear HRD6 HB6
        generalize World.drewN _ _ = w7 at *
        go_wp2_with fail
        have hc7 := HC.out.below HB7.out
        refine (chosen_any (but := -1) hc7.reads HRD7.out HIN.out (by omega)).mono ?_
        rintro e w8 ⟨cv, rfl, hR8, hb8⟩
        rw [Sv.butL_none] at hR8
        obtain ⟨cA, cc, rfl, _, hC8⟩ := fixed_reads hR8 hb8
        have HC8 := Lib.hid hC8
        have HB8 := Lib.hid (HB7.out.trans (hb8.mono HB7.out.size))
        have HRD8 := Lib.hid (Kd.C_below HRD7.out hb8)
        clear hc7 hR8 hb8 hC8 HRD7 HB7
        go_wp2_with fail
        refine (padded_any (Kd.C_below HD.out HB8.out) hm).mono ?_
        rintro e w9 ⟨pA, pc, rfl, hpad, hb9⟩
        obtain ⟨pA', pc', he, _, hpc⟩ := Kd.R_reads hpad
        have hlen := paddedL_length cand m
        have hnm := HNM.out (paddedL cand m)
        generalize paddedL cand m = vals at *
        cases he
        have hmod := model_any (c := cc) (d := pc) (Kd.C_below HC8.out hb9) hpc (by rw [hlen]; exact HLIT.out)
        rw [hnm] at hmod
        have HMOD := Lib.hid hmod
        have HB9 := Lib.hid (HB8.out.trans (hb9.mono HB8.out.size))
        have HRD9 := Lib.hid (Kd.C_below HRD8.out hb9)
        clear hpad hb9 hpc hnm hlen hmod HRD8 HB8 HC8 HNM HLIT
        go_wp2_with fail
        refine HMOD.out.mono ?_
        rintro e w' ⟨rfl, rfl⟩
        clear HMOD
        generalize vals.length = m at *
        go_wp2_with fail
        go_loopw [15] (fun iv wr => ∃ (i : Nat), i ≤ l.length ∧ iv = .int .i64 i ∧ Hid (Below w.heap.size w wr) ∧ Hid ((Kd.int .i64).C wr (some ⟨g, 0, none⟩) l.length l)) (fun iv _ => l.length - (intOf iv).toNat)
        case atStart => exact ⟨0, Nat.zero_le _, rfl, HB9, HRD9⟩
        case round =>
          obtain ⟨i, hi2, rfl, HBI, HRDI⟩ := hrel
          by_cases hlt2 : i < l.length
          · have hinE : ∀ x ∈ l.eraseIdx i, 0 ≤ x ∧ x < cl.length := fun x hx => HIN.out x (List.mem_of_mem_eraseIdx hx)
            have hok := HSUB.out _ hinE
            have hfx := of_decide_eq_false (HFIX.out i hlt2)
            have hsmE := HSP.out _ hinE (by rw [List.length_eraseIdx_of_lt hlt2]; omega)
            have hbu := Sv.butL_erase l i hlt2
            have HOK := Lib.hid hok
            have HFX := Lib.hid hfx
            have HSM := Lib.hid hsmE
            have HBU := Lib.hid hbu
            clear hinE hok hfx hsmE hbu
            go_wp2_with fail
            have hci := HC.out.below HBI.out
            refine (chosen_any (but := (i : Int)) hci.reads HRDI.out HIN.out (by omega)).mono ?_
            rintro e wa ⟨cv2, rfl, hRa, hba⟩
            rw [HBU.out] at hRa
            generalize Sv.pick cl (l.eraseIdx i) = cl2 at *
            obtain ⟨cA2, cc2, rfl, _, hCa⟩ := fixed_reads hRa hba
            have HCA := Lib.hid hCa
            have HBA := Lib.hid (HBI.out.trans (hba.mono HBI.out.size))
            have HRDA := Lib.hid (Kd.C_below HRDI.out hba)
            clear hci hRa hba hCa HRDI HBI
            go_wp2_with fail
            refine (twin_any HCA.out HSM.out).mono ?_
            rintro e wb ⟨hb3, cap3, fb3, fc3, cells3, rfl, ht3, hbb⟩
            have hsol := solve_any (n := m) (bud := bud) (c := cap3) (d := 0) (pf := []) ht3.reads (by have := own_cap ht3.own; omega) (nil_ints _) (Nat.le_refl _) HSM.out.hdr
            have HSOL := Lib.hid hsol
            have HBB := Lib.hid (HBA.out.trans (hbb.mono HBA.out.size))
            have HRDB := Lib.hid (Kd.C_below HRDA.out hbb)
            clear ht3 hbb hsol HRDA HBA HCA
            generalize Sv.solve m cl2 [] bud = r6 at *
            obtain ⟨⟨vd6, vs6, st6⟩, er6⟩ := r6
            have hok := HOK.out
            have hfx := HFX.out
            dsimp only at *
            subst hok
            have h2 : (vd6 == 2) = false := beq_eq_false_iff_ne.2 hfx
            clear HOK HFX
            go_wp2_with fail
            refine HSOL.out.mono ?_
            rintro e wd ⟨vv, rfl, hRd, hbd⟩
            obtain ⟨rA2, rc2, hv, _, _⟩ := Kd.R_reads hRd
            subst hv
            have HBD := Lib.hid (HBB.out.trans (hbd.mono HBB.out.size))
            have HRDD := Lib.hid (Kd.C_below HRDB.out hbd)
            clear hRd hbd HSOL HBB HRDB
            go_wp2_with fail
            go_roundw
            case rel => exact ⟨i + 1, by omega, by go_num, Lib.hid (HBD.out.alloc HBD.out.size _), Lib.hid (Kd.C_below HRDD.out (below_new _ _))⟩
            case measure => simp [intOf]; omega
          · obtain rfl : i = l.length := by omega
            have hpos : decide ((0 : Int) < (l.length : Int)) = true := decide_eq_true (by have := HPOS.out; omega)
            go_wp2_with fail
            go_ret
            exact ⟨by simp [HPOS.out], HBI.out⟩
  · have hco := HN.out hu
    rw [hco] at HO5 ⊢
    generalize Sv.solve n cl [] bud = r5 at *
    obtain ⟨⟨vd5, vs5, st5⟩, er5⟩ := r5
    dsimp only at *
    obtain ⟨lA, lc, rfl⟩ := own_slice HO5.out
    clear hco HN HU HBL
    by_cases h1 : er5 = 0
    · subst h1
      have h2 : (vd5 == 2) = false := beq_eq_false_iff_ne.2 (fun e => hu ⟨rfl, e⟩)
      have h3 : (vd5 != 2) = true := by rw [bne, h2]; rfl
      go_wp2_with fail
      go_ret
      exact ⟨rfl, HB5.out.alloc HB5.out.size _⟩
    · have h2 : (er5 == 0) = false := beq_eq_false_iff_ne.2 h1
      have h3 : (er5 != 0) = true := by rw [bne, h2]; rfl
      go_wp2_with fail
      go_ret
      exact ⟨rfl, HB5.out.alloc HB5.out.size _⟩
end Go.Proofs.Ytfeablchjlkjiaa
