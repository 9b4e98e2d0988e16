/-
  THE LAW 'WANTED', WALKED: if what is preferred are the true ones of a model, that model is the answer.
-/
import Derived.Test.YtfeablchjlkjiaaSlawF
namespace Go.Proofs.Ytfeablchjlkjiaa
open Go.RowKit Go.Proofs.YtfeablchjlkjiaaW.PrintWords

/-- The loop that makes the list of what is wanted. -/
structure WantAt (w wr : World) (b : List Bool) (k : Nat) (v : Value) (L : List Int) : Prop where
  own : wr.ownsRow w.heap.size 3 1 v L.length (nums .i64 L)
  below : Below w.heap.size w wr
  list : L ++ Sv.trues b k = Sv.trues b b.length

set_option maxRecDepth 100000 in
set_option maxHeartbeats 1600000 in
theorem wanted_any {w : World} {bud : Int} {A B : Option Addr} {c d : Nat} {cl : List (List Int)} {vals : List Bool} (hcl : RowsArg w A c cl) (hv : Kd.bool.C w B vals.length vals) (_ : (Lit.int .i64 bud).wf = true) (hsm : vals.length ≤ 1048576) :
    Calls Try.prog 6 #[.slice A cl.length c, .slice B vals.length d, .int .i64 bud] w fun e w' => e = .returned (.bool true) ∧ Below w.heap.size w w' := by
  have HC := Lib.hid hcl
  have HV := Lib.hid hv
  clear hcl hv
  go_enter Try.func6, Try.ntmps6
  go_wp2_with fail
  refine (lives_any _).mono ?_
  rintro e w1 ⟨rfl, hb1⟩
  have HB1 := Lib.hid hb1
  clear hb1
  go_wp2_with fail
  go_loopw [8, 9] (fun v i wr => ∃ (k : Nat) (L : List Int), k ≤ vals.length ∧ L.length + k ≤ vals.length ∧ i = .int .i64 k ∧ WantAt w1 wr vals k v L) (fun _ i _ => (intOf i).toNat)
  case atStart => exact ⟨vals.length, [], Nat.le_refl _, by simp, rfl, own_nil _ _ _ _, Below.refl _ _, rfl⟩
  case round =>
    obtain ⟨k, L, hk, hLk, rfl, hp⟩ := hrel
    obtain ⟨vA, vc, rfl⟩ := own_slice hp.own
    cases k with
    | zero =>
      have hLe : L = Sv.trues vals vals.length := by have := hp.list; simpa [Sv.trues] using this
      subst hLe
      have hLs := Sv.trues_length vals vals.length
      have hpr : (Kd.int .i64).C wr vA (Sv.trues vals vals.length).length (Sv.trues vals vals.length) := Kd.C_of_reads (enc := Value.int .i64) (d := (0 : Int)) (own_reads' hp.own)
      have hcap := own_cap hp.own
      have HB2 := Lib.hid (HB1.out.trans (hp.below.mono HB1.out.size))
      have HPF := Lib.hid hpr
      clear hp hpr HB1
      have hwan := fun (h : Sv.Prob vals.length cl (Sv.trues vals vals.length) bud) hm => h.wanted hm
      generalize Sv.trues vals vals.length = pf at *
      have HWAN := Lib.hid hwan
      clear hwan
      go_wp2_with fail
      have hc2 := HC.out.below HB2.out
      refine (problem_any hc2.reads HPF.out hcap hc2.small.hdr).mono ?_
      rintro e w2 ⟨rfl, hb2⟩
      have HPF2 := Lib.hid (Kd.C_below HPF.out hb2)
      have HB3 := Lib.hid (HB2.out.trans (hb2.mono HB2.out.size))
      clear hc2 hb2 HB2 HPF
      generalize hpv : problemL vals.length cl pf bud = pv
      have HPV := Lib.hid hpv
      clear hpv
      cases pv with
      | false =>
        go_wp2_with fail
        go_ret
        exact ⟨rfl, HB3.out⟩
      | true =>
        obtain ⟨m, hm, hprob⟩ := Sv.prob_of HPV.out
        obtain rfl : vals.length = m := by omega
        have hn := hprob.small
        have hc3 := HC.out.below HB3.out
        have hmod := model_any (c := c) (d := d) hc3.reads (Kd.C_below HV.out HB3.out) hprob.lits.cl
        have HPROB := Lib.hid hprob
        have HMOD := Lib.hid hmod
        clear hprob HPV hc3 hmod hm
        go_wp2_with fail
        refine HMOD.out.mono ?_
        rintro e w' ⟨rfl, rfl⟩
        generalize hmv : modelL cl vals = mv
        have HMV := Lib.hid hmv
        clear hmv HMOD
        cases mv with
        | false =>
          go_wp2_with fail
          go_ret
          exact ⟨rfl, HB3.out⟩
        | true =>
          go_wp2_with fail
          have hc3 := HC.out.below HB3.out
          refine (twin_any hc3.reads hc3.small).mono ?_
          rintro e w4 ⟨hb, cap, fb, fc, cells, rfl, ht, hb4⟩
          have hsol := solve_any (n := vals.length) (bud := bud) (c := cap) (d := vc) ht.reads (by have := own_cap ht.own; omega) (Kd.C_below HPF2.out hb4) hcap hc3.small.hdr
          rw [HPROB.out.solve] at hsol
          have HSOL := Lib.hid hsol
          have HB4 := Lib.hid (HB3.out.trans (hb4.mono HB3.out.size))
          have hlk := HWAN.out HPROB.out HMV.out
          generalize Sv.start vals.length cl pf bud = R at *
          have HLK := Lib.hid hlk
          clear hsol hb4 ht hc3 hlk HWAN
          go_wp2_with fail
          refine HSOL.out.mono ?_
          rintro e w6 ⟨vv, rfl, hR, hb6⟩
          have HB6 := Lib.hid (HB4.out.trans (hb6.mono HB4.out.size))
          obtain ⟨rA, rc, hv, hvc, hCv⟩ := Kd.R_reads hR
          subst hv
          cases R with
          | unsat s => exact absurd rfl (HLK.out.1 s)
          | spent s =>
            clear hR hCv hb6 HSOL
            simp only [Sv.Res.found] at *
            go_wp2_with fail
            go_ret
            exact ⟨rfl, HB6.out.alloc HB6.out.size _⟩
          | sat v s =>
            have hlk := HLK.out.2 v s rfl
            have hCv' : Kd.bool.C w6 rA (Sv.told v).length (Sv.told v) := hCv
            rw [hlk] at hCv'
            have HCV := Lib.hid hCv'
            have htl : v.length = vals.length := by rw [← hlk, Sv.told_length]
            clear hR hCv hb6 HSOL HLK hCv' hlk
            simp only [Sv.Res.found] at *
            go_wp2_with fail
            have hb7 : Below w6.heap.size w6 (w6.alloc (.cells #[.int .i64 1, .slice rA vals.length rc, .int .i64 s] 28)) := (Below.refl _ _).alloc (Nat.le_refl _) _
            have HB7 := Lib.hid (HB6.out.trans (hb7.mono HB6.out.size))
            refine (bools_true (c := rc) (d := d) (Kd.C_below HCV.out hb7) (Kd.C_below HV.out HB7.out)).mono ?_
            rintro e w8 ⟨rfl, q, rfl⟩
            clear hb7
            generalize World.alloc _ _ = w7 at *
            go_wp2_with fail
            go_ret
            exact ⟨rfl, HB7.out.trans ((below_drewN _ q).mono HB7.out.size)⟩
    | succ k =>
      obtain ⟨ad, rfl, hcell0⟩ := Kd.at_bool HV.out k (by omega) (by omega)
      rw [Int.toNat_natCast] at hcell0
      have hcell1 : w1.cell? (ad.add k) = _ := pw_cell_below HB1.out hcell0
      have hcell : wr.cell? (ad.add k) = _ := pw_cell_below hp.below hcell1
      have hx : vals.getD k false = rdOf false vals k := by rw [rdOf, Int.toNat_natCast]
      have hlist := hp.list
      rw [Sv.trues, hx] at hlist
      generalize rdOf false vals k = x at *
      have hl1 : (L.length + 1) * 8 ≤ 140737488355328 := by omega
      have hby : 0 < 8 := by decide
      have hki : ((k + 1 : Nat) : Int) - 1 = k := by omega
      have HP := Lib.hid hp
      have HLIST := Lib.hid hlist
      clear hp hlist hx hcell0 hcell1
      cases x with
      | false =>
        go_wp2_with fail
        go_roundw
        case rel => exact ⟨k, L, by omega, by omega, by go_num, HP.out.own, HP.out.below, by have := HLIST.out; simpa using this⟩
        case measure => simp [intOf]
      | true =>
        go_wp2_with (at_builtin; refine print_append_cells (w0 := w1) w1.heap.size rfl (.tmp 26) (.tmp 28) 23 3 (.int .i64 0) 1 8 rfl Try.underlying23 infoInt rfl (by decide) hby (.slice vA L.length vc) L.length _ [.int .i64 ((k : Int) + 1)] rfl rfl rfl (one_single _) HP.out.own HP.out.below HP.out.below.size hl1 ?_; intro v1 wq hown1 hB1 hg1 hat1; have HO1 := Lib.hid hown1; have HB2 := Lib.hid hB1; clear hown1 hB1 hg1 hat1)
        go_roundw
        case rel =>
          refine ⟨k, L ++ [(k : Int) + 1], by omega, by simp; omega, by go_num, ?_, HB2.out, ?_⟩
          · have h := HO1.out
            simpa [nums] using h
          · have h := HLIST.out
            simpa using h
        case measure => simp [intOf]
end Go.Proofs.Ytfeablchjlkjiaa
