/-
  THE LAW 'LIKING', WALKED: what is preferred is given up only where it must be.
-/
import Derived.Test.YtfeablchjlkjiaaSlawE
namespace Go.Proofs.Ytfeablchjlkjiaa
open Go.RowKit Go.Proofs.YtfeablchjlkjiaaW.PrintWords

theorem below_drewN (w : World) (n : Nat) : Below w.heap.size w (w.drewN n) := by
  have h := Below.refl w.heap.size w
  exact ⟨h.os, h.tape, h.output, h.size, h.block⟩
theorem Sv.told_length (v : List Int) : (Sv.told v).length = v.length := by simp [Sv.told]
theorem rd_mem {xs : List Int} {k : Nat} (h : k < xs.length) : rd xs k ∈ xs := by
  rw [rd, Int.toNat_natCast]
  simp [List.getD, h]
theorem rd_all {p : Int → Prop} {xs : List Int} (h : ∀ j, j < xs.length → p (rd xs j)) : ∀ x ∈ xs, p x := by
  intro x hx
  obtain ⟨i, hi, rfl⟩ := List.mem_iff_getElem.1 hx
  have := h i hi
  rw [rd, Int.toNat_natCast] at this
  simpa [List.getD, hi] using this

set_option maxRecDepth 100000 in
set_option maxHeartbeats 1600000 in
theorem liking_any {w : World} {n bud : Int} {A B C : Option Addr} {c d f : Nat} {cl : List (List Int)} {pf : List Int} {cand : List Bool} (_ : (Lit.int .i64 n).wf = true) (hcl : RowsArg w A c cl) (hpf : IntsArg w B d pf) (_ : (Lit.int .i64 bud).wf = true) (hcand : Kd.bool.C w C cand.length cand) :
    Calls Try.prog 7 #[.int .i64 n, .slice A cl.length c, .slice B pf.length d, .int .i64 bud, .slice C cand.length f] w fun e w' => e = .returned (.bool true) ∧ Below w.heap.size w w' := by
  have HC := Lib.hid hcl
  have HP := Lib.hid hpf
  have HD := Lib.hid hcand
  clear hcl hpf hcand
  go_enter Try.func7, Try.ntmps7
  go_wp2_with fail
  refine (lives_any _).mono ?_
  rintro e w1 ⟨rfl, hb1⟩
  have HB1 := Lib.hid hb1
  clear hb1
  go_wp2_with fail
  have hc1 := HC.out.below HB1.out
  have hp1 := HP.out.below HB1.out
  refine (problem_any hc1.reads hp1.reads hp1.cap hc1.small.hdr).mono ?_
  rintro e w2 ⟨rfl, hb2⟩
  have HB2 := Lib.hid (HB1.out.trans (hb2.mono HB1.out.size))
  clear hc1 hp1 hb2 HB1
  generalize hpv : problemL n cl pf bud = pv
  have HPV := Lib.hid hpv
  clear hpv
  cases pv with
  | false =>
    go_wp2_with fail
    go_ret
    exact ⟨rfl, HB2.out⟩
  | true =>
    obtain ⟨m, rfl, hprob⟩ := Sv.prob_of HPV.out
    have hm := hprob.small
    have HPROB := Lib.hid hprob
    clear hprob HPV
    go_wp2_with fail
    refine (padded_any (Kd.C_below HD.out HB2.out) hm).mono ?_
    rintro e w3 ⟨pA, pc, rfl, hpad, hb3⟩
    obtain ⟨pA', pc', he, _, hpc⟩ := Kd.R_reads hpad
    have hlen := paddedL_length cand m
    generalize paddedL cand m = vals at *
    cases he
    have HB3 := Lib.hid (HB2.out.trans (hb3.mono HB2.out.size))
    have hc3 := HC.out.below HB3.out
    have hp3 := HP.out.below HB3.out
    have hmod := model_any (c := c) (d := pc) hc3.reads hpc (by rw [hlen]; exact HPROB.out.lits.cl)
    have hsays := fun l (hl : l ∈ pf) => says_any (c := pc) hpc l (by rw [hlen]; exact HPROB.out.lits.pf l hl)
    have HMOD := Lib.hid hmod
    have HSAYS := Lib.hid hsays
    have HC3 := Lib.hid hc3
    have HP3 := Lib.hid hp3
    have hplen : pf.length ≤ 9223372036854775807 := hp3.reads.2.1
    clear hpad hb3 HB2 hpc hc3 hp3 hmod hsays
    clear hlen
    go_wp2_with fail
    refine HMOD.out.mono ?_
    rintro e w' ⟨rfl, rfl⟩
    generalize hmv : modelL cl vals = mv
    have HMV := Lib.hid hmv
    clear hmv HMOD
    cases mv with
    | false =>
      go_wp2_with fail
      go_ret
      exact ⟨rfl, HB3.out⟩
    | true =>
      go_wp2_with fail
      go_loop [12] (fun i => ∃ k : Nat, k ≤ pf.length ∧ i = .int .i64 k ∧ ∀ j, j < k → saysL vals (rd pf j) = true) (fun i => pf.length - (intOf i).toNat)
      case atStart => exact ⟨0, Nat.zero_le _, rfl, fun j hj => by omega⟩
      case round =>
        obtain ⟨k, hk, rfl, hall⟩ := hrel
        by_cases hlt : k < pf.length
        · obtain ⟨ad, rfl, hcell⟩ := Kd.at_int HP3.out.reads k (by omega) (by omega)
          rw [Int.toNat_natCast] at hcell
          have hsay := HSAYS.out _ (rd_mem hlt)
          have HALL := Lib.hid hall
          have HSAY := Lib.hid hsay
          generalize hy : saysL vals (rd pf k) = y at *
          have HY := Lib.hid hy
          clear hall hsay hy
          generalize hlit : rd pf k = lit at *
          have HLIT := Lib.hid hlit
          clear hlit
          go_wp2_with fail
          refine HSAY.out.mono ?_
          rintro e w3 ⟨rfl, rfl⟩
          cases y with
          | false =>
            go_wp2_with fail
            go_ret
            exact ⟨rfl, HB3.out⟩
          | true =>
            go_wp2_with fail
            go_round
            case rel =>
              refine ⟨k + 1, by omega, by go_num, fun j hj => ?_⟩
              by_cases e : j = k
              · rw [e, HLIT.out]; exact HY.out
              · exact HALL.out j (by omega)
            case measure => simp [intOf]; omega
        · obtain rfl : k = pf.length := by omega
          have hlike := rd_all (p := fun x => saysL vals x = true) hall
          have HLIKE := Lib.hid hlike
          clear hall hlike
          go_wp2_with fail
          refine (twin_any HC3.out.reads HC3.out.small).mono ?_
          rintro e w4 ⟨hb, cap, fb, fc, cells, rfl, ht, hb4⟩
          have hp4 := HP3.out.below hb4
          have HP4 := Lib.hid hp4
          have HT := Lib.hid ht
          have HB4 := Lib.hid (HB3.out.trans (hb4.mono HB3.out.size))
          have HS := Lib.hid HC3.out.small
          clear ht hb4 HP3 HC3 hp4
          go_wp2_with fail
          refine (lent_any HP4.out.reads HP4.out.small).mono ?_
          rintro e w5 ⟨b, bc, rfl, hl, hb5⟩
          have hsol := solve_twin (n := vals.length) (bud := bud) HT.out HS.out hb5 hl (Below.refl _ _)
          have HB5 := Lib.hid (HB4.out.trans (hb5.mono HB4.out.size))
          have HSAYV := HSAYS
          rw [HPROB.out.solve] at hsol
          have HSOL := Lib.hid hsol
          have hlk := HPROB.out.liking HMV.out HLIKE.out
          have hsat := fun v s => HPROB.out.sat (v := v) (s := s)
          generalize Sv.start vals.length cl pf bud = R at *
          have HLK := Lib.hid hlk
          have HSAT := Lib.hid hsat
          clear hl hb5 HP4 HT HB4 hsol hlk hsat
          go_wp2_with fail
          refine HSOL.out.mono ?_
          rintro e w6 ⟨vv, rfl, hR, hb6⟩
          have HB6 := Lib.hid (HB5.out.trans (hb6.mono HB5.out.size))
          obtain ⟨vA, vc, hv, hvc, hCv⟩ := Kd.R_reads hR
          subst hv
          cases R with
          | unsat s => exact absurd rfl (HLK.out.1 s)
          | spent s =>
            clear hR hCv hb6 HSOL
            simp only [Sv.Res.found] at *
            go_wp2_with fail
            have hv0 : (w6.alloc (.cells #[.int .i64 3, .slice vA 0 vc, .int .i64 s] 28)).cell? ⟨w6.heap.size, 0, none⟩ = some (.int .i64 3) := cell_blk (heap_alloc_new w6 _) 0
            have HB7 := Lib.hid (HB6.out.alloc HB6.out.size (.cells #[.int .i64 3, .slice vA 0 vc, .int .i64 s] 28))
            have hsz := HB6.out.size
            generalize World.alloc _ _ = w7 at *
            go_wp2_with fail
            go_loop [15] (fun i => i = .int .i64 0) (fun _ => 0)
            case atStart => rfl
            case round =>
              obtain rfl := hrel
              by_cases hlt : 0 < pf.length
              · go_wp2_with fail
                go_ret
                exact ⟨rfl, HB7.out⟩
              · go_wp2_with fail
                go_ret
                exact ⟨rfl, HB7.out⟩
          | sat v s =>
            have hlv := (HSAT.out v s rfl).2
            have hlk := HLK.out.2 v s rfl
            have hCv' : Kd.bool.C w6 vA (Sv.told v).length (Sv.told v) := hCv
            have htl : (Sv.told v).length = vals.length := by rw [Sv.told_length, hlv]
            have hb7 : Below w6.heap.size w6 (w6.alloc (.cells #[.int .i64 1, .slice vA vals.length vc, .int .i64 s] 28)) := (Below.refl _ _).alloc (Nat.le_refl _) _
            have hC7 := Kd.C_below hCv' hb7
            have hsays := fun l (hl : l ∈ pf) n => says_any (w := (w6.alloc (.cells #[.int .i64 1, .slice vA vals.length vc, .int .i64 s] 28)).drewN n) (c := vc) (Kd.C_below hC7 (below_drewN _ n)) l (by rw [htl]; exact HPROB.out.lits.pf l hl)
            rw [htl] at hsays
            have HSAYT := Lib.hid hsays
            have HLK2 := Lib.hid hlk
            have hv0 : (w6.alloc (.cells #[.int .i64 1, .slice vA vals.length vc, .int .i64 s] 28)).cell? ⟨w6.heap.size, 0, none⟩ = some (.int .i64 1) := cell_blk (heap_alloc_new w6 _) 0
            have hv1 : (w6.alloc (.cells #[.int .i64 1, .slice vA vals.length vc, .int .i64 s] 28)).cell? ⟨w6.heap.size, 1, none⟩ = some (.slice vA vals.length vc) := cell_blk (heap_alloc_new w6 _) 1
            have HB7 := Lib.hid (HB6.out.alloc HB6.out.size (.cells #[.int .i64 1, .slice vA vals.length vc, .int .i64 s] 28))
            have hp7 := (HP.out.below HB7.out)
            have HP7 := Lib.hid hp7
            clear hR hCv hb6 HSOL HLK HSAT hsays hlk hCv' hb7 hC7 htl hp7
            simp only [Sv.Res.found] at *
            go_wp2_with fail
            generalize World.alloc _ _ = w7 at *
            go_loopw [15] (fun i wr => ∃ k : Nat, k ≤ pf.length ∧ i = .int .i64 k ∧ ∃ m, wr = w7.drewN m) (fun i _ => pf.length - (intOf i).toNat)
            case atStart => exact ⟨0, Nat.zero_le _, rfl, 0, rfl⟩
            case round =>
              obtain ⟨k, hk, rfl, m, rfl⟩ := hrel
              by_cases hlt : k < pf.length
              · obtain ⟨ad, rfl, hcell⟩ := Kd.at_int HP7.out.reads k (by omega) (by omega)
                rw [Int.toNat_natCast] at hcell
                have hsay := HSAYT.out _ (rd_mem hlt)
                have hy := HLK2.out _ (rd_mem hlt)
                rw [hy] at hsay
                have HSAY := Lib.hid hsay
                clear hsay hy
                generalize rd pf k = lit at *
                go_wp2_with fail
                go_quiet ((go_at_call 25; exact (HSAY.out (m + _)).mono (fun e w'' h => ⟨h.1, _, h.2⟩)))
                go_wp2_with fail
                go_roundw
                case rel => exact ⟨k + 1, by omega, by go_num, m + _, rfl⟩
                case measure => simp [intOf]; omega
              · go_wp2_with fail
                go_ret
                exact ⟨rfl, HB7.out.trans ((below_drewN _ m).mono HB7.out.size)⟩
end Go.Proofs.Ytfeablchjlkjiaa
