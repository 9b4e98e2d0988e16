/-
  THE DOCUMENT's SOLVER, WALKED: the decision.
-/
import Derived.Test.YtfeablchjlkjiaaRefD
namespace Go.Proofs.Ytfeablchjlkjiaa
open Go.RowKit Go.Proofs.YtfeablchjlkjiaaW.PrintWords

set_option maxRecDepth 100000 in
set_option maxHeartbeats 1600000 in
theorem rdecision_any {w0 w : World} {g cc : Nat} {V A B : Option Addr} {c d : Nat} {cl : List (List Int)} {pf : List Int} {bud st : Int} {out : Bool} {v : List Int} (hS : RAt w0 w g A B c d cl pf bud st out) (hv : VRow w V v) (ht : Sv.Tri3 v) (hl : Sv.Lits v.length cl pf) :
    Calls Try.prog 50 #[.pointer (some ⟨g, 0, none⟩), .slice V v.length cc] w fun e w' => e = .returned (.int .i64 (Sv.dcK v cl pf)) ∧ ∃ m, w' = w.drewN m := by
  have hlen : cl.length ≤ 9223372036854775807 := hS.hcl.2.1
  have hplen : pf.length ≤ 9223372036854775807 := hS.hpf.2.1
  have hof := fun l (hx : Sv.LitN v.length l) m => rof_any (c := cc) (hv.drewN m) ht l hx
  have hkind := fun (row : List Int) (hx : ∀ l ∈ row, Sv.LitN v.length l) (B0 : Option Addr) (d0 m : Nat) (hr : (Kd.int .i64).C (w.drewN m) B0 row.length row) => rkind_any (c := cc) (d := d0) (hv.drewN m) ht hr hx
  generalize hdq : Sv.dcK v cl pf = dec
  have hdq2 := hdq
  have HS := Lib.hid hS
  have HT := Lib.hid ht
  have HL := Lib.hid hl
  have HOF := Lib.hid hof
  have HKIND := Lib.hid hkind
  have HDQ := Lib.hid hdq
  clear hv ht hl hdq hdq2 hof hkind
  have e0 := hS.cell 0
  have e1 := hS.cell 1
  clear hS
  go_enter Try.func50, Try.ntmps50
  go_wp2_with fail
  go_loopw [5] (fun i wr => ∃ (k m : Nat), k ≤ pf.length ∧ i = .int .i64 k ∧ Hid (Sv.dcK v cl (pf.drop k) = dec) ∧ wr = w.drewN m) (fun i _ => pf.length - (intOf i).toNat)
  case atStart => exact ⟨0, 0, Nat.zero_le _, rfl, HDQ, rfl⟩
  case round =>
    obtain ⟨k, m, hk, rfl, HK, rfl⟩ := hrel
    by_cases hlt : k < pf.length
    · obtain ⟨ad, rfl, hcell⟩ := Kd.at_int HS.out.pfs k (by omega) (by omega)
      rw [Int.toNat_natCast] at hcell
      have hk2 := HK.out
      rw [drop_rd hlt, Sv.dcK, Sv.firstOpen, List.find?_cons] at hk2
      have hcall := HOF.out _ (HL.out.pf _ (rd_mem hlt)) m
      have htr := enc_is (of_tri HT.out (rd pf k))
      generalize Sv.ofL v (rd pf k) = y at *
      generalize rd pf k = lit at *
      have HCALL := Lib.hid hcall
      have HK2 := Lib.hid hk2
      have HTR := Lib.hid htr
      clear hcall hk2 htr HK
      go_wp2_with fail
      refine HCALL.out.mono ?_
      rintro e w' ⟨rfl, rfl⟩
      rcases HTR.out with ⟨h1, h2⟩ | ⟨h1, h2⟩ | ⟨h1, h2⟩
      · rw [h1]
        have hk3 := HK2.out
        rw [show decide (y = 0) = false from decide_eq_false (by omega)] at hk3
        have HK3 := Lib.hid hk3
        clear hk3 HK2 HTR HCALL h1 h2
        go_wp2_with fail
        go_roundw
        case rel => exact ⟨k + 1, m, by omega, by go_num, HK3, rfl⟩
        case measure => simp [intOf]; omega
      · rw [h1]
        have hk3 := HK2.out
        rw [show decide (y = 0) = true from decide_eq_true h2] at hk3
        have HK3 := Lib.hid hk3
        clear hk3 HK2 HTR HCALL h1 h2
        go_wp2_with fail
        go_ret
        exact ⟨by rw [← HK3.out]; rfl, m, rfl⟩
      · rw [h1]
        have hk3 := HK2.out
        rw [show decide (y = 0) = false from decide_eq_false (by omega)] at hk3
        have HK3 := Lib.hid hk3
        clear hk3 HK2 HTR HCALL h1 h2
        go_wp2_with fail
        go_roundw
        case rel => exact ⟨k + 1, m, by omega, by go_num, HK3, rfl⟩
        case measure => simp [intOf]; omega
    · have hk2 := HK.out
      rw [List.drop_eq_nil_of_le (by omega)] at hk2
      have hk3 : Sv.pressGo v cl = dec := hk2
      have HK3 := Lib.hid hk3
      clear hk2 hk3 HK HDQ
      go_wp2_with fail
      go_loopw [6] (fun i wr => ∃ (k m : Nat), k ≤ cl.length ∧ i = .int .i64 k ∧ Hid (Sv.pressGo v (cl.drop k) = dec) ∧ wr = w.drewN m) (fun i _ => cl.length - (intOf i).toNat)
      case atStart => exact ⟨0, m, Nat.zero_le _, rfl, HK3, rfl⟩
      case round =>
        obtain ⟨k2, m2, hk2, rfl, HK, rfl⟩ := hrel
        by_cases hlt2 : k2 < cl.length
        · have hmem := rows_mem hlt2
          have hlits := HL.out.cl _ hmem
          have hd : cl.drop k2 = cl.getD k2 [] :: cl.drop (k2 + 1) := by rw [List.drop_eq_getElem_cons hlt2]; simp [List.getD, hlt2]
          have hkk := HK.out
          rw [hd, Sv.pressGo] at hkk
          obtain ⟨ad, A0, c0, hA, hcell, _, hrow⟩ := rows_at HS.out.cls k2 hlt2
          have hcall := HKIND.out _ hlits A0 c0 m2 (Kd.C_below hrow (below_drewN w m2))
          generalize Sv.kindK v (cl.getD k2 []) = kd at *
          generalize cl.getD k2 [] = row at *
          have hrl : row.length ≤ 9223372036854775807 := hrow.2.1
          have HROW := Lib.hid hrow
          have HCALL := Lib.hid hcall
          have HKK := Lib.hid hkk
          have HLITS := Lib.hid hlits
          clear hrow hcall hkk hlits hd hmem HK
          subst hA
          go_wp2_with fail
          refine HCALL.out.mono ?_
          rintro e w' ⟨rfl, q, rfl⟩
          rw [World.drewN_drewN]
          generalize m2 + q = m3 at *
          clear HCALL
          obtain ⟨k1, k0⟩ := kd
          go_wp2_with fail
          go_loop [9, 10, 11] (fun f s i => ∃ (j : Nat) (x : Int) (y : Bool), j ≤ row.length ∧ i = .int .i64 j ∧ f = .int .i64 x ∧ s = .bool y ∧ Hid (Sv.firstGo v (row.drop j) x y = Sv.firstGo v row 0 false)) (fun _ _ i => row.length - (intOf i).toNat)
          case atStart => exact ⟨0, 0, false, Nat.zero_le _, rfl, rfl, rfl, rfl⟩
          case round =>
            obtain ⟨j, x, y, hj, rfl, rfl, rfl, HJ⟩ := hrel
            by_cases hlt3 : j < row.length
            · obtain ⟨ad2, rfl, hcell2⟩ := Kd.at_int HROW.out j (by omega) (by omega)
              rw [Int.toNat_natCast] at hcell2
              have hj2 := HJ.out
              rw [drop_rd hlt3, Sv.firstGo] at hj2
              have hcall := HOF.out _ (HLITS.out _ (rd_mem hlt3)) m3
              have htr := enc_is (of_tri HT.out (rd row j))
              generalize Sv.ofL v (rd row j) = z at *
              generalize rd row j = lit at *
              have HCALL := Lib.hid hcall
              have HJ2 := Lib.hid hj2
              have HTR := Lib.hid htr
              clear hcall hj2 htr HJ
              go_wp2_with fail
              refine HCALL.out.mono ?_
              rintro e w' ⟨rfl, hw'⟩
              have skip : z ≠ 0 → Sv.firstGo v (row.drop (j + 1)) x y = Sv.firstGo v row 0 false := fun hz => by have := HJ2.out; rwa [if_neg hz] at this
              have take : z = 0 → Sv.firstGo v (row.drop (j + 1)) (if x = 0 then lit else x) (y || decide (lit < 0)) = Sv.firstGo v row 0 false := fun hz => by have := HJ2.out; rwa [if_pos hz] at this
              have SK := Lib.hid skip
              have TK := Lib.hid take
              clear skip take HJ2 HCALL
              subst hw'
              rcases HTR.out with ⟨h1, h2⟩ | ⟨h1, h2⟩ | ⟨h1, h2⟩
              · rw [h1]
                have HK3 := Lib.hid (SK.out (by omega))
                clear HTR h1 SK TK
                go_wp2_with fail
                go_round
                case rel => exact ⟨j + 1, x, y, by omega, by go_num, rfl, rfl, HK3⟩
                case measure => simp [intOf]; omega
              · rw [h1]
                have hk3 := TK.out h2
                clear HTR h1 SK TK
                by_cases gx : x = 0
                · rw [if_pos gx] at hk3
                  subst gx
                  have HK3 := Lib.hid hk3
                  clear hk3
                  cases y with
                  | true =>
                    go_wp2_with fail
                    go_round
                    case rel => exact ⟨j + 1, lit, true, by omega, by go_num, rfl, rfl, Lib.hid (by have := HK3.out; simpa using this)⟩
                    case measure => simp [intOf]; omega
                  | false =>
                    go_wp2_with fail
                    go_round
                    case rel => exact ⟨j + 1, lit, decide (lit < 0), by omega, by go_num, rfl, rfl, Lib.hid (by have := HK3.out; simpa using this)⟩
                    case measure => simp [intOf]; omega
                · rw [if_neg gx] at hk3
                  have gx2 : (x == 0) = false := beq_eq_false_iff_ne.2 gx
                  have HK3 := Lib.hid hk3
                  clear hk3
                  cases y with
                  | true =>
                    go_wp2_with fail
                    go_round
                    case rel => exact ⟨j + 1, x, true, by omega, by go_num, rfl, rfl, Lib.hid (by have := HK3.out; simpa using this)⟩
                    case measure => simp [intOf]; omega
                  | false =>
                    go_wp2_with fail
                    go_round
                    case rel => exact ⟨j + 1, x, decide (lit < 0), by omega, by go_num, rfl, rfl, Lib.hid (by have := HK3.out; simpa using this)⟩
                    case measure => simp [intOf]; omega
              · rw [h1]
                have HK3 := Lib.hid (SK.out (by omega))
                clear HTR h1 SK TK
                go_wp2_with fail
                go_round
                case rel => exact ⟨j + 1, x, y, by omega, by go_num, rfl, rfl, HK3⟩
                case measure => simp [intOf]; omega
            · have hj2 := HJ.out
              rw [List.drop_eq_nil_of_le (by omega), Sv.firstGo] at hj2
              have hkk := HKK.out
              rw [← hj2] at hkk
              dsimp only at hkk
              have HKK2 := Lib.hid hkk
              clear hj2 hkk HKK HJ
              by_cases q1 : k1 = 1
              · have hk3 := HKK2.out
                rw [if_neg (fun e => e.1 q1)] at hk3
                subst q1
                have HK3 := Lib.hid hk3
                clear hk3
                go_wp2_with fail
                go_roundw
                case rel => exact ⟨k2 + 1, m3, by omega, by go_num, HK3, rfl⟩
                case measure => simp [intOf]; omega
              · have q2 : (k1 == 1) = false := beq_eq_false_iff_ne.2 q1
                cases y with
                | true =>
                  have hk3 := HKK2.out
                  rw [if_neg (fun e => Bool.noConfusion e.2.1)] at hk3
                  have HK3 := Lib.hid hk3
                  clear hk3
                  go_wp2_with fail
                  go_roundw
                  case rel => exact ⟨k2 + 1, m3, by omega, by go_num, HK3, rfl⟩
                  case measure => simp [intOf]; omega
                | false =>
                  by_cases q3 : x = 0
                  · have hk3 := HKK2.out
                    rw [if_neg (fun e => e.2.2 q3)] at hk3
                    subst q3
                    have HK3 := Lib.hid hk3
                    clear hk3
                    go_wp2_with fail
                    go_roundw
                    case rel => exact ⟨k2 + 1, m3, by omega, by go_num, HK3, rfl⟩
                    case measure => simp [intOf]; omega
                  · have hk3 := HKK2.out
                    rw [if_pos ⟨q1, rfl, q3⟩] at hk3
                    have q4 : (x == 0) = false := beq_eq_false_iff_ne.2 q3
                    have q5 : (x != 0) = true := by rw [bne, q4]; rfl
                    have HK3 := Lib.hid hk3
                    clear hk3
                    go_wp2_with fail
                    go_ret
                    exact ⟨by rw [← HK3.out]; rfl, m3, rfl⟩
        · have hkk := HK.out
          rw [List.drop_eq_nil_of_le (by omega), Sv.pressGo] at hkk
          have HKK := Lib.hid hkk
          clear hkk HK
          go_wp2_with fail
          go_ret
          exact ⟨by rw [← HKK.out]; rfl, m2, rfl⟩
end Go.Proofs.Ytfeablchjlkjiaa
