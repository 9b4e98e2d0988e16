/-
  THE DOCUMENT's SOLVER, WALKED: what a clause is.
-/
import Derived.Test.YtfeablchjlkjiaaRefA
namespace Go.Proofs.Ytfeablchjlkjiaa
open Go.RowKit Go.Proofs.YtfeablchjlkjiaaW.PrintWords

theorem VRow.drewN {w : World} {A : Option Addr} {v : List Int} (h : VRow w A v) (m : Nat) : VRow (w.drewN m) A v := Kd.C_below h (below_drewN w m)
theorem drop_rd {xs : List Int} {k : Nat} (h : k < xs.length) : xs.drop k = rd xs k :: xs.drop (k + 1) := by
  rw [List.drop_eq_getElem_cons h, rd, Int.toNat_natCast]
  simp [List.getD, h]
theorem enc_is {x : Int} (h : x = 0 ∨ x = 1 ∨ x = -1) : (Sv.enc x = 1 ∧ 0 < x) ∨ (Sv.enc x = 0 ∧ x = 0) ∨ (Sv.enc x = 2 ∧ x < 0) := by
  unfold Sv.enc
  rcases h with rfl | rfl | rfl <;> simp
theorem of_tri {v : List Int} (ht : Sv.Tri3 v) (l : Int) : Sv.ofL v l = 0 ∨ Sv.ofL v l = 1 ∨ Sv.ofL v l = -1 := by
  unfold Sv.ofL
  split
  · exact ht _
  · have := ht (-l - 1).toNat
    omega

set_option maxRecDepth 100000 in
set_option maxHeartbeats 1600000 in
theorem rkind_any {w : World} {A B : Option Addr} {c d : Nat} {v cl : List Int} (hv : VRow w A v) (ht : Sv.Tri3 v) (hr : (Kd.int .i64).C w B cl.length cl) (hl : ∀ l ∈ cl, Sv.LitN v.length l) :
    Calls Try.prog 55 #[.slice A v.length c, .slice B cl.length d] w fun e w' => e = .returned (.tuple #[.int .i64 (Sv.kindK v cl).1, .int .i64 (Sv.kindK v cl).2]) ∧ ∃ m, w' = w.drewN m := by
  have hlen : cl.length ≤ 9223372036854775807 := hr.2.1
  have hof := fun l (hx : l ∈ cl) m => rof_any (c := c) (hv.drewN m) ht l (hl l hx)
  have HOF := Lib.hid hof
  have HR := Lib.hid hr
  have HT := Lib.hid ht
  have HL := Lib.hid hl
  clear hv ht hr hl hof
  go_enter Try.func55, Try.ntmps55
  go_wp2_with fail
  go_loopw [6, 7, 8] (fun o s i wr => ∃ (k m : Nat) (x : Int) (b : Bool), k ≤ cl.length ∧ i = .int .i64 k ∧ o = .int .i64 x ∧ s = .bool b ∧ Hid (Sv.kindGo v (cl.drop k) x b = Sv.kindK v cl) ∧ wr = w.drewN m) (fun _ _ i _ => cl.length - (intOf i).toNat)
  case atStart => exact ⟨0, 0, 0, false, Nat.zero_le _, rfl, rfl, rfl, rfl, rfl⟩
  case round =>
    obtain ⟨k, m, x, b, hk, rfl, rfl, rfl, HK, rfl⟩ := hrel
    by_cases hlt : k < cl.length
    · obtain ⟨ad, rfl, hcell⟩ := Kd.at_int HR.out k (by omega) (by omega)
      rw [Int.toNat_natCast] at hcell
      have hcall := HOF.out _ (rd_mem hlt) m
      have hk2 := HK.out
      rw [drop_rd hlt, Sv.kindGo] at hk2
      have htr := enc_is (of_tri HT.out (rd cl k))
      have hln := (HL.out _ (rd_mem hlt)).1
      generalize Sv.ofL v (rd cl k) = y at *
      generalize rd cl k = lit at *
      have HCALL := Lib.hid hcall
      have HK2 := Lib.hid hk2
      have HTR := Lib.hid htr
      clear hcall hk2 htr HK
      go_wp2_with fail
      refine HCALL.out.mono ?_
      rintro e w' ⟨rfl, rfl⟩
      rcases HTR.out with ⟨e1, e2⟩ | ⟨e1, e2⟩ | ⟨e1, e2⟩
      · have hk3 := HK2.out
        rw [if_pos e2] at hk3
        rw [e1]
        go_wp2_with fail
        go_ret2
        exact ⟨by rw [← hk3]; rfl, m, rfl⟩
      · have hk3 := HK2.out
        rw [if_neg (by omega), if_pos e2] at hk3
        rw [e1]
        have HK3 := Lib.hid hk3
        clear hk3 HK2 HTR HCALL e1 e2
        cases b with
        | true =>
          go_wp2_with fail
          go_roundw
          case rel => exact ⟨k + 1, m, lit, true, by omega, by go_num, rfl, rfl, HK3, rfl⟩
          case measure => simp [intOf]; omega
        | false =>
          by_cases g1 : x = 0
          · subst g1
            go_wp2_with fail
            go_roundw
            case rel => exact ⟨k + 1, m, lit, false, by omega, by go_num, rfl, rfl, Lib.hid (by have := HK3.out; simpa using this), rfl⟩
            case measure => simp [intOf]; omega
          · have g2 : (x == 0) = false := beq_eq_false_iff_ne.2 g1
            by_cases g3 : x = lit
            · subst g3
              go_wp2_with fail
              go_roundw
              case rel => exact ⟨k + 1, m, x, false, by omega, by go_num, rfl, rfl, Lib.hid (by have := HK3.out; simpa using this), rfl⟩
              case measure => simp [intOf]; omega
            · have g4 : (x == lit) = false := beq_eq_false_iff_ne.2 g3
              go_wp2_with fail
              go_roundw
              case rel => exact ⟨k + 1, m, lit, true, by omega, by go_num, rfl, by simp [g2, g4, bne], Lib.hid (by have := HK3.out; simpa [g1, g3] using this), rfl⟩
              case measure => simp [intOf]; omega
      · have hk3 := HK2.out
        rw [if_neg (by omega), if_neg (by omega)] at hk3
        rw [e1]
        have HK3 := Lib.hid hk3
        clear hk3 HK2 HTR HCALL e1 e2
        go_wp2_with fail
        go_roundw
        case rel => exact ⟨k + 1, m, x, b, by omega, by go_num, rfl, rfl, HK3, rfl⟩
        case measure => simp [intOf]; omega
    · have hk3 := HK.out
      rw [List.drop_eq_nil_of_le (by omega), Sv.kindGo] at hk3
      by_cases g1 : x = 0
      · rw [if_pos g1] at hk3
        subst g1
        go_wp2_with fail
        go_ret2
        exact ⟨by rw [← hk3]; rfl, m, rfl⟩
      · rw [if_neg g1] at hk3
        have g2 : (x == 0) = false := beq_eq_false_iff_ne.2 g1
        cases b with
        | true =>
          rw [if_pos rfl] at hk3
          go_wp2_with fail
          go_ret2
          exact ⟨by rw [← hk3]; rfl, m, rfl⟩
        | false =>
          rw [if_neg (by decide)] at hk3
          go_wp2_with fail
          go_ret2
          exact ⟨by rw [← hk3]; rfl, m, rfl⟩
end Go.Proofs.Ytfeablchjlkjiaa
