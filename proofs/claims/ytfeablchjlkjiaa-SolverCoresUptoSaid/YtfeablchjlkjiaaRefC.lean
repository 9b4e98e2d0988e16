/-
  THE DOCUMENT's SOLVER, WALKED: what is refused.
-/
import Derived.Test.YtfeablchjlkjiaaRefB
namespace Go.Proofs.Ytfeablchjlkjiaa
open Go.RowKit Go.Proofs.YtfeablchjlkjiaaW.PrintWords

theorem rliterals_any {w : World} {n : Int} (hn0 : 0 ≤ n) (hn1 : n ≤ 131071) {B : Option Addr} {d : Nat} {cl : List Int} (hr : (Kd.int .i64).C w B cl.length cl) :
    Calls Try.prog 47 #[.int .i64 n, .slice B cl.length d] w fun e w' => e = .returned (.bool (cl.all (Sv.rightL n))) ∧ w' = w := by
  have hlen : cl.length ≤ 9223372036854775807 := hr.2.1
  have HR := Lib.hid hr
  clear hr
  go_enter Try.func47, Try.ntmps47
  go_wp2_with fail
  go_loop [5] (fun i => ∃ (k : Nat), k ≤ cl.length ∧ i = .int .i64 k ∧ Hid ((cl.drop k).all (Sv.rightL n) = cl.all (Sv.rightL n))) (fun i => cl.length - (intOf i).toNat)
  case atStart => exact ⟨0, Nat.zero_le _, rfl, rfl⟩
  case round =>
    obtain ⟨k, hk, rfl, HK⟩ := hrel
    by_cases hlt : k < cl.length
    · obtain ⟨ad, rfl, hcell⟩ := Kd.at_int HR.out k (by omega) (by omega)
      rw [Int.toNat_natCast] at hcell
      have hk2 := HK.out
      rw [drop_rd hlt, List.all_cons] at hk2
      generalize rd cl k = lit at *
      have hcall := rright_any w n lit hn0 hn1
      generalize Sv.rightL n lit = b at *
      have HCALL := Lib.hid hcall
      have HK2 := Lib.hid hk2
      clear hcall hk2 HK
      go_wp2_with fail
      refine HCALL.out.mono ?_
      rintro e w' ⟨rfl, rfl⟩
      cases b with
      | true =>
        go_wp2_with fail
        go_round
        case rel => exact ⟨k + 1, by omega, by go_num, Lib.hid (by have := HK2.out; simpa using this)⟩
        case measure => simp [intOf]; omega
      | false =>
        go_wp2_with fail
        go_ret
        exact ⟨by rw [← HK2.out]; rfl, rfl⟩
    · have hk2 := HK.out
      rw [List.drop_eq_nil_of_le (by omega)] at hk2
      go_wp2_with fail
      go_ret
      exact ⟨by rw [← hk2]; rfl, rfl⟩

set_option maxHeartbeats 1600000 in
theorem rrefused_any {w : World} {n bud : Int} {A B : Option Addr} {c d : Nat} {cl : List (List Int)} {pf : List Int} (hcl : KRows.C w A cl.length cl) (hpf : (Kd.int .i64).C w B pf.length pf) :
    Calls Try.prog 33 #[.int .i64 n, .slice A cl.length c, .slice B pf.length d, .int .i64 bud] w fun e w' => e = .returned (.int .i64 (Sv.check n cl pf bud)) ∧ w' = w := by
  have hlen : cl.length ≤ 9223372036854775807 := hcl.2.1
  by_cases c1 : n < 0
  · rw [show Sv.check n cl pf bud = 1 from if_pos (.inl c1)]
    clear hcl hpf
    go_enter Try.func33, Try.ntmps33
    go_wp2_with fail
    go_ret
    exact ⟨rfl, rfl⟩
  by_cases c2 : 131071 < n
  · rw [show Sv.check n cl pf bud = 1 from if_pos (.inr (.inl c2))]
    clear hcl hpf
    go_enter Try.func33, Try.ntmps33
    go_wp2_with fail
    go_ret
    exact ⟨rfl, rfl⟩
  by_cases c3 : bud < 0
  · rw [show Sv.check n cl pf bud = 1 from if_pos (.inr (.inr (.inl c3)))]
    clear hcl hpf
    go_enter Try.func33, Try.ntmps33
    go_wp2_with fail
    go_ret
    exact ⟨rfl, rfl⟩
  by_cases c4 : 1152921504606846976 < bud
  · rw [show Sv.check n cl pf bud = 1 from if_pos (.inr (.inr (.inr c4)))]
    clear hcl hpf
    go_enter Try.func33, Try.ntmps33
    go_wp2_with fail
    go_ret
    exact ⟨rfl, rfl⟩
  have hck : Sv.check n cl pf bud = if (cl.all (fun c => c.all (Sv.rightL n)) && pf.all (Sv.rightL n)) = true then 0 else 90 := by
    rw [Sv.check, if_neg (by omega), Sv.litsOK, List.all_append, List.all_cons, List.all_nil, Bool.and_true]
  generalize hcv : Sv.check n cl pf bud = cv at *
  have HCK := Lib.hid hck
  clear hck hcv
  have hlp := rliterals_any (d := d) (by omega) (by omega : n ≤ 131071) hpf
  have HC := Lib.hid hcl
  have HLP := Lib.hid hlp
  clear hcl hpf hlp
  go_enter Try.func33, Try.ntmps33
  go_wp2_with fail
  go_loop [9] (fun i => ∃ (k : Nat), k ≤ cl.length ∧ i = .int .i64 k ∧ Hid ((cl.drop k).all (fun c => c.all (Sv.rightL n)) = cl.all (fun c => c.all (Sv.rightL n)))) (fun i => cl.length - (intOf i).toNat)
  case atStart => exact ⟨0, Nat.zero_le _, rfl, rfl⟩
  case round =>
    obtain ⟨k, hk, rfl, HK⟩ := hrel
    by_cases hlt : k < cl.length
    · obtain ⟨ad, A0, c0, rfl, hcell, _, hrow⟩ := rows_at HC.out k hlt
      have hd : cl.drop k = cl.getD k [] :: cl.drop (k + 1) := by rw [List.drop_eq_getElem_cons hlt]; simp [List.getD, hlt]
      have hk2 := HK.out
      rw [hd, List.all_cons] at hk2
      generalize cl.getD k [] = row at *
      have hcall := rliterals_any (d := c0) (by omega) (by omega : n ≤ 131071) hrow
      generalize row.all (Sv.rightL n) = b at *
      have HCALL := Lib.hid hcall
      have HK2 := Lib.hid hk2
      clear hcall hk2 HK hd hrow
      go_wp2_with fail
      refine HCALL.out.mono ?_
      rintro e w' ⟨rfl, rfl⟩
      cases b with
      | true =>
        go_wp2_with fail
        go_round
        case rel => exact ⟨k + 1, by omega, by go_num, Lib.hid (by have := HK2.out; simpa using this)⟩
        case measure => simp [intOf]; omega
      | false =>
        go_wp2_with fail
        go_ret
        exact ⟨by rw [HCK.out, ← HK2.out]; rfl, rfl⟩
    · have hk2 := HK.out
      rw [List.drop_eq_nil_of_le (by omega)] at hk2
      have hck := HCK.out
      rw [← hk2] at hck
      generalize pf.all (Sv.rightL n) = b at *
      have HCK2 := Lib.hid hck
      clear hk2 HK hck HCK
      go_wp2_with fail
      refine HLP.out.mono ?_
      rintro e w' ⟨rfl, rfl⟩
      cases b with
      | true =>
        go_wp2_with fail
        go_ret
        exact ⟨by rw [HCK2.out]; rfl, rfl⟩
      | false =>
        go_wp2_with fail
        go_ret
        exact ⟨by rw [HCK2.out]; rfl, rfl⟩
end Go.Proofs.Ytfeablchjlkjiaa
