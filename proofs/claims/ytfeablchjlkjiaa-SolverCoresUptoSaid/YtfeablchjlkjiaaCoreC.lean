/-
  WALK of the statements' own choice of clauses by their numbers.
-/
import Derived.Test.YtfeablchjlkjiaaCoreB
namespace Go.Proofs.Ytfeablchjlkjiaa
open Go.RowKit Go.Proofs.YtfeablchjlkjiaaW.PrintWords Go.Proofs.YtfeablchjlkjiaaW.PrintMore

theorem rd_mem_of {l : List Int} {j : Nat} (hj : j < l.length) : rd l (j : Int) ∈ l := by
  rw [rd, Int.toNat_natCast, List.getD_eq_getElem?_getD, List.getElem?_eq_getElem hj, Option.getD_some]
  exact List.getElem_mem _
set_option maxRecDepth 100000 in
set_option maxHeartbeats 1600000 in
theorem chosen_any {w : World} {A B : Option Addr} {c d : Nat} {cl : List (List Int)} {l : List Int} {but : Int} (hcl : KRows.C w A cl.length cl) (hl : (Kd.int .i64).C w B l.length l) (hin : ∀ x ∈ l, 0 ≤ x ∧ x < cl.length) (hsm : l.length ≤ 1048576) :
    Calls Try.prog 30 #[.slice A cl.length c, .slice B l.length d, .int .i64 but] w fun e w' => ∃ v, e = .returned v ∧ (FRows w).R 23 w' w.heap.size (fun _ => True) v (Sv.pick cl (Sv.butL l but l.length)) ∧ Below w.heap.size w w' := by
  have HC := Lib.hid hcl
  have HL := Lib.hid hl
  have HIN := Lib.hid hin
  clear hcl hl hin
  go_enter Try.func30, Try.ntmps30
  go_wp2_with fail
  go_loopw [7, 8] (fun rv iv wr => ∃ (j m : Nat) (B1 : Option Addr) (d1 : Nat), rv = .slice B1 m d1 ∧ Hid (m = (Sv.butL l but j).length) ∧ m ≤ j ∧ j ≤ l.length ∧ iv = .int .i64 j ∧ Hid ((FRows w).R 23 wr w.heap.size (fun _ => True) rv (Sv.pick cl (Sv.butL l but j))) ∧ Hid (Below w.heap.size w wr)) (fun _ iv _ => l.length - (intOf iv).toNat)
  case atStart => exact ⟨0, 0, none, 0, rfl, rfl, Nat.le_refl _, Nat.zero_le _, rfl, Lib.hid (Kd.R_nil _ _ _ _ _), Lib.hid (Below.refl _ _)⟩
  case round =>
    obtain ⟨j, m, B1, d1, rfl, HM, hmj, hj, rfl, HR, HB⟩ := hrel
    by_cases hlt : j < l.length
    · by_cases hbut : (j : Int) = but
      · subst hbut
        have hn : Sv.butL l (j : Int) (j + 1) = Sv.butL l (j : Int) j := by rw [Sv.butL, if_pos rfl]
        have HN := Lib.hid hn
        clear hn
        go_wp2_with fail
        go_roundw
        case rel => exact ⟨j + 1, m, B1, d1, rfl, by rw [HN.out]; exact HM, by omega, by omega, by go_num, by rw [HN.out]; exact HR, HB⟩
        case measure => simp [intOf]; omega
      · have hb2 : ((j : Int) == but) = false := beq_eq_false_iff_ne.2 hbut
        have hb3 : ((j : Int) != but) = true := by rw [bne, hb2]; rfl
        obtain ⟨ad, rfl, hcell0⟩ := Kd.at_int HL.out j (by omega) (by omega)
        rw [Int.toNat_natCast] at hcell0
        have hcell := pw_cell_below HB.out hcell0
        have hin := HIN.out _ (rd_mem_of hlt)
        have hn : Sv.butL l but (j + 1) = Sv.butL l but j ++ [rd l (j : Int)] := by rw [Sv.butL, if_neg hbut, rd, Int.toNat_natCast]
        generalize rd l (j : Int) = x at *
        obtain ⟨h0, h1⟩ := hin
        obtain ⟨q, rfl⟩ := Int.eq_ofNat_of_zero_le h0
        have hq : q < cl.length := by omega
        obtain ⟨ad2, A0, c0, rfl, hcl0, hrl, hrow⟩ := rows_at HC.out q hq
        have hcl1 := pw_cell_below HB.out hcl0
        have hpk : Sv.pick cl (Sv.butL l but (j + 1)) = Sv.pick cl (Sv.butL l but j) ++ [cl.getD q []] := by rw [hn, Sv.pick, List.map_append]; rfl
        have hnl : m + 1 = (Sv.butL l but (j + 1)).length := by rw [hn, List.length_append, ← HM.out]; rfl
        generalize cl.getD q [] = row at *
        have hpl : (Sv.pick cl (Sv.butL l but j)).length = m := by rw [Sv.pick_length, ← HM.out]
        have HPL := Lib.hid hpl
        have HROW := Lib.hid hrow
        have HPK := Lib.hid hpk
        have HNL := Lib.hid hnl
        have hby : 0 < 24 := by decide
        have HLE : Hid (((Sv.pick cl (Sv.butL l but j)).length + 1) * 24 ≤ 140737488355328) := Lib.hid (by rw [hpl]; omega)
        clear hcell0 hcl0 hrow hpk hnl hn h0 h1 hpl
        go_wp2_with (at_builtin; refine Kd.R_append (FRows w) (w0 := w) w.heap.size rfl _ _ 22 23 (.slice none 0 0) 24 rfl Try.underlying22 infoRow rfl (Nat.succ_pos 0) hby (.slice B1 m d1) (Sv.pick cl (Sv.butL l but j)) row [.slice A0 row.length c0] (fun _ => True) (fun k => some k ≠ (Value.slice B1 m d1).ownBlock) rfl rfl ⟨A0, c0, rfl, hrl, HROW.out⟩ (fun k h => ⟨trivial, h⟩) (fun _ _ => trivial) HR.out HB.out HB.out.size HLE.out ?_; intro v2 w6 hR6 hB6 hG6 hA6; obtain ⟨B6, d6, hv6⟩ := own_slice (Kd.R_own hR6).choose_spec; have HR6 := Lib.hid hR6; have HB6 := Lib.hid hB6; have HV6 := Lib.hid hv6; clear hR6 hB6 hG6 hA6 hv6)
        go_roundw
        case rel =>
          refine ⟨j + 1, m + 1, B6, d6, ?_, HNL, by omega, by omega, by go_num, ?_, HB6⟩
          · rw [HV6.out, List.length_append, HPL.out]; rfl
          · rw [HPK.out]; exact HR6
        case measure => simp [intOf]; omega
    · obtain rfl : j = l.length := by omega
      go_wp2_with fail
      go_ret
      exact ⟨_, rfl, HR.out, HB.out⟩
end Go.Proofs.Ytfeablchjlkjiaa
