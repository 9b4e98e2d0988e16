/-
  WALKS over package solver, fifth part: the closure of run, slices.IndexFunc with it.
-/
import Derived.Test.YtfeablchjlkjiaaSolvD
namespace Go.Proofs.Ytfeablchjlkjiaa
open Go.RowKit Go.Proofs.YtfeablchjlkjiaaW.PrintWords Go.Proofs.YtfeablchjlkjiaaW.PrintMore

theorem run1_any {w : World} {base g : Nat} {p : Pb} {s : St} {vb : Nat} {tv cv : Value} (hs : IsS base w g p s vb tv cv) (lit : Int) (hl : LitOf s.vals lit) (hm : s.vals.length ≤ 131071) (ht : Tri s.vals)
    (bx : Nat) (hx : w.cell? ⟨bx, 0, none⟩ = some (.pointer (some ⟨g, 0, none⟩))) :
    Calls Try.prog 44 #[.int .i64 lit, .pointer (some ⟨bx, 0, none⟩)] w fun e w' => e = .returned (.bool (decide (Sv.ofL s.vals lit = 0))) ∧ w' = w := by
  have HV := Lib.hid (of_any hs lit hl hm ht)
  have HM := Lib.hid hm
  clear hs hl ht hm
  generalize Sv.ofL s.vals lit = y at *
  go_enter Try.func44, Try.ntmps44
  by_cases h : y = 0
  · subst h
    go_wp2_with (go_at_call 45; refine HV.out.mono ?_; rintro e w' ⟨rfl, rfl⟩)
    go_ret
    exact ⟨by simp, rfl⟩
  · have hb : (y == 0) = false := beq_eq_false_iff_ne.2 h
    go_wp2_with (go_at_call 45; refine HV.out.mono ?_; rintro e w' ⟨rfl, rfl⟩)
    go_ret
    exact ⟨by simp [h], rfl⟩

/-- What IndexFunc tells: -1 and none is open, or the first open one's place. -/
def IdxPost (v pf : List Int) (w : World) (e : Ending) (w' : World) : Prop :=
  ∃ r : Int, e = .returned (.int .i64 r) ∧ w' = w ∧ ((r = -1 ∧ Sv.firstOpen v pf = none) ∨ ∃ k : Nat, r = k ∧ k < pf.length ∧ Sv.firstOpen v pf = some (pf.getD k 0))

set_option maxRecDepth 100000 in
set_option maxHeartbeats 800000 in
theorem indexFunc_any {w : World} {base g : Nat} {p : Pb} {s : St} {vb : Nat} {tv cv : Value} (hs : IsS base w g p s vb tv cv) (hm : s.vals.length ≤ 131071) (ht : Tri s.vals)
    (bx : Nat) (hx : w.cell? ⟨bx, 0, none⟩ = some (.pointer (some ⟨g, 0, none⟩)))
    (A : Option Addr) (c : Nat) (pf : List Int) (hr : Kd.C (Kd.int .i64) w A pf.length pf) (hlit : ∀ l ∈ pf, LitOf s.vals l) :
    Calls Try.prog 43 #[.slice A pf.length c, .func (.func 44) #[] #[.pointer (some ⟨bx, 0, none⟩)]] w (IdxPost s.vals pf w) := by
  have hlen : pf.length ≤ 9223372036854775807 := hr.2.1
  have HS := Lib.hid hs
  have HT := Lib.hid ht
  have HL := Lib.hid hlit
  have HR := Lib.hid hr
  have HX := Lib.hid hx
  have HM := Lib.hid hm
  clear hs ht hlit hr hx hm
  go_enter Try.func43, Try.ntmps43
  go_wp2_with fail
  go_loop [8] (fun i => ∃ k : Nat, k ≤ pf.length ∧ i = .int .i64 k ∧ Hid (Sv.firstOpen s.vals (pf.drop k) = Sv.firstOpen s.vals pf)) (fun i => pf.length - (intOf i).toNat)
  case atStart => exact ⟨0, Nat.zero_le _, rfl, rfl⟩
  case round =>
    obtain ⟨k, hk, rfl, HF⟩ := hrel
    by_cases hlt : k < pf.length
    · obtain ⟨ad, rfl, hcell⟩ := Kd.at_int HR.out k (by omega) (by omega)
      rw [Int.toNat_natCast] at hcell
      have hrd : rd pf k = pf.getD k 0 := by rw [rd, Int.toNat_natCast]
      rw [hrd] at hcell
      have hx : LitOf s.vals (pf.getD k 0) := HL.out _ (by rw [List.getD_eq_getElem?_getD, List.getElem?_eq_getElem hlt]; exact List.getElem_mem hlt)
      have HV := Lib.hid (run1_any HS.out (pf.getD k 0) hx HM.out HT.out bx HX.out)
      have hd : pf.drop k = pf.getD k 0 :: pf.drop (k + 1) := by rw [List.drop_eq_getElem_cons hlt]; simp [List.getD, hlt]
      have hF := HF.out
      rw [hd, Sv.firstOpen, List.find?_cons] at hF
      have HG := Lib.hid (rfl : pf.getD k 0 = pf.getD k 0)
      clear hd hrd hx
      by_cases h : Sv.ofL s.vals (pf.getD k 0) = 0
      · simp only [h, decide_true] at hF
        have hb : decide (Sv.ofL s.vals (pf.getD k 0) = 0) = true := decide_eq_true h
        rw [hb] at HV
        have HF2 := Lib.hid hF
        clear hF hb h HF HG
        generalize hxx : pf.getD k 0 = x at *
        have HXX := Lib.hid hxx
        clear hxx
        go_wp2_with (go_at_call 44; refine HV.out.mono ?_; rintro e w' ⟨rfl, rfl⟩)
        go_ret
        exact ⟨k, rfl, rfl, .inr ⟨k, rfl, hlt, by rw [HXX.out]; exact HF2.out.symm⟩⟩
      · have hb : decide (Sv.ofL s.vals (pf.getD k 0) = 0) = false := decide_eq_false h
        rw [hb] at HV
        simp only [hb] at hF
        have HF2 := Lib.hid hF
        clear hF hb h HF HG
        generalize hxx : pf.getD k 0 = x at *
        clear hxx
        go_wp2_with (go_at_call 44; refine HV.out.mono ?_; rintro e w' ⟨rfl, rfl⟩)
        go_round
        case rel => exact ⟨k + 1, by omega, by go_num, HF2.out⟩
        case measure => simp [intOf]; omega
    · have hF := HF.out
      rw [List.drop_eq_nil_of_le (by omega), Sv.firstOpen, List.find?_nil] at hF
      have HF2 := Lib.hid hF
      clear hF HF
      go_wp2_with fail
      go_ret
      exact ⟨-1, rfl, rfl, .inl ⟨rfl, HF2.out.symm⟩⟩
end Go.Proofs.Ytfeablchjlkjiaa
