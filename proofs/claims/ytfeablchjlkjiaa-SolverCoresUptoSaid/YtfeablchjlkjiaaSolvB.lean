/-
  WALKS over package solver, second part: decide, look.
-/
import Derived.Test.YtfeablchjlkjiaaSolvA
import Derived.Deep.RegionLaw
namespace Go.Proofs.Ytfeablchjlkjiaa
open Go.RowKit Go.Proofs.YtfeablchjlkjiaaW.PrintWords

theorem IsS.drew {w : World} {base g : Nat} {p : Pb} {s : St} {vb : Nat} {tv cv : Value} (hs : IsS base w g p s vb tv cv) : IsS base w.drew g p s vb tv cv :=
  ⟨⟨hs.at_.blk, hs.at_.val⟩, hs.tr, hs.ch, hs.gb, hs.vbb, hs.size⟩

theorem other_row {w w1 : World} {base e size n e' size' n' : Nat} {v v' : Value} {xs xs' : List Value} (h : w.ownsRow base e size v n xs) (h' : w.ownsRow base e' size' v' n' xs') (hne : e ≠ e') (hg : w.grownBy w1 v'.ownBlock) : w1.ownsRow base e size v n xs := by
  refine own_move h (fun i hi => hg.block i (own_lt h i hi) (fun e0 => ?_))
  obtain ⟨c1, e1⟩ := own_typed h i hi
  obtain ⟨c2, e2⟩ := own_typed h' i e0.symm
  rw [e1] at e2
  injection e2 with e2
  injection e2 with _ e3
  exact hne e3

theorem push_done {w w1 : World} {base g : Nat} {p : Pb} {s : St} {vb : Nat} {tv cv cv1 : Value} (hs : IsS base w g p s vb tv cv) (a : Int) (b : Bool)
    (ho : w1.ownsRow base 94 2 cv1 (s.ch.length + 1) (chCells s.ch ++ [.int .i64 a, .bool b])) (hg : w.grownBy w1 cv.ownBlock) :
    IsS base (w1.setCell ⟨g, 6, none⟩ cv1) g p { s with ch := (a, b) :: s.ch } vb tv cv1 ∧ Keep base w (w1.setCell ⟨g, 6, none⟩ cv1) := by
  have hat := hs.at_.grown hs.ch (by decide) (by decide) hg
  have htr := other_row hs.tr hs.ch (by decide) hg
  refine ⟨⟨hat.set6 cv1, ?_, ?_, hs.gb, hs.vbb, ?_⟩, ?_⟩
  · exact own_setCell (p := ⟨g, 6, none⟩) htr (own_ne htr hat.blk (by decide)) cv1
  · exact own_setCell (p := ⟨g, 6, none⟩) ho (own_ne ho hat.blk (by decide)) cv1
  · have := hg.size
    have := hs.size
    simp [World.setCell]
    omega
  · exact ((Keep.refl base w).grown hs.ch (by decide) hg hs.size).set hat.blk (by decide) hs.gb cv1

set_option maxRecDepth 100000 in
set_option maxHeartbeats 800000 in
theorem decide_any {w : World} {base g : Nat} {p : Pb} {s : St} {vb : Nat} {tv cv : Value} (hs : IsS base w g p s vb tv cv) (lit : Int) (hl : LitOf s.vals lit) (hm : s.vals.length ≤ 131071) (ht : s.tr.length ≤ 200000) (hc : s.ch.length ≤ 200000) :
    Calls Try.prog 46 #[.pointer (some ⟨g, 0, none⟩), .int .i64 lit] w fun e w' => e = .returned (.tuple #[]) ∧ IsSome base w' g p { s.put lit with ch := ((s.tr.length : Int), false) :: s.ch } ∧ Keep base w w' := by
  have h5 : w.cell? ⟨g, 5, none⟩ = some tv := hs.at_.cell 5
  have h6 : w.cell? ⟨g, 6, none⟩ = some cv := hs.at_.cell 6
  obtain ⟨tA, tc, htv⟩ := own_slice hs.tr
  obtain ⟨cA, cc, hcv⟩ := own_slice hs.ch
  subst htv hcv
  generalize htl : s.tr.length = tl at *
  generalize hcl : s.ch.length = cl at *
  have hgs : g < w.heap.size := blk_lt hs.at_.blk
  have HTL := Lib.hid htl
  have HCL := Lib.hid hcl
  have HS := Lib.hid hs
  have HM := Lib.hid hm
  have HL := Lib.hid hl
  clear hs htl hcl hm hl
  go_enter Try.func46, Try.ntmps46
  go_wp2_with fail
  go_region_law (refine step_append_cells (w0 := w) base rfl _ _ 63 94 (.agg #[.int .i64 0, .bool false]) 2 16 rfl Try.underlying63 infoChoice rfl (by decide) (by decide) (.slice cA cl cc) cl (chCells s.ch) [.int .i64 tl, .bool false] rfl rfl rfl (one_choice _ _) (by have := HS.out.ch.drew; rw [HCL.out] at this; exact this) (Below.refl _ _).drew HS.out.size (by omega) ?_; intro v1 w1 hown1 hB1 hg1 hat1; obtain ⟨A1, c1, rfl⟩ := own_slice hown1; have hP := push_done HS.out.drew tl false (by rw [HCL.out]; exact hown1) hg1; have S1 := (HS.out.drew.at_).grown HS.out.drew.ch (by decide) (by decide) hg1; have g6 := S1.cell 6; have f6 := S1.free 6; have HP := Lib.hid hP; clear hP S1 hown1 hg1 hat1 hB1)
  all_goals go_wp2_with (go_at_call 42; refine (set_any HP.out.1 lit HL.out HM.out (by rw [HTL.out]; omega)).mono ?_; rintro e w' ⟨rfl, hq1, hq2⟩; have HQ1 := Lib.hid hq1; have HQ2 := Lib.hid hq2; clear hq1 hq2)
  all_goals go_end0
  all_goals exact ⟨rfl, HQ1.out, (Keep.refl base w).drew.trans (HP.out.2.trans HQ2.out)⟩

/-! ### look -/
/-- Behind k literals of a clause. -/
def LookAt (v : List Int) (cl : List Int) (k : Nat) (o kd : Int) (ng : Bool) : Prop := Sv.lookGo v (cl.drop k) o kd ng = Sv.look v cl ∧ (-131071 ≤ o ∧ o ≤ 131071) ∧ (kd = 0 ∨ kd = 2 ∨ kd = 3)

theorem look_step {v cl : List Int} {k : Nat} {o kd : Int} {ng : Bool} (h : LookAt v cl k o kd ng) (hk : k < cl.length) :
    Sv.look v cl = (if 0 < Sv.ofL v (cl.getD k 0) then (1, 0)
    else if Sv.ofL v (cl.getD k 0) < 0 then Sv.lookGo v (cl.drop (k + 1)) o kd ng
    else if o = 0 then Sv.lookGo v (cl.drop (k + 1)) (cl.getD k 0) 3 (ng || decide (cl.getD k 0 < 0))
    else if cl.getD k 0 = o then Sv.lookGo v (cl.drop (k + 1)) o kd (ng || decide (cl.getD k 0 < 0))
    else Sv.lookGo v (cl.drop (k + 1)) o 0 (ng || decide (cl.getD k 0 < 0))) := by
  obtain ⟨h1, _⟩ := h
  rw [List.drop_eq_getElem_cons hk, Sv.lookGo] at h1
  rw [← h1]
  simp [List.getD, hk]

theorem ret_ints {a b c d : Int} (h1 : a = c) (h2 : b = d) : Ending.returned (.tuple #[.int .i64 a, .int .i64 b]) = .returned (.tuple #[.int .i64 c, .int .i64 d]) := by rw [h1, h2]

set_option maxRecDepth 100000 in
set_option maxHeartbeats 1600000 in
theorem look_any {w : World} {base g : Nat} {p : Pb} {s : St} {vb : Nat} {tv cv : Value} (hs : IsS base w g p s vb tv cv) (hm : s.vals.length ≤ 131071) (ht : Tri s.vals)
    (A : Option Addr) (c : Nat) (cl : List Int) (hr : Kd.C (Kd.int .i64) w A cl.length cl) (hlit : ∀ l ∈ cl, LitOf s.vals l) :
    Calls Try.prog 53 #[.pointer (some ⟨g, 0, none⟩), .slice A cl.length c] w fun e w' => e = .returned (.tuple #[.int .i64 (Sv.look s.vals cl).1, .int .i64 (Sv.look s.vals cl).2]) ∧ w' = w := by
  have hlen : cl.length ≤ 9223372036854775807 := hr.2.1
  have HS := Lib.hid hs
  have HT := Lib.hid ht
  have HL := Lib.hid hlit
  have HR := Lib.hid hr
  clear hs ht hlit hr
  go_enter Try.func53, Try.ntmps53
  go_wp2_with fail
  go_loop [6, 7, 8, 14] (fun o kk ng i => ∃ (k : Nat) (oo kv : Int) (nb : Bool), k ≤ cl.length ∧ i = .int .i64 k ∧ o = .int .i64 oo ∧ kk = .int .i64 kv ∧ ng = .bool nb ∧ LookAt s.vals cl k oo kv nb) (fun _ _ _ i => cl.length - (intOf i).toNat)
  case atStart => exact ⟨0, 0, 2, false, Nat.zero_le _, rfl, rfl, rfl, rfl, rfl, by omega, by omega⟩
  case round =>
    obtain ⟨k, oo, kv, nb, hk, rfl, rfl, rfl, rfl, hlk⟩ := hrel
    obtain ⟨ho1, ho2⟩ := hlk.2.1
    by_cases hlt : k < cl.length
    · obtain ⟨ad, rfl, hcell⟩ := Kd.at_int HR.out k (by omega) (by omega)
      rw [Int.toNat_natCast] at hcell
      have hst := look_step hlk hlt
      have hx : LitOf s.vals (cl.getD k 0) := HL.out _ (by rw [List.getD_eq_getElem?_getD, List.getElem?_eq_getElem hlt]; exact List.getElem_mem hlt)
      have hv := of_any HS.out (cl.getD k 0) hx hm HT.out
      have hrd : rd cl k = cl.getD k 0 := by rw [rd, Int.toNat_natCast]
      rw [hrd] at hcell
      clear hrd
      have hvb : -1 ≤ Sv.ofL s.vals (cl.getD k 0) ∧ Sv.ofL s.vals (cl.getD k 0) ≤ 1 := by
        unfold Sv.ofL
        split
        · exact HT.out _
        · have := HT.out (-cl.getD k 0 - 1).toNat; omega
      obtain ⟨hx0, hx1, hx2⟩ := hx
      generalize cl.getD k 0 = x at *
      generalize Sv.ofL s.vals x = y at *
      obtain ⟨hy1, hy2⟩ := hvb
      have HV := Lib.hid hv
      have HLK := Lib.hid hlk.2.2
      clear hv hlk
      by_cases c1 : 0 < y
      · rw [if_pos c1] at hst
        have HST := Lib.hid hst
        clear hst
        go_wp2_with (go_at_call 45; refine HV.out.mono ?_; rintro e w' ⟨rfl, rfl⟩)
        go_ret2
        refine ⟨ret_ints ?_ ?_, rfl⟩ <;> rw [HST.out]
      · rw [if_neg c1] at hst
        by_cases c2 : y < 0
        · rw [if_pos c2] at hst
          have HST := Lib.hid hst
          clear hst
          go_wp2_with (go_at_call 45; refine HV.out.mono ?_; rintro e w' ⟨rfl, rfl⟩)
          go_round
          case rel => exact ⟨k + 1, oo, kv, nb, by omega, by go_num, rfl, rfl, rfl, HST.out.symm, ⟨ho1, ho2⟩, HLK.out⟩
          case measure => simp [intOf]; omega
        · rw [if_neg c2] at hst
          by_cases c3 : oo = 0
          · rw [if_pos c3] at hst
            subst c3
            cases nb <;> by_cases c5 : x < 0
            all_goals
              have HST := Lib.hid hst
              clear hst
              go_wp2_with (go_at_call 45; refine HV.out.mono ?_; rintro e w' ⟨rfl, rfl⟩)
              go_round
              case rel => exact ⟨k + 1, x, 3, _, by omega, by go_num, rfl, rfl, rfl, by rw [HST.out]; simp [*], by omega, by omega⟩
              case measure => simp [intOf]; omega
          · rw [if_neg c3] at hst
            have hb3 : (oo == 0) = false := beq_eq_false_iff_ne.2 c3
            by_cases c4 : x = oo
            · rw [if_pos c4] at hst
              subst c4
              cases nb <;> by_cases c5 : x < 0
              all_goals
                have HST := Lib.hid hst
                clear hst
                go_wp2_with (go_at_call 45; refine HV.out.mono ?_; rintro e w' ⟨rfl, rfl⟩)
                go_round
                case rel => exact ⟨k + 1, x, kv, _, by omega, by go_num, rfl, rfl, rfl, by rw [HST.out]; simp [*], by omega, HLK.out⟩
                case measure => simp [intOf]; omega
            · rw [if_neg c4] at hst
              have hb4 : (x != oo) = true := by simp [c4]
              cases nb <;> by_cases c5 : x < 0
              all_goals
                have HST := Lib.hid hst
                clear hst
                go_wp2_with (go_at_call 45; refine HV.out.mono ?_; rintro e w' ⟨rfl, rfl⟩)
                go_round
                case rel => exact ⟨k + 1, oo, 0, _, by omega, by go_num, rfl, rfl, rfl, by rw [HST.out]; simp [*], by omega, by omega⟩
                case measure => simp [intOf]; omega
    · have hend := hlk.1
      rw [List.drop_eq_nil_of_le (by omega), Sv.lookGo] at hend
      clear hlk
      by_cases c1 : kv = 0
      · subst c1
        cases nb
        all_goals
          have HE := Lib.hid hend
          clear hend
          go_wp2
          go_ret2
          refine ⟨ret_ints ?_ ?_, rfl⟩ <;> rw [← HE.out] <;> simp
      · have hb1 : (kv == 0) = false := beq_eq_false_iff_ne.2 c1
        rw [if_neg c1] at hend
        have HE := Lib.hid hend
        clear hend
        go_wp2
        go_ret2
        refine ⟨ret_ints ?_ ?_, rfl⟩ <;> rw [← HE.out]
end Go.Proofs.Ytfeablchjlkjiaa
