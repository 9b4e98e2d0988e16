/-
  THE DOCUMENT's SOLVER, WALKED: a look at the clauses, and the decision.
-/
import Derived.Test.YtfeablchjlkjiaaRefC
namespace Go.Proofs.Ytfeablchjlkjiaa
open Go.RowKit Go.Proofs.YtfeablchjlkjiaaW.PrintWords

/-- The document's search in its block; what was handed in reads at w0. -/
structure RAt (w0 w : World) (g : Nat) (A B : Option Addr) (c d : Nat) (cl : List (List Int)) (pf : List Int) (bud st : Int) (out : Bool) : Prop where
  blk : w.heap[g]? = some (.cells #[.slice A cl.length c, .slice B pf.length d, .int .i64 bud, .int .i64 st, .bool out] 71 (0, 0))
  base : w0.heap.size ≤ g
  below : Below w0.heap.size w0 w
  hcl : KRows.C w0 A cl.length cl
  hpf : (Kd.int .i64).C w0 B pf.length pf
section
variable {w0 w : World} {g : Nat} {A B : Option Addr} {c d : Nat} {cl : List (List Int)} {pf : List Int} {bud st : Int} {out : Bool}
theorem RAt.cell (h : RAt w0 w g A B c d cl pf bud st out) (i : Nat) : w.cell? ⟨g, i, none⟩ = #[.slice A cl.length c, .slice B pf.length d, .int .i64 bud, .int .i64 st, Value.bool out][i]? := cell_blk h.blk i
theorem RAt.free (h : RAt w0 w g A B c d cl pf bud st out) (i : Nat) : w.frozen? ⟨g, i, none⟩ = false := blk_frozen h.blk i
theorem RAt.set3 (h : RAt w0 w g A B c d cl pf bud st out) (s : Int) : RAt w0 (w.setCell ⟨g, 3, none⟩ (.int .i64 s)) g A B c d cl pf bud s out := ⟨by simpa using blk_set h.blk 3 (.int .i64 s), h.base, h.below.setCell h.base _, h.hcl, h.hpf⟩
theorem RAt.set4 (h : RAt w0 w g A B c d cl pf bud st out) (s : Bool) : RAt w0 (w.setCell ⟨g, 4, none⟩ (.bool s)) g A B c d cl pf bud st s := ⟨by simpa using blk_set h.blk 4 (.bool s), h.base, h.below.setCell h.base _, h.hcl, h.hpf⟩
theorem RAt.drewN (h : RAt w0 w g A B c d cl pf bud st out) (m : Nat) : RAt w0 (w.drewN m) g A B c d cl pf bud st out := ⟨h.blk, h.base, h.below.trans ((below_drewN w m).mono h.below.size), h.hcl, h.hpf⟩
theorem RAt.drew (h : RAt w0 w g A B c d cl pf bud st out) : RAt w0 w.drew g A B c d cl pf bud st out := ⟨h.blk, h.base, h.below.drew, h.hcl, h.hpf⟩
theorem RAt.grown (h : RAt w0 w g A B c d cl pf bud st out) {w1 : World} (hb : Below w.heap.size w w1) : RAt w0 w1 g A B c d cl pf bud st out := ⟨(hb.block _ (blk_lt h.blk)).trans h.blk, h.base, h.below.trans (hb.mono h.below.size), h.hcl, h.hpf⟩
theorem RAt.cls (h : RAt w0 w g A B c d cl pf bud st out) : KRows.C w A cl.length cl := Kd.C_below h.hcl h.below
theorem RAt.pfs (h : RAt w0 w g A B c d cl pf bud st out) : (Kd.int .i64).C w B pf.length pf := Kd.C_below h.hpf h.below
end
theorem kb_drewN {w w1 : World} {g : Nat} (h : KeepBut w w1 g none) (m : Nat) : KeepBut w (w1.drewN m) g none := ⟨h.1, h.2⟩
theorem VOwn.keep {w w1 : World} {base b c g : Nat} {v : List Int} (h : VOwn w base b c v) (hk : KeepBut w w1 g none) (hb : b ≠ g) : VOwn w1 base b c v := KeepBut.own hk h (by intro e; exact hb (by simpa [Value.ownBlock] using e)) (.inr (by simp [Value.ownBlock]))

set_option maxRecDepth 100000 in
set_option maxHeartbeats 1600000 in
theorem rscan_any {w0 w : World} {g b cc : Nat} {A B : Option Addr} {c d : Nat} {cl : List (List Int)} {pf : List Int} {bud st : Int} {v : List Int} (hS : RAt w0 w g A B c d cl pf bud st false) (hv : VOwn w w0.heap.size b cc v) (hbg : b ≠ g) (ht : Sv.Tri3 v) (hl : Sv.Lits v.length cl pf) (h0 : 0 ≤ st) (h1 : st ≤ bud) (h2 : bud ≤ 1152921504606846976) :
    Calls Try.prog 48 #[.pointer (some ⟨g, 0, none⟩), .slice (some ⟨b, 0, none⟩) v.length cc] w fun e w' => e = .returned (.tuple #[.bool (Sv.rscanGo v bud cl st 0).fine, .int .i64 (Sv.rscanGo v bud cl st 0).unit]) ∧ RAt w0 w' g A B c d cl pf bud (Sv.rscanGo v bud cl st 0).steps (Sv.rscanGo v bud cl st 0).out ∧ KeepBut w w' g none := by
  have hlen : cl.length ≤ 9223372036854775807 := hS.hcl.2.1
  have HS := Lib.hid hS
  have HV := Lib.hid hv
  have HT := Lib.hid ht
  have HL := Lib.hid hl
  generalize hrq : Sv.rscanGo v bud cl st 0 = r
  have HRQ := Lib.hid hrq
  clear hS hv ht hl hrq
  go_enter Try.func48, Try.ntmps48
  go_wp2_with fail
  go_loopw [6, 7] (fun un i wr => ∃ (k : Nat) (u s : Int), k ≤ cl.length ∧ i = .int .i64 k ∧ un = .int .i64 u ∧ 0 ≤ s ∧ s ≤ bud ∧ Hid (Sv.rscanGo v bud (cl.drop k) s u = r) ∧ Hid (RAt w0 wr g A B c d cl pf bud s false) ∧ Hid (KeepBut w wr g none)) (fun _ i _ => cl.length - (intOf i).toNat)
  case atStart => exact ⟨0, 0, st, Nat.zero_le _, rfl, rfl, h0, h1, HRQ, HS, Lib.hid (KeepBut.refl _ _ _)⟩
  case round =>
    obtain ⟨k, u, s, hk, rfl, rfl, hs0, hs1, HK, HR, HKB⟩ := hrel
    have e0 := HR.out.cell 0
    have e2 := HR.out.cell 2
    have e3 := HR.out.cell 3
    have e4 := HR.out.cell 4
    have fr := HR.out.free
    by_cases hlt : k < cl.length
    · have hd : cl.drop k = cl.getD k [] :: cl.drop (k + 1) := by rw [List.drop_eq_getElem_cons hlt]; simp [List.getD, hlt]
      have hk2 := HK.out
      rw [hd, Sv.rscanGo] at hk2
      by_cases g1 : s = bud
      · rw [if_pos g1] at hk2
        have HK2 := Lib.hid hk2
        subst g1
        clear hk2 HK hd
        go_wp2_with fail
        go_quiet (fail)
        go_wp2_with fail
        go_ret2
        refine ⟨by rw [← HK2.out]; rfl, by rw [← HK2.out]; exact (HR.out.drewN nq).set4 true, (kb_drewN HKB.out nq).set_ 4 _⟩
      · rw [if_neg g1] at hk2
        have g2 : (s == bud) = false := beq_eq_false_iff_ne.2 g1
        have hmem := rows_mem hlt
        have hlits := HL.out.cl _ hmem
        have HK2 := Lib.hid hk2
        clear hk2 HK hd hmem
        go_wp2_with fail
        go_quiet (fail)
        have hS1 := (HR.out.drewN nq).set3 (s + 1)
        have hKB1 := (kb_drewN HKB.out nq).set_ 3 (.int .i64 (s + 1))
        obtain ⟨ad, A0, c0, hA, hcell, _, hrow⟩ := rows_at hS1.cls k hlt
        have hv1 := HV.out.keep hKB1 hbg
        have hcall := rkind_any (c := cc) (d := c0) hv1.row HT.out hrow hlits
        have f0 := hS1.cell 0
        have f2 := hS1.cell 2
        have f3 := hS1.cell 3
        generalize Sv.kindK v (cl.getD k []) = kd at *
        generalize cl.getD k [] = row at *
        have HS1 := Lib.hid hS1
        have HKB1 := Lib.hid hKB1
        have HCALL := Lib.hid hcall
        clear hS1 hKB1 hv1 hrow hcall hlits HR HKB
        have hw1 : wrap64 (s + 1) = s + 1 := by unfold wrap64; omega
        go_wp2_with fail
        refine HCALL.out.mono ?_
        rintro e w2 ⟨rfl, m, rfl⟩
        obtain ⟨k1, k2⟩ := kd
        have hS2 := HS1.out.drewN m
        have hKB2 := kb_drewN HKB1.out m
        clear hcell f0 f2 f3 HS1 HKB1 HCALL e0 e2 e3 e4 fr
        generalize World.drewN _ _ = w3 at *
        have HS2 := Lib.hid hS2
        have HKB2 := Lib.hid hKB2
        have hk3 := HK2.out
        clear hS2 hKB2 HK2
        dsimp only at hk3
        by_cases g3 : k1 = 2
        · rw [if_pos g3] at hk3
          subst g3
          have HK3 := Lib.hid hk3
          clear hk3
          go_wp2_with fail
          go_ret2
          exact ⟨by rw [← HK3.out]; rfl, by rw [← HK3.out]; exact HS2.out, HKB2.out⟩
        · rw [if_neg g3] at hk3
          have g4 : (k1 == 2) = false := beq_eq_false_iff_ne.2 g3
          by_cases g5 : k1 = 3
          · by_cases g6 : u = 0
            · rw [if_pos ⟨g5, g6⟩] at hk3
              subst g5 g6
              have HK3 := Lib.hid hk3
              clear hk3
              go_wp2_with fail
              go_roundw
              case rel => exact ⟨k + 1, k2, s + 1, by omega, by go_num, rfl, by omega, by omega, HK3, HS2, HKB2⟩
              case measure => simp [intOf]; omega
            · rw [if_neg (fun e => g6 e.2)] at hk3
              have g7 : (u == 0) = false := beq_eq_false_iff_ne.2 g6
              subst g5
              have HK3 := Lib.hid hk3
              clear hk3
              go_wp2_with fail
              go_roundw
              case rel => exact ⟨k + 1, u, s + 1, by omega, by go_num, rfl, by omega, by omega, HK3, HS2, HKB2⟩
              case measure => simp [intOf]; omega
          · rw [if_neg (fun e => g5 e.1)] at hk3
            have g7 : (k1 == 3) = false := beq_eq_false_iff_ne.2 g5
            have HK3 := Lib.hid hk3
            clear hk3
            go_wp2_with fail
            go_roundw
            case rel => exact ⟨k + 1, u, s + 1, by omega, by go_num, rfl, by omega, by omega, HK3, HS2, HKB2⟩
            case measure => simp [intOf]; omega
    · have hk3 := HK.out
      rw [List.drop_eq_nil_of_le (by omega), Sv.rscanGo] at hk3
      have HK3 := Lib.hid hk3
      clear hk3 HK
      go_wp2_with fail
      go_ret2
      exact ⟨by rw [← HK3.out]; rfl, by rw [← HK3.out]; exact HR.out, HKB.out⟩
end Go.Proofs.Ytfeablchjlkjiaa
