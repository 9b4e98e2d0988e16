/-
  THE LAW 'ENOUGH', WALKED: with a budget of 2 to the power (n + 1) times the clauses the answer is never 'spent'.
-/
import Derived.Test.YtfeablchjlkjiaaSlawD
import Derived.Test.YtfeablchjlkjiaaSolvTop
namespace Go.Proofs.Ytfeablchjlkjiaa
open Go.RowKit Go.Proofs.YtfeablchjlkjiaaW.PrintWords

/-- Rows that came in. -/
structure RowsArg (w : World) (A : Option Addr) (c : Nat) (cl : List (List Int)) : Prop where
  reads : KRows.C w A cl.length cl
  cap : cl.length ≤ c
  small : SmallRows cl
/-- Numbers that came in. -/
structure IntsArg (w : World) (A : Option Addr) (c : Nat) (xs : List Int) : Prop where
  reads : (Kd.int .i64).C w A xs.length xs
  cap : xs.length ≤ c
  small : small8 xs.length
theorem RowsArg.below {w w1 : World} {A : Option Addr} {c : Nat} {cl : List (List Int)} (h : RowsArg w A c cl) (hb : Below w.heap.size w w1) : RowsArg w1 A c cl := ⟨Kd.C_below h.reads hb, h.cap, h.small⟩
theorem IntsArg.below {w w1 : World} {A : Option Addr} {c : Nat} {cl : List Int} (h : IntsArg w A c cl) (hb : Below w.heap.size w w1) : IntsArg w1 A c cl := ⟨Kd.C_below h.reads hb, h.cap, h.small⟩

/-- Solve, asked over a twin and a lent list. -/
theorem solve_twin {w1 w2 w3 : World} {n bud : Int} {hb cap fbb fcap : Nat} {fb fc : Nat → Nat} {cl : List (List Int)} {cells : List Value} {pf : List Int} {b1 b2 : Nat} (ht : TwinAt w1 b1 hb cap fb fc cl cells) (hs : SmallRows cl) (hb12 : Below w1.heap.size w1 w2) (hl : LentAt w2 b2 fbb fcap pf) (hb23 : Below w2.heap.size w2 w3) :
    Calls Try.prog 13 #[.int .i64 n, .slice (some ⟨hb, 0, none⟩) cl.length cap, .slice (some ⟨fbb, 0, none⟩) pf.length fcap, .int .i64 bud] w3 (SolvePost (Sv.solve n cl pf bud) w3) := by
  have h1 := Kd.C_below (Kd.C_below ht.reads hb12) hb23
  have h2 := Kd.C_below hl.reads hb23
  exact solve_any h1 (by have := own_cap ht.own; omega) h2 (by have := hl.cap; omega) hs.hdr

set_option maxRecDepth 100000 in
set_option maxHeartbeats 1600000 in
theorem enough_any {w : World} {n : Int} {A B : Option Addr} {c d : Nat} {cl : List (List Int)} {pf : List Int} (hn : (Lit.int .i64 n).wf = true) (hcl : RowsArg w A c cl) (hpf : IntsArg w B d pf) :
    Calls Try.prog 5 #[.int .i64 n, .slice A cl.length c, .slice B pf.length d] w fun e w' => e = .returned (.bool true) ∧ Below w.heap.size w w' := by
  have HC := Lib.hid hcl
  have HP := Lib.hid hpf
  have HN := Lib.hid hn
  clear hcl hpf hn
  go_enter Try.func5, Try.ntmps5
  go_wp2_with fail
  refine (lives_any _).mono ?_
  rintro e w1 ⟨rfl, hb1⟩
  have HB1 := Lib.hid hb1
  clear hb1
  by_cases c1 : n < 0
  · go_wp2_with fail
    go_ret
    exact ⟨rfl, HB1.out⟩
  by_cases c2 : 58 < n
  · go_wp2_with fail
    go_ret
    exact ⟨rfl, HB1.out⟩
  obtain ⟨m, rfl⟩ : ∃ m : Nat, n = m := ⟨n.toNat, by omega⟩
  go_wp2_with fail
  have hc1 := HC.out.below HB1.out
  have hp1 := HP.out.below HB1.out
  refine (problem_any hc1.reads hp1.reads hp1.cap hc1.small.hdr).mono ?_
  rintro e w2 ⟨rfl, hb2⟩
  have HC1 := Lib.hid hc1
  have HP1 := Lib.hid hp1
  have HB2 := Lib.hid hb2
  clear hc1 hp1 hb2
  generalize hpv : problemL m cl pf 0 = pv
  have HPV := Lib.hid hpv
  clear hpv
  cases pv with
  | false =>
    go_wp2_with fail
    go_ret
    exact ⟨rfl, HB1.out.trans (HB2.out.mono HB1.out.size)⟩
  | true =>
    by_cases c3 : (1152921504606846976 : Int) / 2 ^ (m + 1) < cl.length
    · go_wp2_with fail
      go_ret
      exact ⟨rfl, HB1.out.trans (HB2.out.mono HB1.out.size)⟩
    have hpow : (cl.length : Int) * 2 ^ (m + 1) ≤ 1152921504606846976 := by
      have h : (cl.length : Int) ≤ 1152921504606846976 / 2 ^ (m + 1) := by omega
      have hpos : (0 : Int) < 2 ^ (m + 1) := Int.pow_pos (by decide)
      exact (Int.le_ediv_iff_mul_le hpos).1 h
    go_wp2_with fail
    have hc2 := HC1.out.below HB2.out
    have hp2 := HP1.out.below HB2.out
    refine (twin_any hc2.reads hc2.small).mono ?_
    rintro e w3 ⟨hb, cap, fb, fc, cells, rfl, ht, hb3⟩
    have HP2 := Lib.hid hp2
    have HT := Lib.hid ht
    have HB3 := Lib.hid hb3
    have HS := Lib.hid hc2.small
    clear hc2 hp2 ht hb3
    go_wp2_with fail
    have hp3 := HP2.out.below HB3.out
    refine (lent_any hp3.reads hp3.small).mono ?_
    rintro e w4 ⟨b, bc, rfl, hl, hb4⟩
    have HL := Lib.hid hl
    have HB4 := Lib.hid hb4
    clear hp3 hl hb4
    go_wp2_with fail
    have hwr : wrap64 ((cl.length : Int) * 2 ^ (m + 1)) = cl.length * 2 ^ (m + 1) := by
      have : 0 ≤ (cl.length : Int) * 2 ^ (m + 1) := Int.mul_nonneg (by omega) (Int.le_of_lt (Int.pow_pos (by decide)))
      unfold wrap64
      omega
    rw [hwr]
    refine (solve_twin HT.out HS.out HB4.out HL.out (Below.refl _ _)).mono ?_
    rintro e w5 ⟨vv, rfl, hR, hb5⟩
    have HB5 := Lib.hid (HB1.out.trans ((HB2.out.trans ((HB3.out.trans ((HB4.out.trans (hb5.mono HB4.out.size)).mono HB3.out.size)).mono HB2.out.size)).mono HB1.out.size))
    obtain ⟨vs, s, h⟩ := Sv.solve_enough HPV.out hpow
    obtain ⟨vA, vc, hv, hvc, hC⟩ := Kd.R_reads hR
    subst hv
    generalize (Sv.solve m cl pf (cl.length * 2 ^ (m + 1))).1.values = vals at *
    rcases h with h | h
    · rw [h]
      clear h hR hb5 hpow hwr
      go_wp2_with fail
      go_ret
      exact ⟨rfl, HB5.out.alloc HB5.out.size _⟩
    · rw [h]
      clear h hR hb5 hpow hwr
      go_wp2_with fail
      go_ret
      exact ⟨rfl, HB5.out.alloc HB5.out.size _⟩
end Go.Proofs.Ytfeablchjlkjiaa
