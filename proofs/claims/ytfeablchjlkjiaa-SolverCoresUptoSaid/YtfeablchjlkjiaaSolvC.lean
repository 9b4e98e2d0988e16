/-
  WALKS over package solver, third part: scan, back.
-/
import Derived.Test.YtfeablchjlkjiaaSolvB
import Derived.Deep.LoopGhost
namespace Go.Proofs.Ytfeablchjlkjiaa
open Go.RowKit Go.Proofs.YtfeablchjlkjiaaW.PrintWords

/-- A row of rows of numbers: the k-th row. -/
theorem rows_at {w : World} {A : Option Addr} {n : Nat} {xs : List (List Int)} (h : Kd.C (Kd.slice 3 (Kd.int .i64)) w A n xs) (k : Nat) (hk : k < n) :
    ∃ ad A0 c0, A = some ad ∧ w.cell? (ad.add k) = some (.slice A0 (xs.getD k []).length c0) ∧ (xs.getD k []).length ≤ c0 ∧ (Kd.int .i64).C w A0 (xs.getD k []).length (xs.getD k []) := by
  obtain ⟨ad, c, e, _, hK, hc0⟩ := Kd.C_get h ([] : List Int) k (by omega) (by omega)
  rw [Int.toNat_natCast] at hK hc0
  obtain ⟨A0, c0, rfl, l0, g0⟩ := hK
  have hq : w.cell? (ad.add (k * 1 + 0)) = some _ := hc0 0 _ rfl
  exact ⟨ad, A0, c0, e, by rwa [Nat.mul_one, Nat.add_zero] at hq, l0, g0⟩

theorem rows_mem {xs : List (List Int)} {k : Nat} (hk : k < xs.length) : xs.getD k [] ∈ xs := by
  rw [List.getD_eq_getElem?_getD, List.getElem?_eq_getElem hk]
  exact List.getElem_mem hk

/-- Behind k clauses. -/
def ScanAt (v : List Int) (bud : Int) (cl : List (List Int)) (st0 : Int) (k : Nat) (st u p : Int) : Prop := Sv.scanGo v bud (cl.drop k) st u p = Sv.scan cl bud v st0 ∧ (0 ≤ st ∧ st ≤ bud)

theorem scan_step {v : List Int} {bud st0 st u p : Int} {cl : List (List Int)} {k : Nat} (h : ScanAt v bud cl st0 k st u p) (hk : k < cl.length) :
    Sv.scan cl bud v st0 = (if st = bud then ⟨false, true, 0, 0, st⟩
    else if (Sv.look v (cl.getD k [])).1 = 2 then ⟨true, false, u, p, st + 1⟩
    else Sv.scanGo v bud (cl.drop (k + 1)) (st + 1) (if (Sv.look v (cl.getD k [])).1 = 3 then (if u = 0 then (Sv.look v (cl.getD k [])).2 else u) else u) (if (Sv.look v (cl.getD k [])).1 = 4 then (if p = 0 then (Sv.look v (cl.getD k [])).2 else p) else p)) := by
  obtain ⟨h1, _⟩ := h
  rw [List.drop_eq_getElem_cons hk, Sv.scanGo] at h1
  rw [← h1]
  simp [List.getD, hk]

theorem IsS.steps_ {w : World} {base g : Nat} {p : Pb} {s : St} {vb : Nat} {tv cv : Value} (hs : IsS base w g p s vb tv cv) (st : Int) :
    IsS base (w.setCell ⟨g, 7, none⟩ (.int .i64 st)) g p { s with steps := st } vb tv cv ∧ Keep base w (w.setCell ⟨g, 7, none⟩ (.int .i64 st)) :=
  ⟨⟨hs.at_.set7 st, own_setCell (p := ⟨g, 7, none⟩) hs.tr (own_ne hs.tr hs.at_.blk (by decide)) _, own_setCell (p := ⟨g, 7, none⟩) hs.ch (own_ne hs.ch hs.at_.blk (by decide)) _, hs.gb, hs.vbb, by simpa [World.setCell] using hs.size⟩,
    (Keep.refl base w).set hs.at_.blk (by decide) hs.gb _⟩

theorem IsS.drewN {w : World} {base g : Nat} {p : Pb} {s : St} {vb : Nat} {tv cv : Value} (hs : IsS base w g p s vb tv cv) (m : Nat) : IsS base (w.drewN m) g p s vb tv cv :=
  ⟨⟨hs.at_.blk, hs.at_.val⟩, hs.tr, hs.ch, hs.gb, hs.vbb, hs.size⟩
theorem Keep.drewN {base : Nat} {a b : World} (h : Keep base a b) (m : Nat) : Keep base a (b.drewN m) := ⟨⟨h.below.os, h.below.tape, h.below.output, h.below.size, h.below.block⟩, h.boxes⟩

def ScanPost (base g : Nat) (p : Pb) (s : St) (vb : Nat) (tv cv : Value) (w : World) (r : Sv.Scan) (e : Ending) (w' : World) : Prop :=
  e = .returned (.tuple #[.bool r.failed, .bool r.spent, .int .i64 r.unit, .int .i64 r.press]) ∧ IsS base w' g p { s with steps := r.steps } vb tv cv ∧ Keep base w w'

set_option maxRecDepth 100000 in
set_option maxHeartbeats 1600000 in
theorem scan_any {w0 w : World} {g : Nat} {p : Pb} {s : St} {vb : Nat} {tv cv : Value} (hs : IsS w0.heap.size w g p s vb tv cv) (hb : Below w0.heap.size w0 w) (hm : s.vals.length ≤ 131071) (ht : Tri s.vals)
    (A : Option Addr) (c : Nat) (cl : List (List Int)) (hcl : p.cl = .slice A cl.length c) (hr : Kd.C (Kd.slice 3 (Kd.int .i64)) w0 A cl.length cl) (hlit : ∀ c ∈ cl, ∀ l ∈ c, LitOf s.vals l)
    (h0 : 0 ≤ s.steps) (h1 : s.steps ≤ p.bud) (h2 : p.bud ≤ 1152921504606846976) :
    Calls Try.prog 40 #[.pointer (some ⟨g, 0, none⟩)] w (ScanPost w0.heap.size g p s vb tv cv w (Sv.scan cl p.bud s.vals s.steps)) := by
  have hlen : cl.length ≤ 9223372036854775807 := hr.2.1
  have hc1 : w.cell? ⟨g, 1, none⟩ = some (.slice A cl.length c) := by rw [← hcl]; exact hs.at_.cell 1
  have HS := Lib.hid hs
  have HT := Lib.hid ht
  have HL := Lib.hid hlit
  have HR := Lib.hid hr
  have HB := Lib.hid hb
  have HM := Lib.hid hm
  clear hs ht hlit hr hb hcl hm
  go_enter Try.func40, Try.ntmps40
  go_wp2_with fail
  go_step3
  go_wp2_with fail
  go_step3
  go_wp2_with fail
  go_loopw [2, 4, 5, 16] (fun f u q i wr => ∃ (k : Nat) (uu qq : Int) (st : Int), k ≤ cl.length ∧ i = .int .i64 k ∧ f = .bool false ∧ u = .int .i64 uu ∧ q = .int .i64 qq ∧ ScanAt s.vals p.bud cl s.steps k st uu qq ∧ IsS w0.heap.size wr g p { s with steps := st } vb tv cv ∧ Keep w0.heap.size w wr) (fun _ _ _ i _ => cl.length - (intOf i).toNat)
  case atStart => exact ⟨0, 0, 0, s.steps, Nat.zero_le _, rfl, rfl, rfl, rfl, ⟨rfl, h0, h1⟩, HS.out, Keep.refl _ _⟩
  case round =>
    obtain ⟨k, uu, qq, st, hk, rfl, rfl, rfl, rfl, hsc, hs, hkp⟩ := hrel
    by_cases hlt : k < cl.length
    · obtain ⟨ad, A0, c0, rfl, hcell0, _, hrow0⟩ := rows_at HR.out k hlt
      have hw0 : Below w0.heap.size w0 wr := HB.out.trans hkp.below
      have hcell : wr.cell? (ad.add k) = some (.slice A0 (cl.getD k []).length c0) := pw_cell_below hw0 hcell0
      have hrow : (Kd.int .i64).C wr A0 (cl.getD k []).length (cl.getD k []) := Kd.C_below hrow0 hw0
      have hst := scan_step hsc hlt
      obtain ⟨hs0, hs1⟩ := hsc.2
      have g7 := hs.at_.cell 7
      have g3 := hs.at_.cell 3
      have f7 := hs.at_.free 7
      have hlits := HL.out _ (rows_mem hlt)
      have hS2 := fun m => (hs.drewN m).steps_ (st + 1)
      have hlook := fun m => look_any (hS2 m).1 HM.out HT.out A0 c0 (cl.getD k []) (Kd.C_below hrow0 ((HB.out.trans (hkp.drewN m).below).trans (hS2 m).2.below)) hlits
      generalize cl.getD k [] = x at *
      generalize hlk1 : (Sv.look s.vals x).1 = y1 at *
      generalize hlk2 : (Sv.look s.vals x).2 = y2 at *
      have HK := Lib.hid hkp
      have HS1 := Lib.hid hs
      have HS2 := Lib.hid hS2
      have HLK := Lib.hid hlook
      clear hsc hs hkp hcell0 hrow0 hlits hlook hw0 hS2 hlk1 hlk2 hrow
      by_cases c1 : st = p.bud
      · rw [if_pos c1] at hst
        subst c1
        have HST := Lib.hid hst
        clear hst
        go_wp2_with fail
        go_quiet (fail)
        go_wp2_with fail
        rw [Exit.noGoto_ret]
        exact bodyPost_ret (v := .tuple #[.bool false, .bool true, .int .i64 0, .int .i64 0]) (by simp [results, Try.results40, go_sem]) rfl (by rw [HST.out]; exact ⟨rfl, HS1.out.drewN _, HK.out.drewN _⟩)
      · rw [if_neg c1] at hst
        have hc : (st == p.bud) = false := beq_eq_false_iff_ne.2 c1
        have hlt2 : st < p.bud := by omega
        by_cases c2 : y1 = 2
        · rw [if_pos c2] at hst
          subst c2
          have HST := Lib.hid hst
          clear hst c1
          go_wp2_with fail
          go_quiet (fail)
          go_wp2_with fail
          refine (HLK.out _).mono ?_
          rintro e w' ⟨rfl, rfl⟩
          go_wp2_with fail
          rw [Exit.noGoto_ret]
          exact bodyPost_ret (v := .tuple #[.bool true, .bool false, .int .i64 uu, .int .i64 qq]) (by simp [results, Try.results40, go_sem]) rfl (by rw [HST.out]; exact ⟨rfl, (HS2.out _).1, (HK.out.drewN _).trans (HS2.out _).2⟩)
        · rw [if_neg c2] at hst
          have hc2 : (y1 == 2) = false := beq_eq_false_iff_ne.2 c2
          by_cases c3 : y1 = 3
          · rw [if_pos c3, if_neg (show ¬ y1 = 4 by omega)] at hst
            subst c3
            by_cases c5 : uu = 0
            · rw [if_pos c5] at hst
              subst c5
              have HST := Lib.hid hst
              clear hst c1 c2 hc2
              go_wp2_with fail
              go_quiet (fail)
              go_wp2_with fail
              refine (HLK.out _).mono ?_
              rintro e w' ⟨rfl, rfl⟩
              go_wp2_with fail
              go_roundw
              case rel => exact ⟨k + 1, y2, qq, st + 1, by omega, by go_num, rfl, rfl, rfl, ⟨HST.out.symm, by omega, by omega⟩, (HS2.out _).1, (HK.out.drewN _).trans (HS2.out _).2⟩
              case measure => simp [intOf]; omega
            · rw [if_neg c5] at hst
              have hc5 : (uu == 0) = false := beq_eq_false_iff_ne.2 c5
              have HST := Lib.hid hst
              clear hst c1 c2 hc2 c5
              go_wp2_with fail
              go_quiet (fail)
              go_wp2_with fail
              refine (HLK.out _).mono ?_
              rintro e w' ⟨rfl, rfl⟩
              go_wp2_with fail
              go_roundw
              case rel => exact ⟨k + 1, uu, qq, st + 1, by omega, by go_num, rfl, rfl, rfl, ⟨HST.out.symm, by omega, by omega⟩, (HS2.out _).1, (HK.out.drewN _).trans (HS2.out _).2⟩
              case measure => simp [intOf]; omega
          · rw [if_neg c3] at hst
            have hc3 : (y1 == 3) = false := beq_eq_false_iff_ne.2 c3
            by_cases c4 : y1 = 4
            · rw [if_pos c4] at hst
              subst c4
              by_cases c5 : qq = 0
              · rw [if_pos c5] at hst
                subst c5
                have HST := Lib.hid hst
                clear hst c1 c2 hc2 c3 hc3
                go_wp2_with fail
                go_quiet (fail)
                go_wp2_with fail
                refine (HLK.out _).mono ?_
                rintro e w' ⟨rfl, rfl⟩
                go_wp2_with fail
                go_roundw
                case rel => exact ⟨k + 1, uu, y2, st + 1, by omega, by go_num, rfl, rfl, rfl, ⟨HST.out.symm, by omega, by omega⟩, (HS2.out _).1, (HK.out.drewN _).trans (HS2.out _).2⟩
                case measure => simp [intOf]; omega
              · rw [if_neg c5] at hst
                have hc5 : (qq == 0) = false := beq_eq_false_iff_ne.2 c5
                have HST := Lib.hid hst
                clear hst c1 c2 hc2 c3 hc3 c5
                go_wp2_with fail
                go_quiet (fail)
                go_wp2_with fail
                refine (HLK.out _).mono ?_
                rintro e w' ⟨rfl, rfl⟩
                go_wp2_with fail
                go_roundw
                case rel => exact ⟨k + 1, uu, qq, st + 1, by omega, by go_num, rfl, rfl, rfl, ⟨HST.out.symm, by omega, by omega⟩, (HS2.out _).1, (HK.out.drewN _).trans (HS2.out _).2⟩
                case measure => simp [intOf]; omega
            · rw [if_neg c4] at hst
              have hc4 : (y1 == 4) = false := beq_eq_false_iff_ne.2 c4
              have HST := Lib.hid hst
              clear hst c1 c2 c3 c4
              go_wp2_with fail
              go_quiet (fail)
              go_wp2_with fail
              refine (HLK.out _).mono ?_
              rintro e w' ⟨rfl, rfl⟩
              go_wp2_with fail
              go_roundw
              case rel => exact ⟨k + 1, uu, qq, st + 1, by omega, by go_num, rfl, rfl, rfl, ⟨HST.out.symm, by omega, by omega⟩, (HS2.out _).1, (HK.out.drewN _).trans (HS2.out _).2⟩
              case measure => simp [intOf]; omega
    · have hend := hsc.1
      rw [List.drop_eq_nil_of_le (by omega), Sv.scanGo] at hend
      have HE := Lib.hid hend
      have HS1 := Lib.hid hs
      have HK := Lib.hid hkp
      clear hend hsc hs hkp
      go_wp2_with fail
      rw [Exit.noGoto_ret]
      exact bodyPost_ret (v := .tuple #[.bool false, .bool false, .int .i64 uu, .int .i64 qq]) (by simp [results, Try.results40, go_sem]) rfl (by rw [← HE.out]; exact ⟨rfl, HS1.out, HK.out⟩)
end Go.Proofs.Ytfeablchjlkjiaa
