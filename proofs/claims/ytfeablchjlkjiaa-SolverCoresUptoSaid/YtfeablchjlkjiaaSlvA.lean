/-
  WALKS over larderlaw09's helpers: headers, untouched.
-/
import Derived.Test.YtfeablchjlkjiaaSlawH
namespace Go.Proofs.Ytfeablchjlkjiaa
open Go.RowKit Go.Proofs.YtfeablchjlkjiaaW.PrintWords Go.Proofs.YtfeablchjlkjiaaW.PrintMore

abbrev HdT := Option Addr × Nat × Nat
def hdV (h : HdT) : Value := .slice h.1 h.2.1 h.2.2
theorem hdV_one (h : HdT) : (hdV h).oneCell' = true := rfl
def hdrs (fb fc : Nat → Nat) (xs : List (List Int)) : List HdT := (List.range xs.length).map (fun i => (some ⟨fb i, 0, none⟩, (xs.getD i []).length, fc i))
theorem hdrs_length (fb fc : Nat → Nat) (xs : List (List Int)) : (hdrs fb fc xs).length = xs.length := by simp [hdrs]
theorem TwinAt.cells_is {w : World} {base hb cap : Nat} {fb fc : Nat → Nat} {xs : List (List Int)} {cells : List Value} (h : TwinAt w base hb cap fb fc xs cells) : cells = encs hdV (hdrs fb fc xs) := by
  apply List.ext_getElem?
  intro i
  by_cases hi : i < xs.length
  · rw [h.hdr i hi]
    simp [encs, hdrs, hdV, hi]
  · rw [List.getElem?_eq_none (by rw [h.len]; omega), List.getElem?_eq_none (by simp [encs, hdrs]; omega)]
theorem TwinAt.heads {w : World} {base hb cap : Nat} {fb fc : Nat → Nat} {xs : List (List Int)} {cells : List Value} (h : TwinAt w base hb cap fb fc xs cells) : ReadsOf hdV (none, 0, 0) w (some ⟨hb, 0, none⟩) xs.length (hdrs fb fc xs) := by
  have ho := h.own
  rw [h.cells_is, show encs hdV (hdrs fb fc xs) ++ [Value.slice (some ⟨fb xs.length, 0, none⟩) 1 1, .slice (some ⟨fb (xs.length + 1), 0, none⟩) 1 1] = encs hdV (hdrs fb fc xs ++ [(some ⟨fb xs.length, 0, none⟩, 1, 1), (some ⟨fb (xs.length + 1), 0, none⟩, 1, 1)]) by simp [encs, hdV]] at ho
  obtain ⟨A, c, he, hr⟩ := own_reads_of (d := ((none, 0, 0) : HdT)) ho
  cases he
  have h1 := ReadsOf.take_ (enc := hdV) (d := ((none, 0, 0) : HdT)) hr xs.length (by omega)
  rwa [List.take_left' (hdrs_length fb fc xs)] at h1

/-- The list of a twin's headers, as the lender holds it. -/
def HeadsAt (w : World) (base : Nat) (v : Value) (fb fc : Nat → Nat) (xs : List (List Int)) : Prop := w.ownsRow base 23 1 v (hdrs fb fc xs).length (encs hdV (hdrs fb fc xs))
set_option maxHeartbeats 800000 in
theorem headers_any {w : World} {base hb cap : Nat} {fb fc : Nat → Nat} {xs : List (List Int)} {cells : List Value} (ht : TwinAt w base hb cap fb fc xs cells) (hs : xs.length * 24 ≤ 140737488351232) :
    Calls Try.prog 11 #[.slice (some ⟨hb, 0, none⟩) xs.length cap] w fun e w' => ∃ v, e = .returned v ∧ HeadsAt w' w.heap.size v fb fc xs ∧ Below w.heap.size w w' := by
  have HR := Lib.hid ht.heads
  have hO : (w.alloc (.cells #[] 23)).ownsRow w.heap.size 23 1 (.slice (some ⟨w.heap.size, 0, none⟩) 0 0) ([] : List HdT).length (encs hdV []) := World.ownsRow_made w #[] 0 (Nat.le_refl _) (Nat.zero_le _) rfl
  have HO := Lib.hid hO
  have hby : 0 < 24 := by decide
  have HL1 : Hid ((([] : List HdT).length + xs.length) * 24 ≤ 140737488355328) := Lib.hid (by simp; omega)
  clear ht hO
  go_enter Try.func11, Try.ntmps11
  go_wp2_with (at_builtin; refine print_append_row_of (w0 := w) hdV (none, 0, 0) w.heap.size rfl _ _ 22 23 (.slice none 0 0) 24 rfl Try.underlying22 infoRow rfl hby hdV_one (.slice (some ⟨w.heap.size, 0, none⟩) 0 0) [] (hdrs fb fc xs) (some ⟨hb, 0, none⟩) xs.length cap rfl rfl HO.out (ReadsOf.below HR.out ((Below.refl _ _).alloc (Nat.le_refl _) _)) ((Below.refl _ _).alloc (Nat.le_refl _) _) (by simp) HL1.out ?_; intro v1 w1 hown1 hB1 hg1 hat1; have HO1 := Lib.hid hown1; have HB1 := Lib.hid hB1; clear hown1 hB1 hg1 hat1)
  go_ret
  exact ⟨_, rfl, by simpa [HeadsAt] using HO1.out, HB1.out⟩

theorem HeadsAt.at_ {w : World} {base : Nat} {v : Value} {fb fc : Nat → Nat} {xs : List (List Int)} (h : HeadsAt w base v fb fc xs) : ∃ O oc, v = .slice O xs.length oc ∧ ∀ i, i < xs.length → ∃ ad : Addr, O = some ad ∧ w.cell? (ad.add i) = some (.slice (some ⟨fb i, 0, none⟩) (xs.getD i []).length (fc i)) := by
  obtain ⟨O, oc, he⟩ := own_slice h
  rw [hdrs_length] at he
  subst he
  refine ⟨O, oc, rfl, fun i hi => ?_⟩
  have h2 := h
  rw [HeadsAt, hdrs_length] at h2
  obtain ⟨g, cap, he, _, _⟩ := h2.form (by omega)
  cases he
  refine ⟨_, rfl, ?_⟩
  have hc := h2.cellAt i (by omega)
  rw [Addr.add_lit, Nat.zero_add, hc]
  simp [encs, hdrs, hdV, hi]

/-- A call that only draws, within a region that only draws. -/
theorem quiet_call {P : Program} {f : Nat} {args : Array Value} {w : World} {v : Value} (h : ∀ q, Calls P f args (w.drewN q) fun e w' => e = .returned v ∧ ∃ m, w' = (w.drewN q).drewN m) (m x : Nat) : Calls P f args (w.drewN (m + x)) fun e w' => e = .returned v ∧ ∃ n, w' = w.drewN (m + n) :=
  (h (m + x)).mono (fun e w'' h => ⟨h.1, by
    obtain ⟨q, hq⟩ := h.2
    exact ⟨x + q, by rw [hq, World.drewN_drewN, Nat.add_assoc]⟩⟩)
theorem one_reads {w : World} {b : Nat} {x : Int} (h : w.heap[b]? = some (.cells #[.int .i64 x] 3 (0, 0))) : (Kd.int .i64).C w (some ⟨b, 0, none⟩) 1 [x] := by
  have ho : w.ownsRow b 3 1 (.slice (some ⟨b, 0, none⟩) 1 1) 1 (nums .i64 [x]) := ⟨rfl, .inr ⟨b, 1, _, rfl, Nat.le_refl _, h, Nat.le_refl _, by decide, rfl, rfl⟩⟩
  exact Kd.C_of_reads (enc := Value.int .i64) (d := (0 : Int)) (own_reads' ho)

set_option maxRecDepth 100000 in
set_option maxHeartbeats 3200000 in
theorem untouched_true {w : World} {base hb cap : Nat} {fb fc : Nat → Nat} {xs : List (List Int)} {cells : List Value} {base2 c : Nat} {v : Value} {A : Option Addr} (ht : TwinAt w base hb cap fb fc xs cells) (ho : HeadsAt w base2 v fb fc xs) (hcl : KRows.C w A xs.length xs) (hs : SmallRows xs) :
    Calls Try.prog 18 #[.slice (some ⟨hb, 0, none⟩) xs.length cap, v, .slice A xs.length c] w fun e w' => e = .returned (.bool true) ∧ Below w.heap.size w w' := by
  obtain ⟨O, oc, rfl, hO⟩ := ho.at_
  have hcap : xs.length + 2 ≤ cap := own_cap ht.own
  have HT := Lib.hid ht
  have HO := Lib.hid hO
  have HC := Lib.hid hcl
  have HS := Lib.hid hs
  clear ht ho hO hcl hs
  have hw2 : wrap64 ((xs.length : Int) + 2) = (xs.length : Int) + 2 := by have := HS.out.hdr; unfold wrap64; omega
  have hxl : xs.length ≤ 5864062014806 := by have := HS.out.hdr; omega
  have h02 : (0 : Int) ≤ (xs.length : Int) + 2 := by omega
  have hc2 : (xs.length : Int) + 2 ≤ (cap : Int) := by omega
  go_enter Try.func18, Try.ntmps18
  go_wp2_with fail
  go_loopw [8] (fun iv wr => ∃ i q : Nat, i ≤ xs.length ∧ iv = .int .i64 i ∧ wr = w.drewN q) (fun iv _ => xs.length - (intOf iv).toNat)
  case atStart => exact ⟨0, 0, Nat.zero_le _, rfl, rfl⟩
  case round =>
    obtain ⟨i, m, hi, rfl, rfl⟩ := hrel
    by_cases hlt : i < xs.length
    · obtain ⟨oa, rfl, ho0⟩ := HO.out i hlt
      obtain ⟨ad, A0, c0, rfl, hcl0, hrl, hrow⟩ := rows_at HC.out i hlt
      have hl := HT.out.row i hlt
      have hh := HT.out.own.cellAt i (by omega)
      rw [List.getElem?_append_left (by rw [HT.out.len]; exact hlt), HT.out.hdr i hlt] at hh
      have hsm := HS.out.get hlt
      generalize xs.getD i [] = row at *
      have HNUM := Lib.hid (fun q => numbers_true (w := w.drewN q) (c := fc i) (d := c0) (Kd.C_below hl.reads (below_drewN w q)) (Kd.C_below hrow (below_drewN w q)))
      have HSTL := Lib.hid (fun q => still_true (w := w.drewN q) (d := c0) (hl.move (w1 := w.drewN q) rfl) (Kd.C_below hrow (below_drewN w q)) hsm)
      clear hl hrow hsm
      go_wp2_with fail
      go_quiet (first
        | (go_at_call 28; exact quiet_call HNUM.out m _)
        | (go_at_call 19; exact quiet_call HSTL.out m _))
      go_wp2_with fail
      go_roundw
      case rel => exact ⟨i + 1, m + _, by omega, by go_num, rfl⟩
      case measure => simp [intOf]; omega
    · obtain rfl : i = xs.length := by omega
      have k1 := HT.out.own.cellAt xs.length (by omega)
      have k2 := HT.out.own.cellAt (xs.length + 1) (by omega)
      rw [List.getElem?_append_right (by rw [HT.out.len]; omega), HT.out.len, Nat.sub_self] at k1
      rw [List.getElem?_append_right (by rw [HT.out.len]; omega), HT.out.len, Nat.add_sub_cancel_left] at k2
      dsimp only [List.getElem?_cons_zero, List.getElem?_cons_succ] at k1 k2
      have HM1 := Lib.hid (one_reads HT.out.m1)
      have HM2 := Lib.hid (one_reads HT.out.m2)
      have hba := (below_drewN w m).trans ((below_new (w.drewN m) (.cells #[.int .i64 7003] 3)))
      have HBA := Lib.hid hba
      clear hba
      go_wp2_with fail
      refine (numbers_true (xs := [7003]) (c := 1) (d := 1) (Kd.C_below HM1.out HBA.out) (lit_ints (w.drewN m) [7003] (by decide))).mono ?_
      rintro e w1 ⟨rfl, q, rfl⟩
      have hb1 := HBA.out.trans ((below_drewN ((w.drewN m).alloc (.cells #[.int .i64 7003] 3)) q).mono HBA.out.size)
      have k3 : (((w.drewN m).alloc (.cells #[.int .i64 7003] 3)).drewN q).cell? ⟨hb, xs.length + 1, none⟩ = _ := pw_cell_below hb1 k2
      clear HBA
      generalize World.drewN (World.alloc _ _) _ = w1 at *
      have HB1 := Lib.hid hb1
      clear hb1
      go_wp2_with fail
      refine (numbers_true (xs := [7004]) (c := 1) (d := 1) (Kd.C_below (Kd.C_below HM2.out HB1.out) (below_new _ _)) (lit_ints w1 [7004] (by decide))).mono ?_
      rintro e w2 ⟨rfl, q2, rfl⟩
      have hb2 := HB1.out.trans (((below_new w1 (.cells #[.int .i64 7004] 3)).trans ((below_drewN _ q2).mono (below_new w1 _).size)).mono HB1.out.size)
      have HB2 := Lib.hid hb2
      clear hb2
      go_wp2_with fail
      go_ret
      exact ⟨rfl, HB2.out⟩
end Go.Proofs.Ytfeablchjlkjiaa
