/-
  WALKS over larderlaw09's helpers: says, model, padded, problem.
-/
import Derived.Test.YtfeablchjlkjiaaSlawB
namespace Go.Proofs.Ytfeablchjlkjiaa
open Go.RowKit Go.Proofs.YtfeablchjlkjiaaW.PrintWords Go.Proofs.YtfeablchjlkjiaaW.PrintMore

theorem TwinAt.reads {w : World} {base hb cap : Nat} {fb fc : Nat → Nat} {xs : List (List Int)} {cells : List Value} (h : TwinAt w base hb cap fb fc xs cells) : KRows.C w (some ⟨hb, 0, none⟩) xs.length xs := by
  have hcap := own_cap h.own
  have hmx : cap ≤ maxLen := by
    rcases h.own.2 with ⟨he, _⟩ | ⟨g, cap', cur, he, _, _, _, hm, _, _⟩
    · cases he
    · cases he; exact hm
  refine ⟨rfl, by unfold maxLen at hmx; omega, fun _ => ⟨_, rfl, fun j p hj => ?_⟩⟩
  have hjl : j < xs.length := (List.getElem?_eq_some_iff.1 hj).1
  have hp : xs.getD j [] = p := by rw [List.getD_eq_getElem?_getD, hj]; rfl
  refine ⟨[.slice (some ⟨fb j, 0, none⟩) p.length (fc j)], rfl, ⟨_, fc j, rfl, ?_, ?_⟩, ?_⟩
  · have := (h.row j hjl).cap; rw [hp] at this; omega
  · have := (h.row j hjl).reads; rwa [hp] at this
  · intro i u hu
    obtain rfl : i = 0 := by
      have := (List.getElem?_eq_some_iff.1 hu).1
      simpa using this
    obtain rfl : Value.slice (some ⟨fb j, 0, none⟩) p.length (fc j) = u := by simpa using hu
    have hc := h.own.cellAt j (by omega)
    rw [List.getElem?_append_left (by rw [h.len]; exact hjl), h.hdr j hjl, hp] at hc
    have e : (⟨hb, 0, none⟩ : Addr).add (j * Kd.sz KRows + 0) = ⟨hb, j, none⟩ := by
      show (⟨hb, 0, none⟩ : Addr).add (j * 1 + 0) = _
      rw [Nat.mul_one, Nat.add_zero]
      unfold Addr.add
      by_cases h0 : j = 0
      · subst h0; rfl
      · simp [h0]
    rw [e]
    exact hc

theorem says_any {w : World} {A : Option Addr} {c : Nat} {vals : List Bool} (hr : Kd.bool.C w A vals.length vals) (lit : Int) (hl : Sv.LitN vals.length lit) :
    Calls Try.prog 25 #[.int .i64 lit, .slice A vals.length c] w fun e w' => e = .returned (.bool (saysL vals lit)) ∧ w' = w := by
  obtain ⟨h0, h1, h2⟩ := hl
  have hlen := hr.2.1
  by_cases h : 0 < lit
  · obtain ⟨k, rfl⟩ : ∃ k : Nat, lit = k + 1 := ⟨(lit - 1).toNat, by omega⟩
    obtain ⟨ad, rfl, hcell⟩ := Kd.at_bool hr k (by omega) (by omega)
    rw [Int.toNat_natCast] at hcell
    have hs : saysL vals (k + 1) = rdOf false vals k := by rw [saysL, if_pos h, rdOf, show ((k : Int) + 1 - 1).toNat = ((k : Int)).toNat from by omega]
    have hkl : k < vals.length := by omega
    have HS := Lib.hid hs
    clear hs hr h0 h1 h2
    generalize rdOf false vals k = x at *
    go_enter Try.func25, Try.ntmps25
    go_wp2_with fail
    go_ret
    exact ⟨by rw [HS.out]; rfl, rfl⟩
  · obtain ⟨k, rfl⟩ : ∃ k : Nat, lit = -(k + 1) := ⟨(-lit - 1).toNat, by omega⟩
    obtain ⟨ad, rfl, hcell⟩ := Kd.at_bool hr k (by omega) (by omega)
    rw [Int.toNat_natCast] at hcell
    have hs : saysL vals (-(k + 1)) = !rdOf false vals k := by rw [saysL, if_neg h, rdOf, show (-(-((k : Int) + 1)) - 1).toNat = ((k : Int)).toNat from by omega]
    have hkl : k < vals.length := by omega
    have HS := Lib.hid hs
    clear hs hr h0 h1 h2
    generalize rdOf false vals k = x at *
    go_enter Try.func25, Try.ntmps25
    go_wp2_with fail
    go_ret
    exact ⟨by rw [HS.out]; rfl, rfl⟩

set_option maxRecDepth 100000 in
set_option maxHeartbeats 1600000 in
theorem model_any {w : World} {A B : Option Addr} {c d : Nat} {cl : List (List Int)} {vals : List Bool} (hcl : KRows.C w A cl.length cl) (hv : Kd.bool.C w B vals.length vals) (hl : ∀ c ∈ cl, ∀ l ∈ c, Sv.LitN vals.length l) :
    Calls Try.prog 23 #[.slice A cl.length c, .slice B vals.length d] w fun e w' => e = .returned (.bool (modelL cl vals)) ∧ w' = w := by
  have hlen := hcl.2.1
  have HC := Lib.hid hcl
  have HV := Lib.hid hv
  have HL := Lib.hid hl
  clear hcl hv hl
  go_enter Try.func23, Try.ntmps23
  go_wp2_with fail
  go_loop [5] (fun i => ∃ k : Nat, k ≤ cl.length ∧ i = .int .i64 k ∧ Hid (modelL (cl.drop k) vals = modelL cl vals)) (fun i => cl.length - (intOf i).toNat)
  case atStart => exact ⟨0, Nat.zero_le _, rfl, rfl⟩
  case round =>
    obtain ⟨k, hk, rfl, HM⟩ := hrel
    by_cases hlt : k < cl.length
    · obtain ⟨ad, A0, c0, rfl, hcell, _, hrow⟩ := rows_at HC.out k hlt
      have hlits := HL.out _ (rows_mem hlt)
      have hd : cl.drop k = cl.getD k [] :: cl.drop (k + 1) := by rw [List.drop_eq_getElem_cons hlt]; simp [List.getD, hlt]
      have hM := HM.out
      rw [hd, modelL, List.all_cons] at hM
      generalize cl.getD k [] = row at *
      have hrl : row.length ≤ 9223372036854775807 := hrow.2.1
      have HROW := Lib.hid hrow
      have HLITS := Lib.hid hlits
      have HM2 := Lib.hid hM
      clear hrow hlits hM hd HM
      go_wp2_with fail
      go_loop [6, 7] (fun y i => ∃ (j : Nat) (b : Bool), j ≤ row.length ∧ i = .int .i64 j ∧ y = .bool b ∧ Hid ((b || (row.drop j).any (saysL vals)) = row.any (saysL vals))) (fun _ i => row.length - (intOf i).toNat)
      case atStart => exact ⟨0, false, Nat.zero_le _, rfl, rfl, rfl⟩
      case round =>
        obtain ⟨j, b, hj, rfl, rfl, HJ⟩ := hrel
        by_cases hlt2 : j < row.length
        · obtain ⟨ad2, rfl, hcell2⟩ := Kd.at_int HROW.out j (by omega) (by omega)
          rw [Int.toNat_natCast] at hcell2
          have hd2 : row.drop j = rd row j :: row.drop (j + 1) := by rw [List.drop_eq_getElem_cons hlt2, rd, Int.toNat_natCast]; simp [List.getD, hlt2]
          have hJ := HJ.out
          rw [hd2, List.any_cons, ← Bool.or_assoc] at hJ
          have hlit := HLITS.out (rd row j) (by have : rd row j ∈ row.drop j := by rw [hd2]; exact List.mem_cons_self
                                                exact List.mem_of_mem_drop this)
          have hsay := says_any (c := d) HV.out _ hlit
          generalize rd row j = lit at *
          have HJ2 := Lib.hid hJ
          have HSAY := Lib.hid hsay
          clear hJ hd2 hsay hlit HJ
          generalize saysL vals lit = y at *
          cases b with
          | true =>
            go_wp2_with fail
            go_round
            case rel => exact ⟨j + 1, true, by omega, by go_num, rfl, Lib.hid (by have := HJ2.out; simpa using this)⟩
            case measure => simp [intOf]; omega
          | false =>
            go_wp2_with (go_at_call 25; refine HSAY.out.mono ?_; rintro e w' ⟨rfl, rfl⟩)
            go_round
            case rel => exact ⟨j + 1, y, by omega, by go_num, rfl, Lib.hid (by have := HJ2.out; simpa using this)⟩
            case measure => simp [intOf]; omega
        · have hJ := HJ.out
          rw [List.drop_eq_nil_of_le (by omega), List.any_nil, Bool.or_false] at hJ
          have hM := HM2.out
          rw [← hJ] at hM
          have HM3 := Lib.hid hM
          clear hJ hM HJ HM2
          cases b with
          | true =>
            go_wp2_with fail
            go_round
            case rel => exact ⟨k + 1, by omega, by go_num, Lib.hid (by have := HM3.out; simpa [modelL] using this)⟩
            case measure => simp [intOf]; omega
          | false =>
            go_wp2_with fail
            go_ret
            exact ⟨by rw [← HM3.out]; rfl, rfl⟩
    · have hM := HM.out
      rw [List.drop_eq_nil_of_le (by omega)] at hM
      have HM2 := Lib.hid hM
      clear hM HM
      go_wp2_with fail
      go_ret
      exact ⟨by rw [← HM2.out]; rfl, rfl⟩

/-- What padded's loop has made. -/
structure PadAt (w wr : World) (cand : List Bool) (k : Nat) (v : Value) : Prop where
  own : wr.ownsRow w.heap.size 4 1 v k ((paddedL cand k).map Value.bool)
  below : Below w.heap.size w wr

set_option maxHeartbeats 1600000 in
theorem padded_any {w : World} {A : Option Addr} {c n : Nat} {cand : List Bool} (hr : Kd.bool.C w A cand.length cand) (hn : n ≤ 131071) :
    Calls Try.prog 24 #[.slice A cand.length c, .int .i64 n] w fun e w' => ∃ A' c', e = .returned (.slice A' n c') ∧ Kd.bool.R 4 w' w.heap.size (fun _ => True) (.slice A' n c') (paddedL cand n) ∧ Below w.heap.size w w' := by
  have hlen := hr.2.1
  have HR := Lib.hid hr
  clear hr
  go_enter Try.func24, Try.ntmps24
  go_wp2_with fail
  go_loopw [5, 6] (fun v i wr => ∃ k : Nat, k ≤ n ∧ i = .int .i64 k ∧ PadAt w wr cand k v) (fun _ i _ => n - (intOf i).toNat)
  case atStart => exact ⟨0, Nat.zero_le _, rfl, own_nil _ _ _ _, Below.refl _ _⟩
  case round =>
    obtain ⟨k, hk, rfl, hp⟩ := hrel
    obtain ⟨vA, vc, rfl⟩ := own_slice hp.own
    by_cases hlt : k < n
    · have hl1 : (k + 1) * 1 ≤ 140737488355328 := by omega
      have hby : 0 < 1 := by decide
      have hsn := paddedL_snoc cand k
      have HP := Lib.hid hp
      have HSN := Lib.hid hsn
      clear hp hsn
      by_cases hc : k < cand.length
      · obtain ⟨ad, rfl, hcell0⟩ := Kd.at_bool HR.out k (by omega) (by omega)
        rw [Int.toNat_natCast] at hcell0
        have hcell : wr.cell? (ad.add k) = _ := pw_cell_below HP.out.below hcell0
        have hx : cand.getD k false = rdOf false cand k := by rw [rdOf, Int.toNat_natCast]
        rw [hx] at HSN
        generalize rdOf false cand k = x at *
        clear hx hcell0
        go_wp2_with (at_builtin; refine print_append_cells (w0 := w) w.heap.size rfl (.tmp 12) (.tmp 23) 26 4 (.bool false) 1 1 rfl Try.underlying26 infoBool rfl hby hby (.slice vA k vc) k _ [.bool x] rfl rfl rfl (one_bool _) HP.out.own HP.out.below HP.out.below.size hl1 ?_; intro v1 w1 hown1 hB1 hg1 hat1; have HO1 := Lib.hid hown1; have HB1 := Lib.hid hB1; clear hown1 hB1 hg1 hat1)
        go_roundw
        case rel => exact ⟨k + 1, by omega, by go_num, by rw [HSN.out, List.map_append]; exact HO1.out, HB1.out⟩
        case measure => simp [intOf]; omega
      · have hx : cand.getD k false = false := by rw [List.getD_eq_getElem?_getD, List.getElem?_eq_none (by omega)]; rfl
        rw [hx] at HSN
        clear hx
        go_wp2_with (at_builtin; refine print_append_cells (w0 := w) w.heap.size rfl (.tmp 12) (.tmp 23) 26 4 (.bool false) 1 1 rfl Try.underlying26 infoBool rfl hby hby (.slice vA k vc) k _ [.bool false] rfl rfl rfl (one_bool _) HP.out.own HP.out.below HP.out.below.size hl1 ?_; intro v1 w1 hown1 hB1 hg1 hat1; have HO1 := Lib.hid hown1; have HB1 := Lib.hid hB1; clear hown1 hB1 hg1 hat1)
        go_roundw
        case rel => exact ⟨k + 1, by omega, by go_num, by rw [HSN.out, List.map_append]; exact HO1.out, HB1.out⟩
        case measure => simp [intOf]; omega
    · obtain rfl : k = n := by omega
      have HP := Lib.hid hp
      clear hp
      go_wp2_with fail
      go_ret
      refine ⟨vA, vc, rfl, Kd.R_of_own (enc := Value.bool) ?_ (fun _ _ => trivial), HP.out.below⟩
      rw [paddedL_length]
      exact HP.out.own
end Go.Proofs.Ytfeablchjlkjiaa
