/-
  THE DOCUMENT's SOLVER, WALKED: what a literal is, what a clause is.
-/
import Derived.Test.YtfeablchjlkjiaaRefPlain
import Derived.Test.YtfeablchjlkjiaaSlawF
namespace Go.Proofs.Ytfeablchjlkjiaa
open Go.RowKit Go.Proofs.YtfeablchjlkjiaaW.PrintWords

theorem rright_any (w : World) (n lit : Int) (hn0 : 0 ≤ n) (hn1 : n ≤ 131071) : Calls Try.prog 54 #[.int .i64 n, .int .i64 lit] w fun e w' => e = .returned (.bool (Sv.rightL n lit)) ∧ w' = w := by
  have hneg : wrap64 (-n) = -n := by unfold wrap64; omega
  have fin : ∀ b : Bool, (b = true ↔ lit ≠ 0 ∧ -n ≤ lit ∧ lit ≤ n) → Sv.rightL n lit = b := by
    intro b hb
    unfold Sv.rightL
    cases b with
    | false => exact decide_eq_false (fun h => Bool.noConfusion (hb.2 h))
    | true => exact decide_eq_true (hb.1 rfl)
  by_cases h1 : 1 ≤ lit
  · by_cases h2 : lit ≤ n
    · rw [fin true ⟨fun _ => ⟨by omega, by omega, h2⟩, fun _ => rfl⟩]
      clear fin
      go_enter Try.func54, Try.ntmps54
      go_wp2_with fail
      go_ret
      exact ⟨rfl, rfl⟩
    · rw [fin false ⟨fun e => Bool.noConfusion e, fun e => absurd e.2.2 h2⟩]
      clear fin
      have h3 : ¬lit ≤ -1 := by omega
      go_enter Try.func54, Try.ntmps54
      go_wp2_with fail
      go_ret
      exact ⟨rfl, rfl⟩
  · by_cases h3 : lit ≤ -1
    · by_cases h4 : -n ≤ lit
      · rw [fin true ⟨fun _ => ⟨by omega, h4, by omega⟩, fun _ => rfl⟩]
        clear fin
        go_enter Try.func54, Try.ntmps54
        go_wp2_with fail
        go_ret
        exact ⟨rfl, rfl⟩
      · rw [fin false ⟨fun e => Bool.noConfusion e, fun e => absurd e.2.1 h4⟩]
        clear fin
        go_enter Try.func54, Try.ntmps54
        go_wp2_with fail
        go_ret
        exact ⟨rfl, rfl⟩
    · rw [fin false ⟨fun e => Bool.noConfusion e, fun e => absurd (show lit = 0 from by omega) e.1⟩]
      clear fin
      go_enter Try.func54, Try.ntmps54
      go_wp2_with fail
      go_ret
      exact ⟨rfl, rfl⟩

/-- Values as the document holds them. -/
abbrev VRow (w : World) (A : Option Addr) (v : List Int) : Prop := (Kd.int .i64).C w A v.length (Sv.encs3 v)

theorem rof_any {w : World} {A : Option Addr} {c : Nat} {v : List Int} (hr : VRow w A v) (ht : Sv.Tri3 v) (lit : Int) (hl : Sv.LitN v.length lit) :
    Calls Try.prog 56 #[.slice A v.length c, .int .i64 lit] w fun e w' => e = .returned (.int .i64 (Sv.enc (Sv.ofL v lit))) ∧ w' = w := by
  obtain ⟨h0, h1, h2⟩ := hl
  have hlen : v.length ≤ 9223372036854775807 := hr.2.1
  have hen := Sv.enc_of ht lit
  by_cases h : 0 < lit
  · obtain ⟨k, rfl⟩ : ∃ k : Nat, lit = k + 1 := ⟨(lit - 1).toNat, by omega⟩
    obtain ⟨ad, rfl, hcell⟩ := Kd.at_int hr k (by omega) (by omega)
    rw [Int.toNat_natCast, rd, Int.toNat_natCast, Sv.encs3_get] at hcell
    rw [if_pos h, show ((k : Int) + 1 - 1).toNat = k from by omega] at hen
    rw [hen]
    generalize Sv.enc (v.getD k 0) = x at *
    clear hr ht hen
    go_enter Try.func56, Try.ntmps56
    go_wp2_with fail
    go_ret
    exact ⟨rfl, rfl⟩
  · obtain ⟨k, rfl⟩ : ∃ k : Nat, lit = -((k : Int) + 1) := ⟨(-lit - 1).toNat, by omega⟩
    obtain ⟨ad, rfl, hcell⟩ := Kd.at_int hr k (by omega) (by omega)
    rw [Int.toNat_natCast, rd, Int.toNat_natCast, Sv.encs3_get] at hcell
    rw [if_neg h, show (-(-((k : Int) + 1)) - 1).toNat = k from by omega] at hen
    rw [hen]
    have hx : Sv.enc (v.getD k 0) = 0 ∨ Sv.enc (v.getD k 0) = 1 ∨ Sv.enc (v.getD k 0) = 2 := by
      have := ht k
      unfold Sv.enc
      split <;> omega
    generalize Sv.enc (v.getD k 0) = x at *
    clear hr ht hen
    go_enter Try.func56, Try.ntmps56
    rcases hx with rfl | rfl | rfl
    · go_wp2_with fail
      go_ret
      exact ⟨rfl, rfl⟩
    · go_wp2_with fail
      go_ret
      exact ⟨rfl, rfl⟩
    · go_wp2_with fail
      go_ret
      exact ⟨rfl, rfl⟩

/-- Values that the document has made. -/
abbrev VOwn (w : World) (base b c : Nat) (v : List Int) : Prop := w.ownsRow base 3 1 (.slice (some ⟨b, 0, none⟩) v.length c) v.length (nums .i64 (Sv.encs3 v))
theorem VOwn.row {w : World} {base b c : Nat} {v : List Int} (h : VOwn w base b c v) : VRow w (some ⟨b, 0, none⟩) v := by
  have h2 : w.ownsRow base 3 1 (.slice (some ⟨b, 0, none⟩) v.length c) v.length (nums .i64 (Sv.encs3 v)) := h
  have := Kd.C_of_reads (enc := Value.int .i64) (d := (0 : Int)) (h1 := fun _ => rfl) (own_reads' h2)
  exact this
theorem own_vlen {w : World} {base : Nat} {x : Value} {v : List Int} (h : w.ownsRow base 3 1 x (([] : List Int) ++ Sv.encs3 v).length (nums .i64 (([] : List Int) ++ Sv.encs3 v))) : w.ownsRow base 3 1 x v.length (nums .i64 (Sv.encs3 v)) := by
  rw [List.nil_append, Sv.encs3_length] at h
  exact h
theorem vown_cells {w : World} {base b c : Nat} {v : List Int} (h : w.ownsRow base 3 1 (.slice (some ⟨b, 0, none⟩) v.length c) v.length (nums .i64 (Sv.encs3 v))) : ∀ k, k < v.length → w.cell? ⟨b, k, none⟩ = some (.int .i64 (Sv.enc (v.getD k 0))) := by
  intro k hk
  rw [World.ownsRow.cellAt h k (by omega), ← Sv.encs3_get]
  have : k < (Sv.encs3 v).length := by rw [Sv.encs3_length]; exact hk
  simp only [nums, List.getElem?_map, List.getElem?_eq_getElem this, List.getD_eq_getElem?_getD, Option.map_some, Option.getD_some]
theorem Sv.encs3_set (v : List Int) (k : Nat) (x : Int) : (Sv.encs3 v).set k (Sv.enc x) = Sv.encs3 (v.set k x) := by
  simp [Sv.encs3, List.map_set]

set_option maxHeartbeats 800000 in
theorem rwith_any {w : World} {A : Option Addr} {c : Nat} {v : List Int} (hr : VRow w A v) (hm : v.length ≤ 131071) (lit : Int) (hl : Sv.LitN v.length lit) :
    Calls Try.prog 49 #[.slice A v.length c, .int .i64 lit] w fun e w' => ∃ b cap, e = .returned (.slice (some ⟨b, 0, none⟩) v.length cap) ∧ VOwn w' w.heap.size b cap (Sv.setL v lit) ∧ Below w.heap.size w w' := by
  obtain ⟨h0, h1, h2⟩ := hl
  have hri := Kd.reads_of_C (enc := Value.int .i64) (d := (0 : Int)) hr
  have HR := Lib.hid hri
  have hO : (w.alloc (.cells #[] 3)).ownsRow w.heap.size 3 1 (.slice (some ⟨w.heap.size, 0, none⟩) 0 0) ([] : List Int).length (nums .i64 []) := World.ownsRow_made w #[] 0 (Nat.le_refl _) (Nat.zero_le _) rfl
  have HO := Lib.hid hO
  have hby : 0 < 8 := by decide
  have hl1 : (([] : List Int).length + v.length) * 8 ≤ 140737488355328 := by simp; omega
  have HL1 := Lib.hid hl1
  clear hr hri hO hl1
  by_cases h : 0 < lit
  · obtain ⟨k, rfl⟩ : ∃ k : Nat, lit = k + 1 := ⟨(lit - 1).toNat, by omega⟩
    have hset : Sv.encs3 (Sv.setL v ((k : Int) + 1)) = (Sv.encs3 v).set k 1 := by
      rw [Sv.setL, if_pos h, show ((k : Int) + 1 - 1).toNat = k from by omega, ← Sv.encs3_set]
      rfl
    have HSET := Lib.hid hset
    clear hset
    go_enter Try.func49, Try.ntmps49
    go_wp2_with (at_builtin; refine print_append_row (w0 := w) w.heap.size rfl (.tmp 6) (.tmp 7) 72 3 .i64 8 rfl Try.underlying72 infoInt hby (.slice (some ⟨w.heap.size, 0, none⟩) 0 0) [] (Sv.encs3 v) A v.length c rfl rfl HO.out (ReadsOf.below HR.out ((Below.refl _ _).alloc (Nat.le_refl _) _)) ((Below.refl _ _).alloc (Nat.le_refl _) _) (by simp) HL1.out ?_; intro v1 w1 hown1 hB1 hg1 hat1; have hown2 := own_vlen (v := v) hown1; obtain ⟨b1, c1, rfl, hcb, hbs⟩ := hown2.form (by omega); have hcell := vown_cells hown2 k (by omega); have hfr := World.ownsRow.frozenAt hown2 k; have HO1 := Lib.hid hown2; have HB1 := Lib.hid hB1; clear hown1 hown2 hB1 hg1 hat1)
    go_ret
    refine ⟨b1, c1, rfl, ?_, HB1.out.setCell hcb _⟩
    have h2 := own_stored HO1.out k (.int .i64 1)
    have h3 : (nums .i64 (Sv.encs3 v)).set k (.int .i64 1) = nums .i64 ((Sv.encs3 v).set k 1) := by simp [nums, List.map_set]
    rw [h3, ← HSET.out] at h2
    have h4 := Sv.setL_length v ((k : Int) + 1)
    unfold VOwn
    rw [h4]
    exact h2
  · obtain ⟨k, rfl⟩ : ∃ k : Nat, lit = -((k : Int) + 1) := ⟨(-lit - 1).toNat, by omega⟩
    have hset : Sv.encs3 (Sv.setL v (-((k : Int) + 1))) = (Sv.encs3 v).set k 2 := by
      rw [Sv.setL, if_neg h, show (-(-((k : Int) + 1)) - 1).toNat = k from by omega, ← Sv.encs3_set]
      rfl
    have HSET := Lib.hid hset
    clear hset
    go_enter Try.func49, Try.ntmps49
    go_wp2_with (at_builtin; refine print_append_row (w0 := w) w.heap.size rfl (.tmp 6) (.tmp 7) 72 3 .i64 8 rfl Try.underlying72 infoInt hby (.slice (some ⟨w.heap.size, 0, none⟩) 0 0) [] (Sv.encs3 v) A v.length c rfl rfl HO.out (ReadsOf.below HR.out ((Below.refl _ _).alloc (Nat.le_refl _) _)) ((Below.refl _ _).alloc (Nat.le_refl _) _) (by simp) HL1.out ?_; intro v1 w1 hown1 hB1 hg1 hat1; have hown2 := own_vlen (v := v) hown1; obtain ⟨b1, c1, rfl, hcb, hbs⟩ := hown2.form (by omega); have hcell := vown_cells hown2 k (by omega); have hfr := World.ownsRow.frozenAt hown2 k; have HO1 := Lib.hid hown2; have HB1 := Lib.hid hB1; clear hown1 hown2 hB1 hg1 hat1)
    go_ret
    refine ⟨b1, c1, rfl, ?_, HB1.out.setCell hcb _⟩
    have h2 := own_stored HO1.out k (.int .i64 2)
    have h3 : (nums .i64 (Sv.encs3 v)).set k (.int .i64 2) = nums .i64 ((Sv.encs3 v).set k 2) := by simp [nums, List.map_set]
    rw [h3, ← HSET.out] at h2
    have h4 := Sv.setL_length v (-((k : Int) + 1))
    unfold VOwn
    rw [h4]
    exact h2
end Go.Proofs.Ytfeablchjlkjiaa
