/-
  WALKS over larderlaw09's helpers: lent, numbers, bools, still.
-/
import Derived.Test.YtfeablchjlkjiaaSolvH
namespace Go.Proofs.Ytfeablchjlkjiaa
open Go.RowKit Go.Proofs.YtfeablchjlkjiaaW.PrintWords Go.Proofs.YtfeablchjlkjiaaW.PrintMore

/-- A slice that came in may take so many cells at most. -/
abbrev small8 (n : Nat) : Prop := n * 8 ≤ 140737488351232

theorem getD_app_l {α : Type} (xs ys : List α) (z : α) (k : Nat) (h : k < xs.length) : (xs ++ ys).getD k z = xs.getD k z := by
  rw [List.getD_eq_getElem?_getD, List.getD_eq_getElem?_getD, List.getElem?_append_left h]
theorem getD_app_r {α : Type} (xs ys : List α) (z : α) (k : Nat) : (xs ++ ys).getD (xs.length + k) z = ys.getD k z := by
  rw [List.getD_eq_getElem?_getD, List.getD_eq_getElem?_getD, List.getElem?_append_right (Nat.le_add_right _ _), Nat.add_sub_cancel_left]

/-- A list in a new block, with its two marks. -/
def LentAt (w : World) (base b cap : Nat) (xs : List Int) : Prop := w.ownsRow base 3 1 (.slice (some ⟨b, 0, none⟩) (xs.length + 2) cap) (xs.length + 2) (nums .i64 (xs ++ [7001, 7002]))

theorem LentAt.cell {w : World} {base b cap : Nat} {xs : List Int} (h : LentAt w base b cap xs) (k : Nat) (hk : k < xs.length + 2) : w.cell? ⟨b, k, none⟩ = some (.int .i64 ((xs ++ [7001, 7002]).getD k 0)) := by
  rw [World.ownsRow.cellAt h k (by omega)]
  have : k < (xs ++ [7001, 7002]).length := by simpa using hk
  simp only [nums, List.getElem?_map, List.getElem?_eq_getElem this, List.getD_eq_getElem?_getD, Option.map_some, Option.getD_some]
theorem LentAt.free {w : World} {base b cap : Nat} {xs : List Int} (h : LentAt w base b cap xs) (k : Nat) : w.frozen? ⟨b, k, none⟩ = false := World.ownsRow.frozenAt h k
theorem LentAt.cap {w : World} {base b cap : Nat} {xs : List Int} (h : LentAt w base b cap xs) : xs.length + 2 ≤ cap := own_cap h
theorem LentAt.base_le {w : World} {base b cap : Nat} {xs : List Int} (h : LentAt w base b cap xs) : base ≤ b := own_base h b rfl
theorem LentAt.lt {w : World} {base b cap : Nat} {xs : List Int} (h : LentAt w base b cap xs) : b < w.heap.size := own_lt h b rfl
theorem LentAt.move {w w1 : World} {base b cap : Nat} {xs : List Int} (h : LentAt w base b cap xs) (hm : w1.heap[b]? = w.heap[b]?) : LentAt w1 base b cap xs := own_move h (fun k hk => by
  have : b = k := by simpa [Value.ownBlock] using hk
  subst this
  exact hm)
/-- It is read as it was lent. -/
theorem LentAt.reads {w : World} {base b cap : Nat} {xs : List Int} (h : LentAt w base b cap xs) : (Kd.int .i64).C w (some ⟨b, 0, none⟩) xs.length xs := by
  refine Kd.C_of_reads (enc := Value.int .i64) (d := (0 : Int)) ?_
  obtain ⟨A, c, he, hr⟩ := own_reads h
  cases he
  have h1 := ReadsOf.take_ (enc := Value.int .i64) (d := (0 : Int)) hr xs.length (by omega)
  rwa [List.take_left] at h1

set_option maxHeartbeats 800000 in
theorem lent_any {w : World} {A : Option Addr} {c : Nat} {xs : List Int} (hr : (Kd.int .i64).C w A xs.length xs) (hb : small8 xs.length) :
    Calls Try.prog 12 #[.slice A xs.length c] w fun e w' => ∃ b cap, e = .returned (.slice (some ⟨b, 0, none⟩) xs.length cap) ∧ LentAt w' w.heap.size b cap xs ∧ Below w.heap.size w w' := by
  have hri := Kd.reads_of_C (enc := Value.int .i64) (d := (0 : Int)) hr
  have HR := Lib.hid hri
  have hO : (w.alloc (.cells #[] 3)).ownsRow w.heap.size 3 1 (.slice (some ⟨w.heap.size, 0, none⟩) 0 0) ([] : List Int).length (nums .i64 []) := World.ownsRow_made w #[] 0 (Nat.le_refl _) (Nat.zero_le _) rfl
  have HO := Lib.hid hO
  have hby : 0 < 8 := by decide
  have hl1 : (([] : List Int).length + xs.length) * 8 ≤ 140737488355328 := by simp; omega
  have HL1 := Lib.hid hl1
  clear hr hri hO hl1
  go_enter Try.func12, Try.ntmps12
  have HL2 : Hid ((xs.length + 2) * 8 ≤ 140737488355328) := by show (xs.length + 2) * 8 ≤ 140737488355328; omega
  go_wp2_with (at_builtin; first
    | (refine print_append_row (w0 := w) w.heap.size rfl (.tmp 4) (.tmp 5) 23 3 .i64 8 rfl Try.underlying23 infoInt hby (.slice (some ⟨w.heap.size, 0, none⟩) 0 0) [] xs A xs.length c rfl rfl HO.out (ReadsOf.below HR.out ((Below.refl _ _).alloc (Nat.le_refl _) _)) ((Below.refl _ _).alloc (Nat.le_refl _) _) (by simp) HL1.out ?_; intro v1 w1 hown1 hB1 hg1 hat1; obtain ⟨A1, c1, rfl⟩ := own_slice hown1; have HO1 := Lib.hid hown1; have HB1 := Lib.hid hB1; clear hown1 hB1 hg1 hat1)
    | (refine print_append_row (w0 := w) w.heap.size rfl (.tmp 7) (.tmp 8) 23 3 .i64 8 rfl Try.underlying23 infoInt hby (.slice A1 xs.length c1) xs [7001, 7002] (some ⟨w1.heap.size, 0, none⟩) 2 2 rfl rfl (own_alloc HO1.out _) (own_reads' (own_lit w1 w1.heap.size 3 .i64 [7001, 7002] (Nat.le_refl _) (by decide))) (HB1.out.alloc HB1.out.size _) (by have := HB1.out.size; simp; omega) HL2.out ?_; intro v2 w2 hown2 hB2 hg2 hat2; obtain ⟨b2, c2, rfl, _, _⟩ := hown2.form (by simp); have hcap2 : xs.length + 2 ≤ c2 := (by have := own_cap hown2; simpa using this); have HO2 := Lib.hid hown2; have HB2 := Lib.hid hB2; clear hown2 hB2 hg2 hat2))
  go_ret
  exact ⟨b2, c2, rfl, by have := HO2.out; rwa [List.length_append] at this, HB2.out⟩

/-- Two lists that read alike are told alike. -/
theorem numbers_true {w : World} {A B : Option Addr} {c d : Nat} {xs : List Int} (ha : (Kd.int .i64).C w A xs.length xs) (hb : (Kd.int .i64).C w B xs.length xs) :
    Calls Try.prog 28 #[.slice A xs.length c, .slice B xs.length d] w fun e w' => e = .returned (.bool true) ∧ ∃ m, w' = w.drewN m := by
  have hl := ha.2.1
  have HA := Lib.hid ha
  have HB := Lib.hid hb
  clear ha hb
  go_enter Try.func28, Try.ntmps28
  go_wp2_with fail
  go_loopw [5] (fun i wr => ∃ k : Nat, k ≤ xs.length ∧ i = .int .i64 k ∧ ∃ m, wr = w.drewN m) (fun i _ => xs.length - (intOf i).toNat)
  case atStart => exact ⟨0, Nat.zero_le _, rfl, 0, rfl⟩
  case round =>
    obtain ⟨k, hk, rfl, m, rfl⟩ := hrel
    by_cases hlt : k < xs.length
    · obtain ⟨ad, rfl, hcell⟩ := Kd.at_int HA.out k (by omega) (by omega)
      obtain ⟨ad2, rfl, hcell2⟩ := Kd.at_int HB.out k (by omega) (by omega)
      rw [Int.toNat_natCast] at hcell hcell2
      generalize rd xs k = x at *
      go_wp2_with fail
      go_quiet (fail)
      go_wp2_with fail
      go_roundw
      case rel => exact ⟨k + 1, by omega, by go_num, m + _, rfl⟩
      case measure => simp [intOf]; omega
    · go_wp2_with fail
      go_ret
      exact ⟨rfl, m, rfl⟩

theorem bools_true {w : World} {A B : Option Addr} {c d : Nat} {xs : List Bool} (ha : Kd.bool.C w A xs.length xs) (hb : Kd.bool.C w B xs.length xs) :
    Calls Try.prog 17 #[.slice A xs.length c, .slice B xs.length d] w fun e w' => e = .returned (.bool true) ∧ ∃ m, w' = w.drewN m := by
  have hl := ha.2.1
  have HA := Lib.hid ha
  have HB := Lib.hid hb
  clear ha hb
  go_enter Try.func17, Try.ntmps17
  go_wp2_with fail
  go_loopw [5] (fun i wr => ∃ k : Nat, k ≤ xs.length ∧ i = .int .i64 k ∧ ∃ m, wr = w.drewN m) (fun i _ => xs.length - (intOf i).toNat)
  case atStart => exact ⟨0, Nat.zero_le _, rfl, 0, rfl⟩
  case round =>
    obtain ⟨k, hk, rfl, m, rfl⟩ := hrel
    by_cases hlt : k < xs.length
    · obtain ⟨ad, rfl, hcell⟩ := Kd.at_bool HA.out k (by omega) (by omega)
      obtain ⟨ad2, rfl, hcell2⟩ := Kd.at_bool HB.out k (by omega) (by omega)
      rw [Int.toNat_natCast] at hcell hcell2
      generalize rdOf false xs k = x at *
      go_wp2_with fail
      go_quiet (fail)
      go_wp2_with fail
      go_roundw
      case rel => exact ⟨k + 1, by omega, by go_num, m + _, rfl⟩
      case measure => simp [intOf]; omega
    · go_wp2_with fail
      go_ret
      exact ⟨rfl, m, rfl⟩

theorem num_any (w : World) (k : IntKind) (x : Int) : Calls Try.prog 16 #[.int k x] w fun e w' => e = .returned (.int k x) ∧ w' = w := by
  go_enter Try.func16, Try.ntmps16
  go_wp2
  go_ret
  exact ⟨rfl, rfl⟩

set_option maxHeartbeats 800000 in
theorem found_true {w : World} {A B : Option Addr} {c d : Nat} {xs : List Bool} {v s : Int} (ha : Kd.bool.C w A xs.length xs) (hb : Kd.bool.C w B xs.length xs) :
    Calls Try.prog 15 #[.agg #[.int .i64 v, .slice A xs.length c, .int .i64 s], .agg #[.int .i64 v, .slice B xs.length d, .int .i64 s]] w fun e w' => e = .returned (.bool true) ∧ Below w.heap.size w w' := by
  have hB1 := ((Below.refl w.heap.size w).alloc (Nat.le_refl _) (.cells #[.int .i64 v, .slice A xs.length c, .int .i64 s] 28)).alloc (by simp) (.cells #[.int .i64 v, .slice B xs.length d, .int .i64 s] 28)
  have HBT := Lib.hid (bools_true (c := c) (d := d) (Kd.C_below ha hB1) (Kd.C_below hb hB1))
  have HB1 := Lib.hid hB1
  clear ha hb hB1
  go_enter Try.func15, Try.ntmps15
  go_wp2_with (go_at_call 17; refine HBT.out.mono ?_; rintro e w' ⟨rfl, m, rfl⟩)
  go_ret
  exact ⟨rfl, ⟨HB1.out.os, HB1.out.tape, HB1.out.output, HB1.out.size, HB1.out.block⟩⟩

set_option maxHeartbeats 800000 in
/-- A lent list is still as it was: read against whatever reads as the list. -/
theorem still_true {w : World} {base b cap d : Nat} {B : Option Addr} {xs : List Int} (ha : LentAt w base b cap xs) (hb : (Kd.int .i64).C w B xs.length xs) (hs : small8 xs.length) :
    Calls Try.prog 19 #[.slice (some ⟨b, 0, none⟩) xs.length cap, .slice B xs.length d] w fun e w' => e = .returned (.bool true) ∧ ∃ m, w' = w.drewN m := by
  have hcap := ha.cap
  have hA : ∀ k, k < xs.length → w.cell? ⟨b, k, none⟩ = some (.int .i64 (rd xs k)) := fun k hk => by
    rw [ha.cell k (by omega), rd, Int.toNat_natCast, getD_app_l _ _ _ _ hk]
  have h1 : w.cell? ⟨b, xs.length, none⟩ = some (.int .i64 7001) := by
    rw [ha.cell _ (by omega), show xs.length = xs.length + 0 from rfl, getD_app_r]
    rfl
  have h2 : w.cell? ⟨b, xs.length + 1, none⟩ = some (.int .i64 7002) := by
    rw [ha.cell _ (by omega), getD_app_r]
    rfl
  have HA := Lib.hid hA
  have HB := Lib.hid hb
  clear ha hb hA
  go_enter Try.func19, Try.ntmps19
  go_wp2_with fail
  go_loopw [6] (fun i wr => ∃ k : Nat, k ≤ xs.length ∧ i = .int .i64 k ∧ ∃ m, wr = w.drewN m) (fun i _ => xs.length - (intOf i).toNat)
  case atStart => exact ⟨0, Nat.zero_le _, rfl, 0, rfl⟩
  case round =>
    obtain ⟨k, hk, rfl, m, rfl⟩ := hrel
    by_cases hlt : k < xs.length
    · have hcell := HA.out k hlt
      obtain ⟨ad2, rfl, hcell2⟩ := Kd.at_int HB.out k (by omega) (by omega)
      rw [Int.toNat_natCast] at hcell2
      generalize rd xs k = x at *
      go_wp2_with fail
      go_quiet (fail)
      go_wp2_with fail
      go_roundw
      case rel => exact ⟨k + 1, by omega, by go_num, m + _, rfl⟩
      case measure => simp [intOf]; omega
    · go_wp2_with fail
      go_ret
      exact ⟨rfl, m, rfl⟩
end Go.Proofs.Ytfeablchjlkjiaa
