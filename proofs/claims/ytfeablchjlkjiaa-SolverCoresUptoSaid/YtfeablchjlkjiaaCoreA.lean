/-
  WALKS for the core: slices.Clone and slices.Delete over numbers.
-/
import Derived.Test.YtfeablchjlkjiaaCorePlain
import Derived.Test.YtfeablchjlkjiaaSlawH
import Derived.Deep.RegionLaw
namespace Go.Proofs.Ytfeablchjlkjiaa
open Go.RowKit Go.Proofs.YtfeablchjlkjiaaW.PrintWords Go.Proofs.YtfeablchjlkjiaaW.PrintMore

set_option maxRecDepth 100000 in
set_option maxHeartbeats 800000 in
theorem clone_ints {w : World} {ad : Addr} {c : Nat} {xs : List Int} (hr : (Kd.int .i64).C w (some ad) xs.length xs) (hb : xs.length * 8 ≤ 140737488355328) :
    Calls Try.prog 36 #[.slice (some ad) xs.length c] w fun e w' => ∃ v, e = .returned v ∧ w'.ownsRow w.heap.size 3 1 v xs.length (nums .i64 xs) ∧ Below w.heap.size w w' := by
  have hri := Kd.reads_of_C (enc := Value.int .i64) (d := (0 : Int)) hr
  have HR := Lib.hid hri
  have hn := fun w => Lib.run_eql_slice_nil (P := Try.prog) w 23 3 (some ad) xs.length c 0 0 Try.underlying23
  have hO : (w.alloc (.cells #[] 3)).ownsRow w.heap.size 3 1 (.slice (some ⟨w.heap.size, 0, none⟩) 0 0) ([] : List Int).length (nums .i64 []) := World.ownsRow_made w #[] 0 (Nat.le_refl _) (Nat.zero_le _) rfl
  have HO := Lib.hid hO
  have hby : 0 < 8 := by decide
  have hl1 : (([] : List Int).length + xs.length) * 8 ≤ 140737488355328 := by simp; omega
  have HL1 := Lib.hid hl1
  clear hr hri hO hl1
  go_enter Try.func36, Try.ntmps36
  go_wp2_with (at_builtin; refine print_append_row (w0 := w) w.heap.size rfl _ _ 23 3 .i64 8 rfl Try.underlying23 infoInt hby (.slice (some ⟨w.heap.size, 0, none⟩) 0 0) [] xs (some ad) xs.length c rfl rfl HO.out (ReadsOf.below HR.out ((Below.refl _ _).alloc (Nat.le_refl _) _)) ((Below.refl _ _).alloc (Nat.le_refl _) _) (by simp) HL1.out ?_; intro v1 w1 hown1 hB1 hg1 hat1; have HO1 := Lib.hid hown1; have HB1 := Lib.hid hB1; clear hown1 hB1 hg1 hat1)
  go_ret
  exact ⟨_, rfl, by simpa using HO1.out, HB1.out⟩

/-- A row behind whose end a cell is written over is as it was. -/
theorem own_past {W : World} {base b n m c : Nat} {cs : List Value} (h : W.ownsRow base 3 1 (.slice (some ⟨b, 0, none⟩) m c) m cs) (v : Value) (hn : m ≤ n) : (W.setCell ⟨b, n, none⟩ v).ownsRow base 3 1 (.slice (some ⟨b, 0, none⟩) m c) m cs := by
  obtain ⟨h1, h2⟩ := h
  refine ⟨h1, ?_⟩
  rcases h2 with h2 | ⟨g, cap, cur, he, hb, hh, hmc, hcm, hsz, ht⟩
  · cases h2.1
  injection he with ha _ hc
  injection ha with ha
  injection ha with hg
  subst hg; subst hc
  have hs := blk_set hh n v
  refine .inr ⟨b, c, _, rfl, hb, hs, hmc, hcm, by simpa using hsz, ?_⟩
  rw [← ht]
  rw [Nat.mul_one]
  simp [List.take_set_of_le, hn]
theorem infoI : (Try.prog.info? 3).map (·.size) = some 1 := by kernel_rfl
theorem zeroI (w : World) : (zeroValue 3).run Try.prog w = .ok (.int .i64 0) w := by kernel_rfl
/-- The last cell of a row is cleared. -/
theorem clear_last {w : World} {base g m c : Nat} {cs : List Value} (h : w.ownsRow base 3 1 (.slice (some ⟨g, 0, none⟩) m c) m cs) (hc : m < c) (ty : TypeId) :
    (Builtin.clear_ #[23] ty #[.slice (some ⟨g, m, none⟩) 1 (c - m)]).run Try.prog w = .ok (.tuple #[]) (w.setCell ⟨g, m, none⟩ (.int .i64 0)) := by
  obtain ⟨h1, h2⟩ := h
  rcases h2 with h2 | ⟨g', cap, cur, he, hb, hh, hmc, hcm, hsz, ht⟩
  · cases h2.1
  injection he with ha _ hc'
  injection ha with ha
  injection ha with hg
  subst hg; subst hc'
  exact Lib.run_clear_slice w 23 3 ty (.int .i64 0) Try.underlying23 zeroI rfl rfl g m 1 (c - m) (by omega)
    (fun j hj => by rw [cell_blk hh]; simp; omega) (fun j hj => blk_frozen hh _)
set_option maxRecDepth 100000 in
set_option maxHeartbeats 1600000 in
theorem delete_any {w : World} {base g m c k : Nat} {xs : List Int} (hn : xs.length = m + 1) (ho : w.ownsRow base 3 1 (.slice (some ⟨g, 0, none⟩) (m + 1) c) (m + 1) (nums .i64 xs)) (hk : k < m + 1) :
    Calls Try.prog 35 #[.slice (some ⟨g, 0, none⟩) (m + 1) c, .int .i64 k, .int .i64 ((k : Int) + 1)] w fun e w' => e = .returned (.slice (some ⟨g, 0, none⟩) m c) ∧ w'.ownsRow base 3 1 (.slice (some ⟨g, 0, none⟩) m c) m (nums .i64 (xs.eraseIdx k)) ∧ Below base w w' := by
  have hcap := own_cap ho
  have hR : (Kd.int .i64).R 3 w.drew base (fun _ => True) (.slice (some ⟨g, 0, none⟩) (m + 1) c) xs := Kd.R_of_own (enc := Value.int .i64) (by rw [hn]; exact own_drew ho) (fun _ _ => trivial)
  have hbg : base ≤ g := own_base ho g rfl
  have hbase : base ≤ w.drew.heap.size := by have := own_lt ho g rfl; show base ≤ w.heap.size; omega
  have hB : Below base w w.drew := (Below.refl _ _).drew
  have hel : (xs.eraseIdx k).length = m := by rw [List.length_eraseIdx_of_lt (by omega), hn]; rfl
  have HR := Lib.hid hR
  have HB := Lib.hid hB
  have HEL := Lib.hid hel
  have hkc : k + 1 ≤ c := by omega
  have hkc0 : k ≤ c := by omega
  have hk1 : (0 : Int) ≤ (k : Int) + 1 := by omega
  have hk2 : (k : Int) + 1 ≤ ((m + 1 : Nat) : Int) := by omega
  have hcm : ¬(c = m) := by omega
  have hml : m < c := by omega
  have hkm : k ≤ m := by omega
  have HMK : Hid (m - k = m + 1 - (k + 1)) := Lib.hid (by omega)
  have HA : Hid ((if c = k + 1 then some ⟨g, 0, none⟩ else some ⟨g, k + 1, none⟩ : Option Addr) = if c = k + 1 then some ⟨g, 0, none⟩ else (some (⟨g, 0, none⟩ : Addr)).map (·.add ((k + 1) * (Kd.int .i64).sz))) := by
    show _ = if c = k + 1 then some _ else some (Addr.add _ ((k + 1) * 1))
    rw [Nat.mul_one, Addr.add_lit, Nat.zero_add]
  clear hR ho hB hel
  go_enter Try.func35, Try.ntmps35
  go_wp2_with fail
  go_region_law (refine Kd.R_delete_step (Kd.int .i64) (w0 := w) base rfl (.tmp 22) (.tmp 25) 23 3 rfl Try.underlying23 infoI (g := g) (n := m + 1) (c := c) (k := k) (m := m - k) (A := if c = k + 1 then some ⟨g, 0, none⟩ else some ⟨g, k + 1, none⟩) (c2 := c - (k + 1)) (by simp [Act.eval, Act.put]) (by simp [Act.eval, Act.put]) HA.out HMK.out HR.out hk HB.out hbase ?_; intro w1 hR1 hB1 hg1)
  have ho1 := Kd.own_of_R hR1
  rw [HEL.out, Nat.add_sub_cancel] at ho1
  have hcl := clear_last ho1 hml
  have ho2 := own_past ho1 (.int .i64 0) (Nat.le_refl _)
  have HO2 := Lib.hid ho2
  have HB1 := Lib.hid hB1
  clear hR1 hB1 hg1 ho1 ho2
  go_wp2
  all_goals
    go_ret
    first | exact ⟨rfl, HO2.out, HB1.out.setCell hbg _⟩ | (rename_i h; subst h; exact ⟨rfl, HO2.out, HB1.out.setCell hbg _⟩)
theorem delete_at {w : World} {base g c k : Nat} {xs : List Int} (ho : w.ownsRow base 3 1 (.slice (some ⟨g, 0, none⟩) xs.length c) xs.length (nums .i64 xs)) (hk : k < xs.length) :
    Calls Try.prog 35 #[.slice (some ⟨g, 0, none⟩) xs.length c, .int .i64 k, .int .i64 ((k : Int) + 1)] w fun e w' => e = .returned (.slice (some ⟨g, 0, none⟩) (xs.eraseIdx k).length c) ∧ w'.ownsRow base 3 1 (.slice (some ⟨g, 0, none⟩) (xs.eraseIdx k).length c) (xs.eraseIdx k).length (nums .i64 (xs.eraseIdx k)) ∧ Below base w w' := by
  obtain ⟨m, hm⟩ : ∃ m, xs.length = m + 1 := ⟨xs.length - 1, by omega⟩
  have hel : (xs.eraseIdx k).length = m := by rw [List.length_eraseIdx_of_lt (by omega), hm]; rfl
  rw [hel]
  rw [hm] at ho hk ⊢
  exact delete_any hm ho hk
end Go.Proofs.Ytfeablchjlkjiaa
