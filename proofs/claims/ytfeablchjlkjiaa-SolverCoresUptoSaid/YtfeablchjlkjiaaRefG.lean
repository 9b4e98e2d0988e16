/-
  THE DOCUMENT's SOLVER, WALKED: Solve.
-/
import Derived.Test.YtfeablchjlkjiaaRefF
import Derived.Test.YtfeablchjlkjiaaSlawH
namespace Go.Proofs.Ytfeablchjlkjiaa
open Go.RowKit Go.Proofs.YtfeablchjlkjiaaW.PrintWords

theorem make_vals (m : Nat) (hm : m ≤ 131071) (W : World) : (Instr.makeSlice 72 (.int .i64 (m : Int)) (.int .i64 (m : Int))).run Try.prog W = .ok (.slice (some ⟨W.heap.size, 0, none⟩) m m) (W.alloc (.cells (madeCells #[.int .i64 0] m) 3)) := by
  obtain ⟨i0, hi, hzz⟩ := Option.map_eq_some_iff.1 infoInt
  simp only [Prod.mk.injEq] at hzz
  obtain ⟨hz0, hz1, hz2⟩ := hzz
  have h := run_makeSlice (P := Try.prog) (w := W) 72 3 i0 (.int .i64 0) Try.underlying72 hi hz0 .i64 .i64 m m (by omega) (Int.le_refl _) (by rw [hz1]; omega) (by rw [hz2]; omega) (by omega)
  rw [hz1, Nat.mul_one, Int.toNat_natCast] at h
  exact h
theorem madeCells_int (m : Nat) : madeCells #[.int .i64 0] m = ((List.replicate m (0 : Int)).map (Value.int .i64)).toArray := by
  apply Array.ext
  · simp [size_madeCells]
  · intro i h1 h2
    simp [madeCells, Nat.mod_one]
theorem encs3_start (m : Nat) : Sv.encs3 (List.replicate m 0) = List.replicate m 0 := by simp [Sv.encs3, Sv.enc]
theorem vown_made (W : World) (m : Nat) (hm : m ≤ 131071) (base : Nat) (hb : base ≤ W.heap.size) : VOwn (W.alloc (.cells (madeCells #[.int .i64 0] m) 3)) base W.heap.size m (List.replicate m 0) := by
  have h := own_lit W base 3 .i64 (List.replicate m (0 : Int)) hb (by simp; omega)
  rw [madeCells_int]
  unfold VOwn
  rw [encs3_start]
  simpa [nums] using h

theorem own_mono_base {w : World} {b0 b1 n size : Nat} {e : TypeId} {x : Value} {cs : List Value} (h : w.ownsRow b1 e size x n cs) (hb : b0 ≤ b1) : w.ownsRow b0 e size x n cs := by
  obtain ⟨h1, h2⟩ := h
  refine ⟨h1, ?_⟩
  rcases h2 with h2 | ⟨g, cap, cur, he, hg, r⟩
  · exact .inl h2
  · exact .inr ⟨g, cap, cur, he, Nat.le_trans hb hg, r⟩

set_option maxRecDepth 100000 in
set_option maxHeartbeats 3200000 in
theorem rsolve_any {w : World} {n bud : Int} {A B : Option Addr} {c d : Nat} {cl : List (List Int)} {pf : List Int} (hcl : KRows.C w A cl.length cl) (hpf : (Kd.int .i64).C w B pf.length pf) :
    Calls Try.prog 14 #[.int .i64 n, .slice A cl.length c, .slice B pf.length d, .int .i64 bud] w (SolvePost (Sv.solve n cl pf bud) w) := by
  have hb0 := below_new w zFound
  have hrf := rrefused_any (n := n) (bud := bud) (c := c) (d := d) (Kd.C_below hcl hb0) (Kd.C_below hpf hb0)
  have hbz : (w.alloc zFound).heap[w.heap.size]? = some zFound := heap_alloc_new w zFound
  by_cases hck : Sv.check n cl pf bud = 0
  · have hprob : problemL n cl pf bud = true := decide_eq_true hck
    obtain ⟨m, rfl, hp⟩ := Sv.prob_of hprob
    have hm := hp.small
    have hlo := hp.lo
    have hhi := hp.hi
    rw [hck] at hrf
    have HP := Lib.hid hp
    have HCL := Lib.hid hcl
    have HPF := Lib.hid hpf
    have HRF := Lib.hid hrf
    have HB0 := Lib.hid hb0
    have HBZ := Lib.hid hbz
    clear hp hcl hpf hrf hprob hck hb0 hbz
    go_enter Try.func14, Try.ntmps14
    go_wp2_with fail
    refine HRF.out.mono ?_
    rintro e w1 ⟨rfl, hw1⟩
    generalize World.alloc _ _ = wa at *
    subst hw1
    have hmk := fun W => make_vals m hm W
    have hcl1 := Kd.C_below HCL.out HB0.out
    have hpf1 := Kd.C_below HPF.out HB0.out
    obtain ⟨w2, hw2⟩ : ∃ w2, w2 = w1.alloc (.cells #[.slice A cl.length c, .slice B pf.length d, .int .i64 bud, .int .i64 0, .bool false] 71) := ⟨_, rfl⟩
    have hsz2 : w2.heap.size = w1.heap.size + 1 := by rw [hw2]; simp
    have hr3 : RAt w1 (w2.alloc (.cells (madeCells #[.int .i64 0] m) 3)) w1.heap.size A B c d cl pf bud 0 false := by
      refine ⟨?_, Nat.le_refl _, ?_, hcl1, hpf1⟩
      · rw [Below.heap_alloc _ _ _ (by omega), hw2]
        exact heap_alloc_new w1 _
      · rw [hw2]
        exact ((Below.refl _ _).alloc (Nat.le_refl _) _).alloc (by simp) _
    have hv3 := vown_made w2 m hm w1.heap.size (by omega)
    rw [hsz2] at hv3
    have hfrom := rfrom_any HP.out.lits hm hhi (m + 1) _ (w1.heap.size + 1) m (List.replicate m 0) 0 (by simp) (by rw [Sv.openN_start]; omega) hr3 hv3 (by omega) (Sv.Tri3.start m) (Int.le_refl _) hlo
    have hlr : (List.replicate m (0 : Int)).length = m := by simp
    rw [hlr] at hfrom
    have hsol := HP.out.solve
    rw [Sv.start] at hsol
    have hsatl := fun v s => Sv.go_sat_length (n := m) cl pf bud (m + 1) (List.replicate m 0) 0 v s (by simp)
    have hsatt := fun v s h => (Sv.go_sat HP.out.lits bud (m + 1) (List.replicate m 0) 0 v s (by simp) (Sv.Tri3.start m) h).2.2
    generalize Sv.go cl pf bud (m + 1) (List.replicate m 0) 0 = R at *
    generalize Sv.solve m cl pf bud = sv at *
    subst hsol
    rw [hw2] at hfrom
    have HFROM := Lib.hid hfrom
    have HSATL := Lib.hid hsatl
    have HSATT := Lib.hid hsatt
    have hz1 := blk_lt HBZ.out
    clear hcl1 hpf1 hr3 hv3 hlr hfrom hsatl hsatt hw2 hsz2 HCL HPF HRF
    go_wp2_with fail
    refine HFROM.out.mono ?_
    rintro e w4 ⟨⟨mv, ok, rfl, hok, hsat⟩, hat, hkp⟩
    have hz4 := (hat.below.block _ hz1).trans HBZ.out
    have HB4 := Lib.hid (HB0.out.trans (hat.below.mono HB0.out.size))
    have z0 := cell_blk hz4 0
    have z1 := cell_blk hz4 1
    have z2 := cell_blk hz4 2
    have zf := blk_frozen hz4
    have e3 := hat.cell 3
    have e4 := hat.cell 4
    have hgl := blk_lt hat.blk
    generalize w1.heap.size = g at *
    have HOK := Lib.hid hok
    have HSAT := Lib.hid hsat
    have HAT := Lib.hid hat
    have HZ4 := Lib.hid hz4
    clear hok hsat hat hkp HFROM hz4 HBZ HB0 hmk
    cases R with
    | spent s =>
      dsimp only [Sv.Res.isSpent, Sv.Res.looks] at e3 e4 HAT
      obtain rfl : ok = false := by
        cases ok with
        | false => rfl
        | true => obtain ⟨_, _, e⟩ := HOK.out.1 rfl; cases e
      go_wp2_with fail
      exact bodyPost_ret (v := .tuple #[.agg #[.int .i64 3, .slice none 0 0, .int .i64 s], .int .i64 0]) (results_list (rs := [.cell 8 28, .tmp 9]) rfl (by simp) (.cell w.heap.size 28 #[.int .i64 3, .slice none 0 0, .int .i64 s] (0, 0) _ rfl (blk_set (blk_set (blk_set HZ4.out 0 _) 1 _) 2 _) Try.underlying28 rfl sizeFound (.tmp .nil))) rfl (by
        refine ⟨_, rfl, Kd.R_nil _ _ _ _ _, ?_⟩
        exact below_set3 HB4.out (Nat.le_refl _) _ _ _)
    | unsat s =>
      dsimp only [Sv.Res.isSpent, Sv.Res.looks] at e3 e4 HAT
      obtain rfl : ok = false := by
        cases ok with
        | false => rfl
        | true => obtain ⟨_, _, e⟩ := HOK.out.1 rfl; cases e
      go_wp2_with fail
      exact bodyPost_ret (v := .tuple #[.agg #[.int .i64 2, .slice none 0 0, .int .i64 s], .int .i64 0]) (results_list (rs := [.cell 8 28, .tmp 9]) rfl (by simp) (.cell w.heap.size 28 #[.int .i64 2, .slice none 0 0, .int .i64 s] (0, 0) _ rfl (blk_set (blk_set (blk_set HZ4.out 0 _) 1 _) 2 _) Try.underlying28 rfl sizeFound (.tmp .nil))) rfl (by
        refine ⟨_, rfl, Kd.R_nil _ _ _ _ _, ?_⟩
        exact below_set3 HB4.out (Nat.le_refl _) _ _ _)
    | sat v s =>
      dsimp only [Sv.Res.isSpent, Sv.Res.looks] at e3 e4 HAT
      obtain rfl : ok = true := HOK.out.2 ⟨_, _, rfl⟩
      obtain ⟨b2, c2, rfl, hv4, hbg⟩ := HSAT.out v s rfl
      have hvl : v.length = m := HSATL.out v s rfl
      have htri := HSATT.out v s rfl
      have hcells := vown_cells hv4
      have hval : ∀ k, decide (Sv.enc (v.getD k 0) = 1) = decide (0 < v.getD k 0) := fun k => by
        rcases enc_is (htri k) with ⟨h1, h2⟩ | ⟨h1, h2⟩ | ⟨h1, h2⟩
        · rw [h1, decide_eq_true h2]; rfl
        · rw [h1, h2]; rfl
        · rw [h1, decide_eq_false (by omega : ¬(0 < v.getD k 0))]; rfl
      have HCELLS := Lib.hid hcells
      have HVAL := Lib.hid hval
      have HVL := Lib.hid hvl
      have hrep : (Sv.Res.sat v s).found = ⟨1, Sv.told v, s⟩ := rfl
      rw [hrep]
      have HREP := Lib.hid hrep
      have hblt := hv4.lt
      clear hcells hval htri hv4 hbg HSAT HOK HSATL HSATT hrep HP
      go_wp2_with fail
      go_loopw [14, 15] (fun vv i wr => ∃ (k : Nat), k ≤ m ∧ i = .int .i64 k ∧ Hid (wr.ownsRow w4.heap.size 4 1 vv k (((Sv.told v).take k).map Value.bool)) ∧ Hid (Below w4.heap.size w4 wr)) (fun _ i _ => m - (intOf i).toNat)
      case atStart => exact ⟨0, Nat.zero_le _, rfl, Lib.hid (own_nil _ _ _ _), Lib.hid (Below.refl _ _)⟩
      case round =>
        obtain ⟨k, hk, rfl, HO, HB⟩ := hrel
        obtain ⟨vA, vc, rfl⟩ := own_slice HO.out
        by_cases hlt : k < m
        · have hl1 : (k + 1) * 1 ≤ 140737488355328 := by omega
          have hby : 0 < 1 := by decide
          have hc0 := HCELLS.out k (by rw [hvl]; exact hlt)
          have hcell : wr.cell? ⟨b2, k, none⟩ = _ := pw_cell_below HB.out hc0
          have hx := HVAL.out k
          have hsn : (Sv.told v).take (k + 1) = (Sv.told v).take k ++ [decide (0 < v.getD k 0)] := by
            rw [← Sv.told_get, List.take_add_one]
            have : k < (Sv.told v).length := by rw [Sv.told_length, hvl]; exact hlt
            simp [List.getD, this]
          rw [← hx] at hsn
          generalize Sv.enc (v.getD k 0) = x at *
          by_cases gx : x = 1
          · rw [decide_eq_true gx] at hsn
            have HSN := Lib.hid hsn
            clear hc0 hx hsn
            subst gx
            go_wp2_with (at_builtin; refine print_append_cells (w0 := w4) w4.heap.size rfl (.tmp 58) (.tmp 64) 26 4 (.bool false) 1 1 rfl Try.underlying26 infoBool rfl hby hby (.slice vA k vc) k _ [.bool true] rfl rfl rfl (one_bool _) HO.out HB.out HB.out.size hl1 ?_; intro v1 wq hown1 hB1 hg1 hat1; have HO1 := Lib.hid hown1; have HB1 := Lib.hid hB1; clear hown1 hB1 hg1 hat1)
            go_roundw
            case rel => exact ⟨k + 1, by omega, by go_num, Lib.hid (by rw [HSN.out, List.map_append]; exact HO1.out), HB1⟩
            case measure => simp [intOf]; omega
          · rw [decide_eq_false gx] at hsn
            have HSN := Lib.hid hsn
            have gx2 : (x == 1) = false := beq_eq_false_iff_ne.2 gx
            clear hc0 hx hsn
            go_wp2_with (at_builtin; refine print_append_cells (w0 := w4) w4.heap.size rfl (.tmp 58) (.tmp 64) 26 4 (.bool false) 1 1 rfl Try.underlying26 infoBool rfl hby hby (.slice vA k vc) k _ [.bool false] rfl rfl rfl (one_bool _) HO.out HB.out HB.out.size hl1 ?_; intro v1 wq hown1 hB1 hg1 hat1; have HO1 := Lib.hid hown1; have HB1 := Lib.hid hB1; clear hown1 hB1 hg1 hat1)
            go_roundw
            case rel => exact ⟨k + 1, by omega, by go_num, Lib.hid (by rw [HSN.out, List.map_append]; exact HO1.out), HB1⟩
            case measure => simp [intOf]; omega
        · obtain rfl : k = m := by omega
          have hz5 := (HB.out.block _ (blk_lt HZ4.out)).trans HZ4.out
          have y0 := cell_blk hz5 0
          have y1 := cell_blk hz5 1
          have y2 := cell_blk hz5 2
          have yf := blk_frozen hz5
          have HZ5 := Lib.hid hz5
          have hat5 := HAT.out.grown HB.out
          have x3 := hat5.cell 3
          have hfull : (Sv.told v).take k = Sv.told v := List.take_of_length_le (by rw [Sv.told_length, hvl]; exact Nat.le_refl _)
          rw [hfull] at HO
          clear hz5 hat5 hfull
          go_wp2_with fail
          exact bodyPost_ret (v := .tuple #[.agg #[.int .i64 1, .slice vA k vc, .int .i64 s], .int .i64 0]) (results_list (rs := [.cell 8 28, .tmp 9]) rfl (by simp) (.cell w.heap.size 28 #[.int .i64 1, .slice vA k vc, .int .i64 s] (0, 0) _ rfl (blk_set (blk_set (blk_set HZ5.out 0 _) 1 _) 2 _) Try.underlying28 rfl sizeFound (.tmp .nil))) rfl (by
            have ho := own_mono_base HO.out HB4.out.size
            have h1 := own_setCell (p := ⟨w.heap.size, 0, none⟩) ho (own_ne ho HZ5.out (by decide)) (.int .i64 1)
            have h2 := own_setCell (p := ⟨w.heap.size, 1, none⟩) h1 (own_ne ho HZ5.out (by decide)) (.slice vA k vc)
            have h3 := own_setCell (p := ⟨w.heap.size, 2, none⟩) h2 (own_ne ho HZ5.out (by decide)) (.int .i64 s)
            have hlen : (Sv.told v).length = k := by rw [Sv.told_length, hvl]
            refine ⟨_, rfl, Kd.R_of_own (enc := Value.bool) (by show World.ownsRow _ _ _ _ _ (Sv.told v).length (encs Value.bool (Sv.told v)); rw [hlen]; exact h3) (fun _ _ => trivial), ?_⟩
            exact below_set3 (HB4.out.trans (HB.out.mono HB4.out.size)) (Nat.le_refl _) _ _ _)
  · have hsv : Sv.solve n cl pf bud = (⟨0, [], 0⟩, Sv.check n cl pf bud) := by rw [Sv.solve, if_neg hck]
    rw [hsv]
    generalize Sv.check n cl pf bud = e at *
    have h2 : (e == 0) = false := beq_eq_false_iff_ne.2 hck
    have h3 : (e != 0) = true := by rw [bne, h2]; rfl
    clear hcl hpf hsv hck
    have HRF := Lib.hid hrf
    have HB0 := Lib.hid hb0
    have HBZ := Lib.hid hbz
    clear hrf hb0 hbz
    go_enter Try.func14, Try.ntmps14
    go_wp2_with fail
    refine HRF.out.mono ?_
    rintro e w1 ⟨rfl, hw1⟩
    generalize World.alloc _ _ = wa at *
    subst hw1
    have z0 := cell_blk HBZ.out 0
    have z1 := cell_blk HBZ.out 1
    have z2 := cell_blk HBZ.out 2
    have zf := blk_frozen HBZ.out
    go_wp2_with fail
    exact bodyPost_ret (v := .tuple #[.agg #[.int .i64 0, .slice none 0 0, .int .i64 0], .int .i64 e]) (results_list (rs := [.cell 8 28, .tmp 9]) rfl (by simp) (.cell w.heap.size 28 #[.int .i64 0, .slice none 0 0, .int .i64 0] (0, 0) _ rfl (blk_set (blk_set (blk_set HBZ.out 0 _) 1 _) 2 _) Try.underlying28 rfl sizeFound (.tmp .nil))) rfl (by
      refine ⟨_, rfl, Kd.R_nil _ _ _ _ _, ?_⟩
      exact below_set3 HB0.out (Nat.le_refl _) _ _ _)
end Go.Proofs.Ytfeablchjlkjiaa
