/-
  WALKS over package solver, eighth part: Solve.
-/
import Derived.Test.YtfeablchjlkjiaaSolvG
namespace Go.Proofs.Ytfeablchjlkjiaa
open Go.RowKit Go.Proofs.YtfeablchjlkjiaaW.PrintWords Go.Proofs.YtfeablchjlkjiaaW.PrintMore

theorem infoI8 : (Try.prog.info? 67).map (fun i => (i.zero, i.size, i.bytes)) = some (some (.int .i8 0), 1, 1) := by kernel_rfl
/-- make([]int8, m). -/
theorem make_i8 (m : Nat) (hm : m ≤ 131071) (W : World) : (Instr.makeSlice 62 (.int .i64 (m : Int)) (.int .i64 (m : Int))).run Try.prog W = .ok (.slice (some ⟨W.heap.size, 0, none⟩) m m) (W.alloc (.cells (madeCells #[.int .i8 0] m) 67)) := by
  obtain ⟨i0, hi, hzz⟩ := Option.map_eq_some_iff.1 infoI8
  simp only [Prod.mk.injEq] at hzz
  obtain ⟨hz0, hz1, hz2⟩ := hzz
  have h := run_makeSlice (P := Try.prog) (w := W) 62 67 i0 (.int .i8 0) Try.underlying62 hi hz0 .i64 .i64 m m (by omega) (Int.le_refl _) (by rw [hz1]; omega) (by rw [hz2]; omega) (by omega)
  rw [hz1, Nat.mul_one, Int.toNat_natCast] at h
  exact h
theorem lits_of {m : Nat} {cl : List (List Int)} {pf : List Int} (h : Sv.litsOK m (cl ++ [pf]) = 0) : Sv.Lits m cl pf := by
  rw [Sv.litsOK] at h
  split at h
  · rename_i h0
    have hall := List.all_eq_true.1 h0
    have one : ∀ c ∈ cl ++ [pf], ∀ l ∈ c, Sv.LitN m l := fun c hc l hl => (rightL_iff m l).1 (List.all_eq_true.1 (hall c hc) l hl)
    exact ⟨fun c hc => one c (List.mem_append_left _ hc), one pf (by simp)⟩
  · cases h
theorem madeCells_i8 (m : Nat) : madeCells #[.int .i8 0] m = ((List.replicate m (0 : Int)).map (Value.int .i8)).toArray := by
  apply Array.ext
  · simp [size_madeCells]
  · intro i h1 h2
    simp [madeCells, Nat.mod_one]

/-- What run leaves where the answer is told. -/
theorem found_kind (R : Sv.Res) : R.found.verdict = R.kind := by cases R <;> rfl
theorem found_steps (R : Sv.Res) : R.found.steps = R.looks := by cases R <;> rfl

theorem infoBool : (Try.prog.info? 4).map (fun i => (i.zero, i.size, i.bytes)) = some (some (.bool false), 1, 1) := by kernel_rfl
theorem one_bool (b : Bool) : ∀ u ∈ [Value.bool b], u.oneCell' = true := by
  intro u hu
  rw [List.mem_singleton.1 hu]
  rfl
/-- Where k values have been told. -/
structure Told (w : World) (fb vb : Nat) (v : List Int) (st : Int) (k : Nat) (vv : Value) (wr : World) : Prop where
  blk : wr.heap[fb]? = some (.cells #[.int .i64 1, vv, .int .i64 st] 28 (0, 0))
  res : wr.heap[w.heap.size]? = some (.cells #[.int .i64 0, .slice none 0 0, .int .i64 0] 28 (0, 0))
  val : wr.heap[vb]? = some (.cells (v.map (Value.int .i8)).toArray 67 (0, 0))
  own : wr.ownsRow w.heap.size 4 1 vv k (((v.take k).map (fun x => decide (0 < x))).map Value.bool)
  below : Below w.heap.size w wr
  ne : fb ≠ w.heap.size
theorem Told.next {w wr w1 : World} {fb vb : Nat} {v : List Int} {st : Int} {k : Nat} {vv v1 : Value} (h : Told w fb vb v st k vv wr) (hk : k < v.length)
    (ho : w1.ownsRow w.heap.size 4 1 v1 (k + 1) (((v.take k).map (fun x => decide (0 < x))).map Value.bool ++ [.bool (decide (0 < v.getD k 0))])) (hg : wr.grownBy w1 vv.ownBlock) (hfb : w.heap.size ≤ fb) :
    Told w fb vb v st (k + 1) v1 (w1.setCell ⟨fb, 1, none⟩ v1) := by
  have h1 := blk_grown h.blk hg (own_ne h.own h.blk (by decide))
  have h2 := blk_grown h.res hg (own_ne h.own h.res (by decide))
  have h3 := blk_grown h.val hg (own_ne h.own h.val (by decide))
  refine ⟨blk_set h1 1 v1, blk_far h2 (p := ⟨fb, 1, none⟩) (Ne.symm h.ne) v1, blk_far h3 (p := ⟨fb, 1, none⟩) (blk_ne h3 h1 (by decide)) v1, ?_, ?_, h.ne⟩
  · have e : ((v.take (k + 1)).map (fun x => decide (0 < x))).map Value.bool = ((v.take k).map (fun x => decide (0 < x))).map Value.bool ++ [.bool (decide (0 < v.getD k 0))] := by
      rw [List.take_succ_eq_append_getElem hk, List.map_append, List.map_append]
      simp [List.getD, hk]
    rw [e]
    exact own_setCell (p := ⟨fb, 1, none⟩) ho (own_ne ho h1 (by decide)) v1
  · exact (h.below.trans ((Below.refl _ _).grown hg h.below.size (own_base h.own))).setCell (p := ⟨fb, 1, none⟩) hfb v1

theorem sizeFound : (Try.prog.info? 28).map (·.size) = some 3 := by kernel_rfl
theorem sizeProblem : (Try.prog.info? 59).map (·.size) = some 4 := by kernel_rfl

/-- An answer of Solve: its values are a new row. -/
def SolvePost (r : Sv.Found × Int) (w : World) (e : Ending) (w' : World) : Prop :=
  ∃ vv, e = .returned (.tuple #[.agg #[.int .i64 r.1.verdict, vv, .int .i64 r.1.steps], .int .i64 r.2]) ∧ Kd.bool.R 4 w' w.heap.size (fun _ => True) vv r.1.values ∧ Below w.heap.size w w'

set_option maxRecDepth 100000 in
set_option maxHeartbeats 1600000 in
theorem solve_any {w : World} {n bud : Int} {A B : Option Addr} {c d : Nat} {cl : List (List Int)} {pf : List Int} (hcl : KRows.C w A cl.length cl) (hcc : cl.length ≤ c) (hpf : (Kd.int .i64).C w B pf.length pf) (hpc : pf.length ≤ d) (hb : cl.length * 24 ≤ 140737488351232) :
    Calls Try.prog 13 #[.int .i64 n, .slice A cl.length c, .slice B pf.length d, .int .i64 bud] w (SolvePost (Sv.solve n cl pf bud) w) := by
  have HC := Lib.hid hcl
  have HP := Lib.hid hpf
  clear hcl hpf
  go_enter Try.func13, Try.ntmps13
  go_wp2_with fail
  generalize hwa : (w.alloc _).alloc _ = wa at *
  have hba : Below w.heap.size w wa := by rw [← hwa]; exact ((Below.refl _ _).alloc (Nat.le_refl _) _).alloc (by simp) _
  have hrb : wa.heap[w.heap.size]? = some (.cells #[.int .i64 0, .slice none 0 0, .int .i64 0] 28 (0, 0)) := by rw [← hwa, Below.heap_alloc _ _ _ (by simp)]; exact heap_alloc_new w _
  have hpb : wa.heap[w.heap.size + 1]? = some (.cells #[.int .i64 n, .slice A cl.length c, .slice B pf.length d, .int .i64 bud] 59 (0, 0)) := by rw [← hwa]; have := heap_alloc_new (w.alloc (.cells #[.int .i64 0, .slice none 0 0, .int .i64 0] 28)) (.cells #[.int .i64 n, .slice A cl.length c, .slice B pf.length d, .int .i64 bud] 59); simpa using this
  generalize hrbq : w.heap.size = rb at *
  have HWA := Lib.hid hba
  have HRB := Lib.hid hrb
  have HPB := Lib.hid hpb
  have HRBQ := Lib.hid hrbq
  clear hwa hba hrb hpb hrbq
  refine (check_any (Kd.C_below HC.out (HRBQ.out ▸ HWA.out)) (Kd.C_below HP.out (HRBQ.out ▸ HWA.out)) hpc hb).mono ?_
  rintro e w2 ⟨rfl, hb2⟩
  have hlt : rb + 1 < wa.heap.size := blk_lt HPB.out
  have hrb2 : w2.heap[rb]? = _ := (hb2.block rb (by omega)).trans HRB.out
  have hpb2 : w2.heap[rb + 1]? = _ := (hb2.block (rb + 1) (by omega)).trans HPB.out
  have HB2 := Lib.hid (HWA.out.trans (hb2.mono (by omega)))
  by_cases hchk : Sv.check n cl pf bud = 0
  · have HSOL := Lib.hid (show Sv.solve n cl pf bud = _ by rw [Sv.solve, if_pos hchk])
    have hn : 0 ≤ n ∧ n ≤ 131071 ∧ 0 ≤ bud ∧ bud ≤ 1152921504606846976 := by
      rw [Sv.check] at hchk
      split at hchk
      · cases hchk
      · omega
    obtain ⟨hn0, hn1, hn2, hn3⟩ := hn
    have hlits : Sv.litsOK n (cl ++ [pf]) = 0 := by
      rw [Sv.check, if_neg (by omega)] at hchk
      exact hchk
    have HLITS := Lib.hid hlits
    rw [hchk]
    have p0 := cell_blk hpb2 0
    have p1 := cell_blk hpb2 1
    have p2 := cell_blk hpb2 2
    have p3 := cell_blk hpb2 3
    have hlt2 := blk_lt hpb2
    have HRB2 := Lib.hid hrb2
    have HPB2 := Lib.hid hpb2
    clear hlits hchk hrb2 hpb2 hb2
    obtain ⟨m, rfl⟩ := Int.eq_ofNat_of_zero_le hn0
    have hmk := make_i8 m (by omega)
    go_wp2_with fail
    go_region
    all_goals go_wp2_with fail
    have HPA := Kd.C_below HP.out (HRBQ.out.symm ▸ HB2.out : Below w.heap.size w w2)
    have HCA := Kd.C_below HC.out (HRBQ.out.symm ▸ HB2.out : Below w.heap.size w w2)
    generalize hw3 : World.drew _ = w3 at *
    have hb3 : Below w2.heap.size w2 w3 := by rw [← hw3]; exact (((Below.refl _ _).alloc (Nat.le_refl _) _).alloc (by simp) _).drew
    have his : IsSome w2.heap.size w3 (w2.heap.size + 1) ⟨(m : Int), .slice A cl.length c, .slice B pf.length d, bud⟩ ⟨List.replicate m 0, [], [], 0⟩ := by
      rw [← hw3]
      refine ⟨w2.heap.size, .slice none 0 0, .slice none 0 0, IsS.drew ⟨⟨?_, ?_⟩, own_nil _ _ _ _, own_nil _ _ _ _, by omega, Nat.le_refl _, by simp; omega⟩⟩
      · have h := heap_alloc_new (w2.alloc (.cells (madeCells #[.int .i8 0] m) 67)) (.cells #[.int .i64 (m : Int), .slice A cl.length c, .slice B pf.length d, .int .i64 bud, .slice (some ⟨w2.heap.size, 0, none⟩) m m, .slice none 0 0, .slice none 0 0, .int .i64 0] 65)
        simpa using h
      · rw [Below.heap_alloc _ _ _ (by simp)]
        rw [heap_alloc_new w2 (.cells (madeCells #[.int .i8 0] m) 67), madeCells_i8]
    have hpb : PbAt w2 ⟨(m : Int), .slice A cl.length c, .slice B pf.length d, bud⟩ m cl pf := ⟨rfl, by omega, ⟨A, c, rfl, hcc, HCA⟩, ⟨B, d, rfl, hpc, HPA⟩, lits_of HLITS.out, hn3⟩
    have hrun := run_any hpb his hb3 (Sv.RunAt.start m cl pf bud hn2)
    rw [Int.toNat_natCast] at HSOL
    generalize hR : Sv.go cl pf bud (m + 1) (List.replicate m 0) 0 = R at *
    have hRlen : ∀ v st, R = .sat v st → v.length = m := fun v st h => Sv.go_sat_length cl pf bud (m + 1) _ 0 v st (by simp) (hR.trans h)
    have HRUN := Lib.hid hrun
    have HRLEN := Lib.hid hRlen
    have HB3 := Lib.hid hb3
    clear hRlen hw3 hb3 his hpb hrun hR HPA HCA p0 p1 p2 p3
    refine HRUN.out.mono ?_
    rintro e w4 ⟨s', rfl, hs4, hst4, hvs4, hb4⟩
    have hrb4 : w4.heap[rb]? = _ := ((HB3.out.trans hb4).block rb (by omega)).trans HRB2.out
    have HRB4 := Lib.hid hrb4
    have HB4 : Hid (Below rb w w4) := HB2.out.trans ((HB3.out.trans hb4).mono (by omega))
    obtain ⟨vb, tv, cv, hs4⟩ := hs4
    have hg4 := hs4.at_.cell
    have g4 := hg4 4
    have g7 := hg4 7
    have h4b := hs4.gb
    have c40 := cell_blk hrb4 0
    have c41 := cell_blk hrb4 1
    have c42 := cell_blk hrb4 2
    have f4 := blk_frozen hrb4
    have hsz4 : w2.heap.size + 1 < w4.heap.size := blk_lt hs4.at_.blk
    have hsz5 : rb < w4.heap.size := by omega
    have HS4 := Lib.hid hs4
    have HRBB := Lib.hid hrb4
    clear hs4 hrb4 hb4 hg4
    cases R with
    | unsat st =>
      have hst : s'.steps = st := hst4
      rw [hst] at g7
      have HST := Lib.hid hst
      clear hst hst4 hvs4
      dsimp only [Sv.Res.kind]
      go_wp2_with fail
      exact bodyPost_ret (v := .tuple #[.agg #[.int .i64 2, .slice none 0 0, .int .i64 st], .int .i64 0]) (results_list (rs := [.cell 8 28, .tmp 9]) rfl (by simp) (.cell rb 28 #[.int .i64 2, .slice none 0 0, .int .i64 st] (0, 0) _ rfl ((Below.heap_alloc _ _ _ (by simpa [World.setCell] using hsz5)).trans (blk_set (blk_set (blk_set HRBB.out 0 _) 1 _) 2 _)) Try.underlying28 rfl sizeFound (.tmp .nil))) rfl (by
        rw [HSOL.out]
        refine ⟨_, rfl, Kd.R_nil _ _ _ _ _, ?_⟩
        rw [HRBQ.out]
        exact (((HB4.out.setCell (p := ⟨rb, 0, none⟩) (Nat.le_refl _) _).setCell (p := ⟨rb, 1, none⟩) (Nat.le_refl _) _).setCell (p := ⟨rb, 2, none⟩) (Nat.le_refl _) _).alloc (by simp [World.setCell]; omega) _)
    | spent st =>
      have hst : s'.steps = st := hst4
      rw [hst] at g7
      have HST := Lib.hid hst
      clear hst hst4 hvs4
      dsimp only [Sv.Res.kind]
      go_wp2_with fail
      exact bodyPost_ret (v := .tuple #[.agg #[.int .i64 3, .slice none 0 0, .int .i64 st], .int .i64 0]) (results_list (rs := [.cell 8 28, .tmp 9]) rfl (by simp) (.cell rb 28 #[.int .i64 3, .slice none 0 0, .int .i64 st] (0, 0) _ rfl ((Below.heap_alloc _ _ _ (by simpa [World.setCell] using hsz5)).trans (blk_set (blk_set (blk_set HRBB.out 0 _) 1 _) 2 _)) Try.underlying28 rfl sizeFound (.tmp .nil))) rfl (by
        rw [HSOL.out]
        refine ⟨_, rfl, Kd.R_nil _ _ _ _ _, ?_⟩
        rw [HRBQ.out]
        exact (((HB4.out.setCell (p := ⟨rb, 0, none⟩) (Nat.le_refl _) _).setCell (p := ⟨rb, 1, none⟩) (Nat.le_refl _) _).setCell (p := ⟨rb, 2, none⟩) (Nat.le_refl _) _).alloc (by simp [World.setCell]; omega) _)
    | sat v st =>
      have hst : s'.steps = st := hst4
      have hvs : s'.vals = v := hvs4 v st rfl
      rw [hst] at g7
      rw [hvs] at g4
      have hval : w4.heap[vb]? = some (.cells (v.map (Value.int .i8)).toArray 67 (0, 0)) := by rw [← hvs]; exact HS4.out.at_.val
      have htold : Told w w4.heap.size vb v st 0 (.slice none 0 0) (w4.alloc (.cells #[.int .i64 1, .slice none 0 0, .int .i64 st] 28)) := by
        refine ⟨heap_alloc_new w4 _, ?_, (Below.heap_alloc _ _ _ (blk_lt hval)).trans hval, own_nil _ _ _ _, ?_, ?_⟩
        · rw [HRBQ.out]; exact (Below.heap_alloc _ _ _ hsz5).trans HRBB.out
        · rw [HRBQ.out]; exact HB4.out.alloc (by omega) _
        · rw [HRBQ.out]; omega
      have hvlen := HRLEN.out v st rfl
      have hvl : v.length ≤ 131071 := by omega
      have HT := Lib.hid htold
      clear hvlen hst hst4 hvs hvs4 hval htold
      dsimp only [Sv.Res.kind]
      go_wp2_with fail
      have hfb : w.heap.size ≤ w4.heap.size := by rw [HRBQ.out]; omega
      generalize hfq : w4.heap.size = fb at *
      clear hfq
      go_loopw [49] (fun i wr => ∃ (k : Nat) (vv : Value), k ≤ v.length ∧ i = .int .i64 k ∧ Told w fb vb v st k vv wr) (fun i _ => v.length - (intOf i).toNat)
      case atStart => exact ⟨0, _, Nat.zero_le _, rfl, HT.out⟩
      case round =>
        obtain ⟨k, vv, hk, rfl, ht⟩ := hrel
        by_cases hlt : k < v.length
        · have hc : wr.cell? ⟨vb, k, none⟩ = some (.int .i8 (v.getD k 0)) := by rw [cell_blk ht.val]; simp [hlt]
          have hf1 : wr.cell? ⟨fb, 1, none⟩ = some vv := cell_blk ht.blk 1
          have hnext := fun w1 v1 => Told.next (w1 := w1) (v1 := v1) ht hlt
          generalize v.getD k 0 = x at *
          have HTR := Lib.hid ht
          have HNEXT := Lib.hid hnext
          obtain ⟨vA, vc, hvv⟩ := own_slice ht.own
          subst hvv
          clear ht hnext
          by_cases hx : 0 < x
          · have hdx : decide (0 < x) = true := decide_eq_true hx
            rw [hdx] at HNEXT
            have hl1 : (k + 1) * 1 ≤ 140737488355328 := by omega
            have hby : 0 < 1 := by decide
            clear hdx
            go_wp2_with (at_builtin; refine print_append_cells (w0 := w) w.heap.size rfl _ _ 26 4 (.bool false) 1 1 rfl Try.underlying26 infoBool rfl hby hby (.slice vA k vc) k _ [.bool true] rfl rfl rfl (one_bool _) HTR.out.own HTR.out.below HTR.out.below.size hl1 ?_; intro v1 w1 hown1 hB1 hg1 hat1; obtain ⟨A1, c1, rfl⟩ := own_slice hown1; have hn1 := HNEXT.out w1 _ hown1 hg1 hfb; have hb1 := blk_grown HTR.out.blk hg1 (own_ne HTR.out.own HTR.out.blk (by decide)); have g1 := cell_blk hb1 1; have f1 := blk_frozen hb1 1; have HN1 := Lib.hid hn1; clear hn1 hb1 hown1 hg1 hat1 hB1)
            go_roundw
            case rel => exact ⟨k + 1, _, by omega, by go_num, HN1.out⟩
            case measure => simp [intOf]; omega
          · have hdx : decide (0 < x) = false := decide_eq_false hx
            rw [hdx] at HNEXT
            have hl1 : (k + 1) * 1 ≤ 140737488355328 := by omega
            have hby : 0 < 1 := by decide
            clear hdx
            go_wp2_with (at_builtin; refine print_append_cells (w0 := w) w.heap.size rfl _ _ 26 4 (.bool false) 1 1 rfl Try.underlying26 infoBool rfl hby hby (.slice vA k vc) k _ [.bool false] rfl rfl rfl (one_bool _) HTR.out.own HTR.out.below HTR.out.below.size hl1 ?_; intro v1 w1 hown1 hB1 hg1 hat1; obtain ⟨A1, c1, rfl⟩ := own_slice hown1; have hn1 := HNEXT.out w1 _ hown1 hg1 hfb; have hb1 := blk_grown HTR.out.blk hg1 (own_ne HTR.out.own HTR.out.blk (by decide)); have g1 := cell_blk hb1 1; have f1 := blk_frozen hb1 1; have HN1 := Lib.hid hn1; clear hn1 hb1 hown1 hg1 hat1 hB1)
            go_roundw
            case rel => exact ⟨k + 1, _, by omega, by go_num, HN1.out⟩
            case measure => simp [intOf]; omega
        · have htb := ht.blk
          obtain rfl : k = v.length := by omega
          obtain ⟨vA, vc, hvv⟩ := own_slice ht.own
          subst hvv
          have t0 := cell_blk htb 0
          have t1 := cell_blk htb 1
          have t2 := cell_blk htb 2
          have r0 := cell_blk ht.res 0
          have r1 := cell_blk ht.res 1
          have r2 := cell_blk ht.res 2
          have rf := blk_frozen ht.res
          have hrbq := HRBQ.out
          rw [hrbq] at r0 r1 r2 rf
          have HTR := Lib.hid ht
          clear ht htb hrbq
          go_wp2_with fail
          have hblk3 := blk_set (blk_set (blk_set (HRBQ.out ▸ HTR.out.res) 0 (.int .i64 1)) 1 (.slice vA v.length vc)) 2 (.int .i64 st)
          exact bodyPost_ret (v := .tuple #[.agg #[.int .i64 1, .slice vA v.length vc, .int .i64 st], .int .i64 0]) (results_list (rs := [.cell 8 28, .tmp 9]) rfl (by simp) (.cell rb 28 #[.int .i64 1, .slice vA v.length vc, .int .i64 st] (0, 0) _ rfl hblk3 Try.underlying28 rfl sizeFound (.tmp .nil))) rfl (by
            rw [HSOL.out]
            refine ⟨_, rfl, ?_, ?_⟩
            · have ho := HTR.out.own
              rw [List.take_of_length_le (Nat.le_refl _)] at ho
              refine Kd.R_of_own (enc := Value.bool) ?_ (fun _ _ => trivial)
              have hb := HTR.out.res
              have h1 := own_setCell (p := ⟨rb, 0, none⟩) ho (HRBQ.out ▸ own_ne ho hb (by decide)) (.int .i64 1)
              have h2 := own_setCell (p := ⟨rb, 1, none⟩) h1 (HRBQ.out ▸ own_ne ho hb (by decide)) (.slice vA v.length vc)
              have h3 := own_setCell (p := ⟨rb, 2, none⟩) h2 (HRBQ.out ▸ own_ne ho hb (by decide)) (.int .i64 st)
              simpa [encs, Sv.Res.found] using h3
            · have hb := HTR.out.below
              exact ((hb.setCell (p := ⟨rb, 0, none⟩) (Nat.le_of_eq HRBQ.out) _).setCell (p := ⟨rb, 1, none⟩) (Nat.le_of_eq HRBQ.out) _).setCell (p := ⟨rb, 2, none⟩) (Nat.le_of_eq HRBQ.out) _)
  · have hne : (Sv.check n cl pf bud != 0) = true := by simp [hchk]
    have hsol : Sv.solve n cl pf bud = (⟨0, [], 0⟩, Sv.check n cl pf bud) := by rw [Sv.solve, if_neg hchk]
    have HSOL := Lib.hid hsol
    generalize Sv.check n cl pf bud = er at *
    have c0 := cell_blk hrb2 0
    have c1 := cell_blk hrb2 1
    have c2 := cell_blk hrb2 2
    have f0 := blk_frozen hrb2
    have HRB2 := Lib.hid hrb2
    have HPB2 := Lib.hid hpb2
    clear hsol hchk hrb2 hpb2 hb2
    go_wp2_with fail
    exact bodyPost_ret (v := .tuple #[.agg #[.int .i64 0, .slice none 0 0, .int .i64 0], .int .i64 er]) (results_list (rs := [.cell 8 28, .tmp 9]) rfl (by simp) (.cell rb 28 #[.int .i64 0, .slice none 0 0, .int .i64 0] (0, 0) _ rfl (blk_set (blk_set (blk_set HRB2.out 0 _) 1 _) 2 _) Try.underlying28 rfl sizeFound (.tmp .nil))) rfl (by
      rw [HSOL.out]
      refine ⟨_, rfl, Kd.R_nil _ _ _ _ _, ?_⟩
      rw [HRBQ.out]
      exact ((HB2.out.setCell (p := ⟨rb, 0, none⟩) (Nat.le_refl _) _).setCell (p := ⟨rb, 1, none⟩) (Nat.le_refl _) _).setCell (p := ⟨rb, 2, none⟩) (Nat.le_refl _) _)
end Go.Proofs.Ytfeablchjlkjiaa
