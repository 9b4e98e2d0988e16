/-
  THE LAW 'RIGHT', WALKED: the answers of the solver are right, and the budget is kept.
-/
import Derived.Test.YtfeablchjlkjiaaSlawG
import Derived.Deep.CutBlock
import Derived.Deep.DeepCutAuto
namespace Go.Proofs.Ytfeablchjlkjiaa
open Go.RowKit Go.Proofs.YtfeablchjlkjiaaW.PrintWords

/-- An answer in a block of its own. -/
structure FoundAt (w : World) (g : Nat) (A : Option Addr) (c : Nat) (F : Sv.Found) : Prop where
  blk : w.heap[g]? = some (.cells #[.int .i64 F.verdict, .slice A F.values.length c, .int .i64 F.steps] 28 (0, 0))
  reads : Kd.bool.C w A F.values.length F.values
theorem FoundAt.below {w w1 : World} {g : Nat} {A : Option Addr} {c : Nat} {F : Sv.Found} (h : FoundAt w g A c F) (hb : Below w.heap.size w w1) : FoundAt w1 g A c F := ⟨(hb.block _ (blk_lt h.blk)).trans h.blk, Kd.C_below h.reads hb⟩
theorem FoundAt.new {w : World} {A : Option Addr} {c : Nat} {F : Sv.Found} (h : Kd.bool.C w A F.values.length F.values) : FoundAt (w.alloc (.cells #[.int .i64 F.verdict, .slice A F.values.length c, .int .i64 F.steps] 28)) w.heap.size A c F :=
  ⟨heap_alloc_new w _, Kd.C_below h ((Below.refl _ _).alloc (Nat.le_refl _) _)⟩
theorem FoundAt.c0 {w : World} {g : Nat} {A : Option Addr} {c : Nat} {F : Sv.Found} (h : FoundAt w g A c F) : w.cell? ⟨g, 0, none⟩ = some (.int .i64 F.verdict) := cell_blk h.blk 0
theorem FoundAt.c1 {w : World} {g : Nat} {A : Option Addr} {c : Nat} {F : Sv.Found} (h : FoundAt w g A c F) : w.cell? ⟨g, 1, none⟩ = some (.slice A F.values.length c) := cell_blk h.blk 1
theorem FoundAt.c2 {w : World} {g : Nat} {A : Option Addr} {c : Nat} {F : Sv.Found} (h : FoundAt w g A c F) : w.cell? ⟨g, 2, none⟩ = some (.int .i64 F.steps) := cell_blk h.blk 2
/-- An answer that is not written yet. -/
abbrev zFound : Obj := .cells #[.int .i64 0, .slice none 0 0, .int .i64 0] 28
theorem FoundAt.put {w : World} {zb base : Nat} {A : Option Addr} {c : Nat} {F : Sv.Found} {ok : Nat → Prop} (hz : w.heap[zb]? = some zFound) (hR : Kd.bool.R 4 w base ok (.slice A F.values.length c) F.values) :
    FoundAt (((w.setCell ⟨zb, 0, none⟩ (.int .i64 F.verdict)).setCell ⟨zb, 1, none⟩ (.slice A F.values.length c)).setCell ⟨zb, 2, none⟩ (.int .i64 F.steps)) zb A c F := by
  have h1 := blk_set hz 0 (.int .i64 F.verdict)
  have h2 := blk_set h1 1 (.slice A F.values.length c)
  have h3 := blk_set h2 2 (.int .i64 F.steps)
  have nt : ∀ q, q ∈ 4 :: Kd.bool.E → q ≠ 28 := by
    intro q hq
    have : q = 4 := by
      rcases List.mem_cons.1 hq with h | h
      · exact h
      · exact nomatch h
    rw [this]
    decide
  have r1 := Kd.R_set hR hz nt 0 (.int .i64 F.verdict)
  have r2 := Kd.R_set r1 h1 nt 1 (.slice A F.values.length c)
  have r3 := Kd.R_set r2 h2 nt 2 (.int .i64 F.steps)
  refine ⟨by simpa using h3, ?_⟩
  obtain ⟨A', c', he, _, hC⟩ := Kd.R_reads r3
  cases he
  exact hC
theorem new_kept {w w1 : World} {o : Obj} (h : Below (w.alloc o).heap.size (w.alloc o) w1) : w1.heap[w.heap.size]? = some o := (h.block _ (by simp)).trans (heap_alloc_new w o)
theorem below_set3 {n zb : Nat} {a w : World} (h : Below n a w) (hz : n ≤ zb) (x y z : Value) : Below n a (((w.setCell ⟨zb, 0, none⟩ x).setCell ⟨zb, 1, none⟩ y).setCell ⟨zb, 2, none⟩ z) := ((h.setCell hz x).setCell hz y).setCell hz z
theorem below_new (w : World) (o : Obj) : Below w.heap.size w (w.alloc o) := (Below.refl _ _).alloc (Nat.le_refl _) _

set_option maxRecDepth 100000 in
set_option maxHeartbeats 1600000 in
theorem right_law_any {w : World} {n bud more : Int} {A B C : Option Addr} {c d f : Nat} {cl : List (List Int)} {pf : List Int} {cand : List Bool} (_ : (Lit.int .i64 n).wf = true) (hcl : RowsArg w A c cl) (hpf : IntsArg w B d pf) (_ : (Lit.int .i64 bud).wf = true) (hcand : Kd.bool.C w C cand.length cand) (hmore : (Lit.int .i64 more).wf = true) :
    Calls Try.prog 4 #[.int .i64 n, .slice A cl.length c, .slice B pf.length d, .int .i64 bud, .slice C cand.length f, .int .i64 more] w fun e w' => e = .returned (.bool true) ∧ Below w.heap.size w w' := by
  have HC := Lib.hid hcl
  have HP := Lib.hid hpf
  have HD := Lib.hid hcand
  have HMO := Lib.hid hmore
  clear hcl hpf hcand hmore
  go_enter Try.func4, Try.ntmps4
  go_wp2_with fail
  refine (twin_any HC.out.reads HC.out.small).mono ?_
  rintro e w1 ⟨hb, cap, fb, fc, cells, rfl, ht, hb1⟩
  have hp1 := HP.out.below hb1
  have HP1 := Lib.hid hp1
  have HT := Lib.hid ht
  have HB1 := Lib.hid hb1
  have HS := Lib.hid HC.out.small
  clear ht hb1 hp1
  go_wp2_with fail
  refine (lent_any HP1.out.reads HP1.out.small).mono ?_
  rintro e w2 ⟨b, bc, rfl, hl, hb2⟩
  have hsol := solve_twin (n := n) (bud := bud) HT.out HS.out hb2 hl (Below.refl _ _)
  have HB2 := Lib.hid (HB1.out.trans (hb2.mono HB1.out.size))
  have HSOL := Lib.hid hsol
  clear hl hb2 HP1 HT HB1 hsol
  go_wp2_with fail
  refine HSOL.out.mono ?_
  rintro e w3 ⟨vv, rfl, hR, hb3⟩
  have HB3 := Lib.hid (HB2.out.trans (hb3.mono HB2.out.size))
  obtain ⟨vA, vc, hv, hvc, hCv⟩ := Kd.R_reads hR
  subst hv
  have HCV := Lib.hid hCv
  clear HSOL hb3 HB2 hR hCv
  generalize hr : Sv.solve n cl pf bud = r at *
  obtain ⟨⟨vd, vs, st⟩, er⟩ := r
  have HR := Lib.hid hr
  clear hr
  dsimp only at *
  go_wp2_with fail
  have hF : FoundAt (w3.alloc (.cells #[.int .i64 vd, .slice vA vs.length vc, .int .i64 st] 28)) w3.heap.size vA vc ⟨vd, vs, st⟩ := FoundAt.new (F := ⟨vd, vs, st⟩) HCV.out
  have hb4 := HB3.out.trans ((below_new w3 (.cells #[.int .i64 vd, .slice vA vs.length vc, .int .i64 st] 28)).mono HB3.out.size)
  generalize World.alloc _ _ = w4 at *
  generalize w3.heap.size = g at *
  refine (lives_any _).mono ?_
  rintro e w5 ⟨rfl, hb5⟩
  have HF := Lib.hid (hF.below hb5)
  have HB5 := Lib.hid (hb4.trans (hb5.mono hb4.size))
  clear hF hb4 hb5 HCV HB3
  go_wp2_with fail
  have hc5 := HC.out.below HB5.out
  have hp5 := HP.out.below HB5.out
  refine (problem_any hc5.reads hp5.reads hp5.cap hc5.small.hdr).mono ?_
  rintro e w6 ⟨rfl, hb6⟩
  have HF6 := Lib.hid (HF.out.below hb6)
  have HB6 := Lib.hid (HB5.out.trans (hb6.mono HB5.out.size))
  clear hc5 hp5 hb6 HF HB5
  generalize hpv : problemL n cl pf bud = pv
  have HPV := Lib.hid hpv
  clear hpv
  have c0 := HF6.out.c0
  have c1 := HF6.out.c1
  have c2 := HF6.out.c2
  cases pv with
  | false =>
    obtain ⟨e', he, hne⟩ := Sv.solve_not HPV.out
    have hR := HR.out
    rw [he] at hR
    obtain ⟨h1, rfl⟩ := Prod.mk.inj hR
    obtain ⟨rfl, rfl, rfl⟩ := Sv.Found.mk.inj h1
    have hne2 : (e' == 0) = false := beq_eq_false_iff_ne.2 hne
    clear hR h1 he
    dsimp only at *
    go_wp2_with fail
    refine (found_true (c := vc) (d := 0) (xs := []) HF6.out.reads ⟨rfl, by simp, fun h => absurd h (Nat.lt_irrefl _)⟩).mono ?_
    rintro e w7 ⟨rfl, hb7⟩
    go_wp2_with fail
    have hne3 : (e' != 0) = true := by rw [bne, hne2]; rfl
    rw [hne3]
    go_ret
    exact ⟨rfl, HB6.out.trans (hb7.mono HB6.out.size)⟩
  | true =>
    obtain ⟨m, F, rfl, hri⟩ := Sv.solve_right HPV.out
    have hR := HR.out
    rw [hri.is] at hR
    obtain ⟨hF, rfl⟩ := Prod.mk.inj hR
    subst hF
    have hlo := hri.lo
    have hhi := hri.hi
    have hm := hri.prob.small
    have hbl := hri.prob.lo
    have hbh := hri.prob.hi
    have HRI := Lib.hid hri
    clear hri hR HR HPV
    dsimp only at *
    go_upto_block 0 with fail
    go_cut [] (fun wc => Below w6.heap.size w6 wc)
    case first =>
      rcases HRI.out.kinds with ⟨h1, h2, h3⟩ | ⟨h1, h2, h3⟩ | ⟨h1, h2, h3⟩
      · dsimp only at h1 h2 h3
        subst h1
        subst h2
        have hmod := model_any (c := c) (d := vc) (HC.out.below HB6.out).reads HF6.out.reads HRI.out.prob.lits.cl
        dsimp only at hmod
        rw [h3] at hmod
        have HMOD := Lib.hid hmod
        clear hmod h3
        go_wp2_with fail
        refine HMOD.out.mono ?_
        rintro e w' ⟨rfl, rfl⟩
        go_wp2_with fail
        go_meet
        case rel => exact Below.refl _ _
      · dsimp only at h1 h2 h3
        subst h1
        subst h2
        have hpad := padded_any (c := f) (n := m) (Kd.C_below HD.out HB6.out) hm
        have HPAD := Lib.hid hpad
        have HNO := Lib.hid h3
        clear hpad h3
        go_wp2_with fail
        refine HPAD.out.mono ?_
        rintro e w7 ⟨A', c', rfl, hR, hb7⟩
        obtain ⟨A2, c2', he, _, hpc⟩ := Kd.R_reads hR
        have hlen := paddedL_length cand m
        have hno := HNO.out (paddedL cand m)
        have hc7 := (HC.out.below (HB6.out.trans (hb7.mono HB6.out.size)))
        generalize paddedL cand m = vals at *
        cases he
        have hmod := model_any (c := c) (d := c') hc7.reads hpc HRI.out.prob.lits.cl
        rw [hno] at hmod
        have HMOD := Lib.hid hmod
        have HB7 := Lib.hid hb7
        clear hmod hR hpc hc7 hno hlen HNO HPAD hb7
        go_wp2_with fail
        refine HMOD.out.mono ?_
        rintro e w' ⟨rfl, rfl⟩
        go_wp2_with fail
        go_meet
        case rel => exact HB7.out
      · dsimp only at h1 h2 h3
        subst h1
        subst h2
        subst h3
        go_wp2_with fail
        go_meet
        case rel => exact Below.refl _ _
    case rest =>
      have HFC := Lib.hid (HF6.out.below hcut)
      have HBC := Lib.hid (HB6.out.trans (hcut.mono HB6.out.size))
      clear HF6 HB6 hcut c0 c1 c2
      have c0 := HFC.out.c0
      have c1 := HFC.out.c1
      have c2 := HFC.out.c2
      dsimp only at c0 c1 c2
      go_wp2_with fail
      have K0 : Hid (wc.drew.cell? ⟨g, 2, none⟩ = some (.int .i64 st)) := c2
      have HBD : Hid (Below w.heap.size w wc.drew) := HBC.out.drew
      have HFD : Hid (FoundAt wc.drew g vA vc ⟨vd, vs, st⟩) := HFC.out.below (Below.refl _ _).drew
      have hsame := HRI.out.same
      dsimp only at hsame
      have HSAME := Lib.hid hsame
      clear hsame
      have s0 : wc.drew.cell? ⟨g, 2, none⟩ = some (.int .i64 st) := K0.out
      have s0a : ((wc.alloc zFound).drew).cell? ⟨g, 2, none⟩ = some (.int .i64 st) := pw_cell_below (below_new wc.drew zFound) K0.out
      go_region_held3 (fun w' => w'.cell? ⟨g, 2, none⟩ = some (.int .i64 st)) (with_reducible assumption)
        (first
         | (go_at_call 10; (with_reducible show Calls _ _ _ wc.drew _); refine (twin_any (w := wc.drew) (HC.out.below HBD.out).reads HC.out.small).mono ?_; rintro e w8 ⟨hb', cap', fb', fc', cells', rfl, ht, hb8⟩; have s8 : w8.cell? ⟨g, 2, none⟩ = some (.int .i64 st) := pw_cell_below hb8 K0.out; have s8a : (w8.alloc zFound).cell? ⟨g, 2, none⟩ = some (.int .i64 st) := pw_cell_below (below_new w8 zFound) s8)
         | (go_at_call 10; rw [show (wc.alloc zFound).drew = wc.drew.alloc zFound from rfl]; (with_reducible show Calls _ _ _ (wc.drew.alloc _) _); refine (twin_any (w := wc.drew.alloc zFound) (HC.out.below (HBD.out.alloc HBD.out.size zFound)).reads HC.out.small).mono ?_; rintro e w8 ⟨hb', cap', fb', fc', cells', rfl, ht, hb8'⟩; have hb8 := (below_new wc.drew zFound).trans (hb8'.mono (by simp)); have hz8 : w8.heap[wc.heap.size]? = some zFound := new_kept (w := wc.drew) hb8'; have hge8 : wc.drew.heap.size ≤ wc.heap.size := Nat.le_refl _; clear hb8'; have s8 : w8.cell? ⟨g, 2, none⟩ = some (.int .i64 st) := pw_cell_below hb8 K0.out)
         | (go_at_call 12; (with_reducible show Calls _ _ _ w8 _); refine (lent_any (w := w8) (HP.out.below (HBD.out.trans (hb8.mono HBD.out.size))).reads HP.out.small).mono ?_; rintro e w9 ⟨b', bc', rfl, hl, hb9⟩; (try (have hz9 := (hb9.block _ (blk_lt hz8)).trans hz8; have hge9 := hge8)); have s9 : w9.cell? ⟨g, 2, none⟩ = some (.int .i64 st) := pw_cell_below hb9 s8; have s9a : (w9.alloc zFound).cell? ⟨g, 2, none⟩ = some (.int .i64 st) := pw_cell_below (below_new w9 zFound) s9)
         | (go_at_call 12; (with_reducible show Calls _ _ _ (w8.alloc _) _); refine (lent_any (w := w8.alloc zFound) (HP.out.below ((HBD.out.trans (hb8.mono HBD.out.size)).alloc (HBD.out.trans (hb8.mono HBD.out.size)).size zFound)).reads HP.out.small).mono ?_; rintro e w9 ⟨b', bc', rfl, hl, hb9'⟩; have hb9 := (below_new w8 zFound).trans (hb9'.mono (by simp)); have hz9 := new_kept hb9'; have hge9 : wc.drew.heap.size ≤ w8.heap.size := hb8.size; clear hb9'; have s9 : w9.cell? ⟨g, 2, none⟩ = some (.int .i64 st) := pw_cell_below hb9 s8)
         | (go_at_call 13; (with_reducible show Calls _ _ _ w9 _); have hsol := solve_twin (n := m) (bud := st) ht HS.out hb9 hl (Below.refl _ _); rw [HSAME.out] at hsol; refine hsol.mono ?_; clear hsol; rintro e w10 ⟨vv, rfl, hR, hb10⟩; obtain ⟨uA, uc, hv, huc, hCu⟩ := Kd.R_reads hR; subst hv; dsimp only; have hbz := hb8.trans ((hb9.trans (hb10.mono hb9.size)).mono hb8.size); (try (have hz10 := (hb10.block _ (blk_lt hz9)).trans hz9; have hzf := blk_frozen hz10; have hz0 := cell_blk hz10 0; have hz1 := cell_blk hz10 1; have hz2 := cell_blk hz10 2; have hge10 := hge9; have s10c := pw_cell_below (below_set3 hbz hge10 (.int .i64 vd) (.slice uA vs.length uc) (.int .i64 st)) K0.out)); have s10 : w10.cell? ⟨g, 2, none⟩ = some (.int .i64 st) := pw_cell_below hb10 s9; have s10a : (w10.alloc zFound).cell? ⟨g, 2, none⟩ = some (.int .i64 st) := pw_cell_below (below_new w10 zFound) s10; have s10b : (w10.alloc (.cells #[.int .i64 vd, .slice uA vs.length uc, .int .i64 st] 28)).cell? ⟨g, 2, none⟩ = some (.int .i64 st) := pw_cell_below (below_new w10 _) s10)
         | (go_at_call 13; (with_reducible show Calls _ _ _ (w9.alloc _) _); have hsol := solve_twin (n := m) (bud := st) ht HS.out hb9 hl (below_new w9 zFound); rw [HSAME.out] at hsol; refine hsol.mono ?_; clear hsol; rintro e w10 ⟨vv, rfl, hR, hb10'⟩; obtain ⟨uA, uc, hv, huc, hCu⟩ := Kd.R_reads hR; subst hv; dsimp only; have hb10 := (below_new w9 zFound).trans (hb10'.mono (by simp)); have hz10 := new_kept hb10'; clear hb10'; have hzf := blk_frozen hz10; have hz0 := cell_blk hz10 0; have hz1 := cell_blk hz10 1; have hz2 := cell_blk hz10 2; have hbz := hb8.trans ((hb9.trans (hb10.mono hb9.size)).mono hb8.size); have hge10 : wc.drew.heap.size ≤ w9.heap.size := Nat.le_trans hb8.size hb9.size; have s10c := pw_cell_below (below_set3 hbz hge10 (.int .i64 vd) (.slice uA vs.length uc) (.int .i64 st)) K0.out; have s10 : w10.cell? ⟨g, 2, none⟩ = some (.int .i64 st) := pw_cell_below hb10 s9))
      all_goals
        first
          | (have hfw := FoundAt.put (F := ⟨vd, vs, st⟩) hz10 hR
             have hbw := below_set3 hbz hge10 (.int .i64 vd) (.slice uA vs.length uc) (.int .i64 st)
             dsimp only at hfw
             generalize (((World.setCell w10 _ _).setCell _ _).setCell _ _) = W at *)
          | (have hfw := FoundAt.new (c := uc) (F := ⟨vd, vs, st⟩) hCu
             have hbw := hbz.trans ((below_new w10 (.cells #[.int .i64 vd, .slice uA vs.length uc, .int .i64 st] 28)).mono hbz.size)
             dsimp only at hfw
             generalize World.alloc w10 (.cells #[.int .i64 vd, .slice uA vs.length uc, .int .i64 st] 28) = W at *)
        have HFB := Lib.hid hfw
        have HFA := Lib.hid (HFD.out.below hbw)
        have HBW := Lib.hid (HBD.out.trans (hbw.mono HBD.out.size))
        have hft := found_true (c := vc) (d := uc) (v := vd) (s := st) HFA.out.reads HFB.out.reads
        have HFT := Lib.hid hft
        have a0 := HFA.out.c0
        have a1 := HFA.out.c1
        have a2 := HFA.out.c2
        have d0 := HFB.out.c0
        have d1 := HFB.out.c1
        have d2 := HFB.out.c2
        dsimp only at a0 a1 a2 d0 d1 d2
        clear hfw hbw hft hb8 hb9 hb10 hR hCu ht hl c0 c1 c2 HFC HBC K0 HBD HFD
        go_wp2_with fail
        refine HFT.out.mono ?_
        rintro e w11 ⟨rfl, hb11⟩
        have HFA1 := Lib.hid (HFA.out.below hb11)
        have HB11 := Lib.hid (HBW.out.trans (hb11.mono HBW.out.size))
        clear HFT HFA HFB a0 a1 a2 d0 d1 d2 hb11 HBW
        by_cases g1 : more < 0
        · go_wp2_with fail
          go_ret
          exact ⟨rfl, HB11.out⟩
        by_cases g2 : 1000 < more
        · go_wp2_with fail
          go_ret
          exact ⟨rfl, HB11.out⟩
        by_cases g3 : 1152921504606845976 < bud
        · go_wp2_with fail
          go_ret
          exact ⟨rfl, HB11.out⟩
        have hsum : wrap64 (bud + more) = bud + more := by unfold wrap64; omega
        go_wp2_with fail
        refine (twin_any (HC.out.below HB11.out).reads HC.out.small).mono ?_
        rintro e w12 ⟨hb2, cap2, fb2, fc2, cells2, rfl, ht, hb12⟩
        have HT := Lib.hid ht
        have HB12 := Lib.hid (HB11.out.trans (hb12.mono HB11.out.size))
        have HFA2 := Lib.hid (HFA1.out.below hb12)
        clear ht hb12 HB11 HFA1
        go_wp2_with fail
        refine (lent_any (HP.out.below HB12.out).reads HP.out.small).mono ?_
        rintro e w13 ⟨b2, bc2, rfl, hl, hb13⟩
        have hsol := solve_twin (n := m) (bud := bud + more) HT.out HS.out hb13 hl (Below.refl _ _)
        obtain ⟨G, hG, hGF⟩ := HRI.out.more (bud + more) (by omega) (by omega)
        rw [hG] at hsol
        have HSOL := Lib.hid hsol
        have HB13 := Lib.hid (HB12.out.trans (hb13.mono HB12.out.size))
        have HFA3 := Lib.hid (HFA2.out.below hb13)
        have HGF := Lib.hid hGF
        clear hl hb13 hsol HT HB12 HFA2 hG hGF
        go_wp2_with fail
        (try rw [hsum])
        refine HSOL.out.mono ?_
        rintro e w14 ⟨vv, rfl, hR, hb14⟩
        obtain ⟨yA, yc, hv, hyc, hCy⟩ := Kd.R_reads hR
        subst hv
        have hfy := FoundAt.new (c := yc) (F := G) hCy
        have hbn := below_new w14 (.cells #[.int .i64 G.verdict, .slice yA G.values.length yc, .int .i64 G.steps] 28)
        have HFY := Lib.hid hfy
        have HFA4 := Lib.hid ((HFA3.out.below hb14).below hbn)
        have HB14 := Lib.hid (HB13.out.trans ((hb14.trans (hbn.mono hb14.size)).mono HB13.out.size))
        clear HSOL hR hb14 hCy HB13 HFA3 hfy hbn
        have d0 := HFA4.out.c0
        have d1 := HFA4.out.c1
        have d2 := HFA4.out.c2
        have y0 := HFY.out.c0
        have y1 := HFY.out.c1
        have y2 := HFY.out.c2
        dsimp only at d0 d1 d2
        by_cases g4 : vd = 3
        · subst g4
          go_wp2_with fail
          go_ret
          exact ⟨rfl, HB14.out⟩
        · obtain rfl := HGF.out g4
          have g5 : (vd == 3) = false := beq_eq_false_iff_ne.2 g4
          have hft := found_true (c := vc) (d := yc) (v := vd) (s := st) HFA4.out.reads HFY.out.reads
          have HFT := Lib.hid hft
          clear hft
          dsimp only at *
          go_wp2_with fail
          refine HFT.out.mono ?_
          rintro e w15 ⟨rfl, hb15⟩
          have HB15 := Lib.hid (HB14.out.trans (hb15.mono HB14.out.size))
          clear hb15 HFT HFA4 HFY d0 d1 d2 y0 y1 y2
          go_wp2_with fail
          (try simp only [g5])
          go_ret
          exact ⟨rfl, HB15.out⟩
end Go.Proofs.Ytfeablchjlkjiaa
