/-
  THE DOCUMENT's CORE, WALKED: chosen, without.
  THE DOCUMENT's CORE, WALKED: once, Core.
  THE DOCUMENT's CORE, WALKED: Core.
-/
import Derived.Test.YtfeablchjlkjiaaCoreC
namespace Go.Proofs.Ytfeablchjlkjiaa
open Go.RowKit Go.Proofs.YtfeablchjlkjiaaW.PrintWords Go.Proofs.YtfeablchjlkjiaaW.PrintMore

set_option maxRecDepth 100000 in
set_option maxHeartbeats 1600000 in
theorem rchosen_any {w : World} {A B : Option Addr} {c d : Nat} {cl : List (List Int)} {l : List Int} {but : Int} (hcl : KRows.C w A cl.length cl) (hl : (Kd.int .i64).C w B l.length l) (hin : ∀ x ∈ l, 0 ≤ x ∧ x < cl.length) (hsm : l.length ≤ 1048576) :
    Calls Try.prog 51 #[.slice A cl.length c, .slice B l.length d, .int .i64 but] w fun e w' => ∃ v, e = .returned v ∧ (FRows w).R 23 w' w.heap.size (fun _ => True) v (Sv.pick cl (Sv.lacks l but)) ∧ Below w.heap.size w w' := by
  have HC := Lib.hid hcl
  have HL := Lib.hid hl
  have HIN := Lib.hid hin
  clear hcl hl hin
  go_enter Try.func51, Try.ntmps51
  go_wp2_with fail
  go_loopw [7, 8] (fun rv iv wr => ∃ (j m : Nat) (B1 : Option Addr) (d1 : Nat), rv = .slice B1 m d1 ∧ Hid (m = (Sv.lacks (l.take j) but).length) ∧ m ≤ j ∧ j ≤ l.length ∧ iv = .int .i64 j ∧ Hid ((FRows w).R 23 wr w.heap.size (fun _ => True) rv (Sv.pick cl (Sv.lacks (l.take j) but))) ∧ Hid (Below w.heap.size w wr)) (fun _ iv _ => l.length - (intOf iv).toNat)
  case atStart => exact ⟨0, 0, none, 0, rfl, rfl, Nat.le_refl _, Nat.zero_le _, rfl, Lib.hid (Kd.R_nil _ _ _ _ _), Lib.hid (Below.refl _ _)⟩
  case round =>
    obtain ⟨j, m, B1, d1, rfl, HM, hmj, hj, rfl, HR, HB⟩ := hrel
    by_cases hlt : j < l.length
    · obtain ⟨ad, rfl, hcell0⟩ := Kd.at_int HL.out j (by omega) (by omega)
      rw [Int.toNat_natCast] at hcell0
      have hcell := pw_cell_below HB.out hcell0
      have hin := HIN.out _ (rd_mem_of hlt)
      have hn := Sv.lacks_take l but j hlt
      have hx : l.getD j 0 = rd l (j : Int) := by rw [rd, Int.toNat_natCast]
      rw [hx] at hn
      generalize rd l (j : Int) = x at *
      by_cases hbut : x = but
      · subst hbut
        rw [if_pos rfl] at hn
        have HN := Lib.hid hn
        clear hn hin hcell0 hx
        go_wp2_with fail
        go_roundw
        case rel => exact ⟨j + 1, m, B1, d1, rfl, by rw [HN.out]; exact HM, by omega, by omega, by go_num, by rw [HN.out]; exact HR, HB⟩
        case measure => simp [intOf]; omega
      · have hb2 : (x == but) = false := beq_eq_false_iff_ne.2 hbut
        have hb3 : (x != but) = true := by rw [bne, hb2]; rfl
        rw [if_neg hbut] at hn
        obtain ⟨h0, h1⟩ := hin
        obtain ⟨q, rfl⟩ := Int.eq_ofNat_of_zero_le h0
        have hq : q < cl.length := by omega
        obtain ⟨ad2, A0, c0, rfl, hcl0, hrl, hrow⟩ := rows_at HC.out q hq
        have hcl1 := pw_cell_below HB.out hcl0
        have hpk : Sv.pick cl (Sv.lacks (l.take (j + 1)) but) = Sv.pick cl (Sv.lacks (l.take j) but) ++ [cl.getD q []] := by rw [hn, Sv.pick, List.map_append]; rfl
        have hnl : m + 1 = (Sv.lacks (l.take (j + 1)) but).length := by rw [hn, List.length_append, ← HM.out]; rfl
        generalize cl.getD q [] = row at *
        have hpl : (Sv.pick cl (Sv.lacks (l.take j) but)).length = m := by rw [Sv.pick_length, ← HM.out]
        have HPL := Lib.hid hpl
        have HROW := Lib.hid hrow
        have HPK := Lib.hid hpk
        have HNL := Lib.hid hnl
        have hby : 0 < 24 := by decide
        have HLE : Hid (((Sv.pick cl (Sv.lacks (l.take j) but)).length + 1) * 24 ≤ 140737488355328) := Lib.hid (by rw [hpl]; omega)
        clear hcell0 hcl0 hrow hpk hnl hn h0 h1 hpl hx
        go_wp2_with (at_builtin; refine Kd.R_append (FRows w) (w0 := w) w.heap.size rfl _ _ 22 23 (.slice none 0 0) 24 rfl Try.underlying22 infoRow rfl (Nat.succ_pos 0) hby (.slice B1 m d1) (Sv.pick cl (Sv.lacks (l.take j) but)) row [.slice A0 row.length c0] (fun _ => True) (fun k => some k ≠ (Value.slice B1 m d1).ownBlock) rfl rfl ⟨A0, c0, rfl, hrl, HROW.out⟩ (fun k h => ⟨trivial, h⟩) (fun _ _ => trivial) HR.out HB.out HB.out.size HLE.out ?_; intro v2 w6 hR6 hB6 hG6 hA6; obtain ⟨B6, d6, hv6⟩ := own_slice (Kd.R_own hR6).choose_spec; have HR6 := Lib.hid hR6; have HB6 := Lib.hid hB6; have HV6 := Lib.hid hv6; clear hR6 hB6 hG6 hA6 hv6)
        go_roundw
        case rel =>
          refine ⟨j + 1, m + 1, B6, d6, ?_, HNL, by omega, by omega, by go_num, ?_, HB6⟩
          · rw [HV6.out, List.length_append, HPL.out]; rfl
          · rw [HPK.out]; exact HR6
        case measure => simp [intOf]; omega
    · have hjl : j = l.length := by omega
      have hR : Hid ((FRows w).R 23 wr w.heap.size (fun _ => True) (.slice B1 m d1) (Sv.pick cl (Sv.lacks l but))) := by
        have h := HR
        rw [hjl, List.take_length] at h
        exact h
      clear hjl
      go_wp2_with fail
      go_ret
      exact ⟨_, rfl, hR.out, HB.out⟩

set_option maxRecDepth 100000 in
set_option maxHeartbeats 1600000 in
theorem without_any {w : World} {B : Option Addr} {d : Nat} {l : List Int} {but : Int} (hl : (Kd.int .i64).C w B l.length l) (hsm : l.length ≤ 1048576) :
    Calls Try.prog 52 #[.slice B l.length d, .int .i64 but] w fun e w' => ∃ v, e = .returned v ∧ w'.ownsRow w.heap.size 3 1 v (Sv.lacks l but).length (nums .i64 (Sv.lacks l but)) ∧ Below w.heap.size w w' := by
  have HL := Lib.hid hl
  clear hl
  go_enter Try.func52, Try.ntmps52
  go_wp2_with fail
  go_loopw [5, 6] (fun rv iv wr => ∃ (j m : Nat) (B1 : Option Addr) (d1 : Nat), rv = .slice B1 m d1 ∧ Hid (m = (Sv.lacks (l.take j) but).length) ∧ m ≤ j ∧ j ≤ l.length ∧ iv = .int .i64 j ∧ Hid (wr.ownsRow w.heap.size 3 1 rv m (nums .i64 (Sv.lacks (l.take j) but))) ∧ Hid (Below w.heap.size w wr)) (fun _ iv _ => l.length - (intOf iv).toNat)
  case atStart => exact ⟨0, 0, none, 0, rfl, rfl, Nat.le_refl _, Nat.zero_le _, rfl, Lib.hid (own_nil _ _ _ _), Lib.hid (Below.refl _ _)⟩
  case round =>
    obtain ⟨j, m, B1, d1, rfl, HM, hmj, hj, rfl, HR, HB⟩ := hrel
    by_cases hlt : j < l.length
    · obtain ⟨ad, rfl, hcell0⟩ := Kd.at_int HL.out j (by omega) (by omega)
      rw [Int.toNat_natCast] at hcell0
      have hcell := pw_cell_below HB.out hcell0
      have hn := Sv.lacks_take l but j hlt
      have hx : l.getD j 0 = rd l (j : Int) := by rw [rd, Int.toNat_natCast]
      rw [hx] at hn
      generalize rd l (j : Int) = x at *
      by_cases hbut : x = but
      · subst hbut
        rw [if_pos rfl] at hn
        have HN := Lib.hid hn
        clear hn hcell0 hx
        go_wp2_with fail
        go_roundw
        case rel => exact ⟨j + 1, m, B1, d1, rfl, by rw [HN.out]; exact HM, by omega, by omega, by go_num, by rw [HN.out]; exact HR, HB⟩
        case measure => simp [intOf]; omega
      · have hb2 : (x == but) = false := beq_eq_false_iff_ne.2 hbut
        have hb3 : (x != but) = true := by rw [bne, hb2]; rfl
        rw [if_neg hbut] at hn
        have hnl : m + 1 = (Sv.lacks (l.take (j + 1)) but).length := by rw [hn, List.length_append, ← HM.out]; rfl
        have HN := Lib.hid hn
        have HNL := Lib.hid hnl
        have hby : 0 < 8 := by decide
        have hl1 : (m + 1) * 8 ≤ 140737488355328 := by omega
        clear hn hnl hcell0 hx
        go_wp2_with (at_builtin; refine print_append_cells (w0 := w) w.heap.size rfl _ _ 23 3 (.int .i64 0) 1 8 rfl Try.underlying23 infoInt rfl (by decide) hby (.slice B1 m d1) m _ [.int .i64 x] rfl rfl rfl (one_single _) HR.out HB.out HB.out.size hl1 ?_; intro v1 wq hown1 hB1 hg1 hat1; obtain ⟨A1, c1, rfl⟩ := own_slice hown1; have HO1 := Lib.hid hown1; have HB2 := Lib.hid hB1; clear hown1 hB1 hg1 hat1)
        go_roundw
        case rel =>
          refine ⟨j + 1, m + 1, A1, c1, rfl, HNL, by omega, by omega, by go_num, ?_, HB2⟩
          have h := HO1.out
          rw [HN.out]
          exact Lib.hid (by simpa [nums] using h)
        case measure => simp [intOf]; omega
    · have hjl : j = l.length := by omega
      have hR : Hid (wr.ownsRow w.heap.size 3 1 (.slice B1 m d1) (Sv.lacks l but).length (nums .i64 (Sv.lacks l but))) := by
        have h := HR.out
        rw [HM.out, hjl, List.take_length] at h
        rw [HM.out, hjl, List.take_length]
        exact h
      clear hjl
      go_wp2_with fail
      go_ret
      exact ⟨_, rfl, hR.out, HB.out⟩

theorem own_ints_C {w : World} {base n c : Nat} {A : Option Addr} {xs : List Int} (h : w.ownsRow base 3 1 (.slice A n c) n (nums .i64 xs)) : (Kd.int .i64).C w A n xs := by
  obtain ⟨A', c', he, hr⟩ := own_reads h
  cases he
  exact Kd.C_of_reads (enc := Value.int .i64) (d := (0 : Int)) hr

set_option maxRecDepth 100000 in
set_option maxHeartbeats 3200000 in
theorem once_any {w : World} {n bud : Int} {A B : Option Addr} {c d base : Nat} {cl : List (List Int)} {l : List Int} (hcl : KRows.C w A cl.length cl) (hl : w.ownsRow base 3 1 (.slice B l.length d) l.length (nums .i64 l)) (hbase : base ≤ w.heap.size) (hin : ∀ x ∈ l, 0 ≤ x ∧ x < cl.length) (hsm : cl.length ≤ 1048576) (hll : l.length ≤ cl.length) :
    Calls Try.prog 37 #[.int .i64 n, .slice A cl.length c, .slice B l.length d, .int .i64 bud] w fun e w' => ∃ v, e = .returned v ∧ w'.ownsRow base 3 1 v (Sv.roundGo (Sv.uns n cl bud) cl.length 0 l).length (nums .i64 (Sv.roundGo (Sv.uns n cl bud) cl.length 0 l)) ∧ Below w.heap.size w w' := by
  have HC := Lib.hid hcl
  have hu : ∀ l, Sv.uns n cl bud l = decide ((Sv.solve n (Sv.pick cl l) [] bud).1.verdict = 2) := fun _ => rfl
  generalize Sv.uns n cl bud = u at *
  have HU := Lib.hid hu
  have HL0 := Lib.hid hl
  have HIN0 := Lib.hid hin
  clear hcl hu hl hin
  go_enter Try.func37, Try.ntmps37
  go_wp2_with fail
  go_loopw [2, 9] (fun lv iv wr => ∃ (i : Nat) (l2 : List Int) (B2 : Option Addr) (d2 : Nat), lv = .slice B2 l2.length d2 ∧ iv = .int .i64 i ∧ i ≤ cl.length ∧ l2.length ≤ cl.length ∧ Hid (wr.ownsRow base 3 1 lv l2.length (nums .i64 l2)) ∧ Hid (∀ x ∈ l2, 0 ≤ x ∧ x < cl.length) ∧ Hid (Below w.heap.size w wr) ∧ Hid (Sv.roundGo u (cl.length - i) i l2 = Sv.roundGo u cl.length 0 l)) (fun _ iv _ => cl.length - (intOf iv).toNat)
  case atStart => exact ⟨0, l, B, d, rfl, rfl, Nat.zero_le _, hll, HL0, HIN0, Lib.hid (Below.refl _ _), rfl⟩
  case round =>
    obtain ⟨i, l2, B2, d2, rfl, rfl, hi, hl2, HO, HIN, HB, HR⟩ := hrel
    by_cases hlt : i < cl.length
    · have hrnd := HR.out
      rw [show cl.length - i = (cl.length - (i + 1)) + 1 by omega, Sv.roundGo] at hrnd
      have hul := HU.out (Sv.lacks l2 (i : Int))
      have hd := Sv.dropR (u := u) l2 (i : Int)
      have hsm2 : l2.length ≤ 1048576 := by omega
      have hc2 := own_ints_C HO.out
      have hcr := Kd.C_below HC.out HB.out
      have hcho := rchosen_any (c := c) (d := d2) (but := (i : Int)) hcr hc2 HIN.out hsm2
      have hwo := fun w' (h : Below wr.heap.size wr w') => without_any (w := w') (d := d2) (but := (i : Int)) (Kd.C_below hc2 h) hsm2
      have hll3 := Sv.lacks_length l2 (i : Int)
      have hin3 : ∀ x ∈ Sv.lacks l2 (i : Int), 0 ≤ x ∧ x < cl.length := fun x hx => HIN.out x (List.mem_filter.1 hx).1
      have hdr : Sv.dropR u l2 (i : Int) = if u (Sv.lacks l2 (i : Int)) = true then Sv.lacks l2 (i : Int) else l2 := rfl
      rw [hdr] at hrnd
      generalize Sv.lacks l2 (i : Int) = l3 at *
      have hpl := Sv.pick_length cl l3
      have HCHO := Lib.hid hcho
      have HWO := Lib.hid hwo
      have HIN3 := Lib.hid hin3
      have HRN := Lib.hid hrnd
      have HUL := Lib.hid hul
      have HPL := Lib.hid hpl
      clear hcho hwo hin3 hrnd hul hpl hd hdr hc2 hcr HR
      go_wp2_with fail
      refine HCHO.out.mono ?_
      rintro e w2 ⟨cv, rfl, hR2, hb2⟩
      obtain ⟨cA, cc, rfl, _, hC2⟩ := fixed_reads hR2 hb2
      have hsol := rsolve_any (n := n) (bud := bud) (c := cc) (d := 0) (pf := []) hC2 (nil_ints w2)
      generalize Sv.solve n (Sv.pick cl l3) [] bud = r at *
      obtain ⟨⟨vd, vs, st⟩, er⟩ := r
      have HSOL := Lib.hid hsol
      have HB2 := Lib.hid hb2
      clear hR2 hC2 hsol hb2 HCHO
      go_wp2_with fail
      refine HSOL.out.mono ?_
      rintro e w3 ⟨vv, rfl, hR3, hb3⟩
      obtain ⟨rA, rc, hv, _, _⟩ := Kd.R_reads hR3
      subst hv
      have HB3 := Lib.hid (HB2.out.trans (hb3.mono HB2.out.size))
      clear hR3 hb3 HSOL HB2
      dsimp only at *
      by_cases hv2 : vd = 2
      · have hut : u l3 = true := by rw [HUL.out]; exact decide_eq_true hv2
        subst hv2
        have hrn := HRN.out
        rw [hut, if_pos rfl] at hrn
        have HRN2 := Lib.hid hrn
        clear hrn HRN HUL
        go_wp2_with fail
        have hbn := HB3.out.alloc HB3.out.size (.cells #[.int .i64 2, .slice rA vs.length rc, .int .i64 st] 28)
        refine (HWO.out _ hbn).mono ?_
        rintro e w4 ⟨wv, rfl, ho4, hb4⟩
        obtain ⟨B4, d4, rfl⟩ := own_slice ho4
        have hbw := HB.out.size
        have hbx := hbn.size
        have HO4 := Lib.hid (own_weaken ho4 (show base ≤ _ by omega))
        have HB4 := Lib.hid (HB.out.trans ((hbn.trans (hb4.mono hbn.size)).mono HB.out.size))
        clear ho4 hb4 hbn hbw hbx HWO
        go_wp2_with fail
        go_roundw
        case rel => exact ⟨i + 1, l3, B4, d4, rfl, by go_num, by omega, by omega, HO4, HIN3, HB4, HRN2⟩
        case measure => simp [intOf]; omega
      · have hut : u l3 = false := by rw [HUL.out]; exact decide_eq_false hv2
        have h2 : (vd == 2) = false := beq_eq_false_iff_ne.2 hv2
        have hrn := HRN.out
        rw [hut, if_neg (by decide)] at hrn
        have HRN2 := Lib.hid hrn
        clear hrn HRN HUL
        go_wp2_with fail
        have hbn := HB3.out.alloc HB3.out.size (.cells #[.int .i64 vd, .slice rA vs.length rc, .int .i64 st] 28)
        go_roundw
        case rel => exact ⟨i + 1, l2, B2, d2, rfl, by go_num, by omega, by omega, Lib.hid (pw_own_below HO.out hbn), HIN, Lib.hid (HB.out.trans (hbn.mono HB.out.size)), HRN2⟩
        case measure => simp [intOf]; omega
    · have hrr := HR.out
      rw [show cl.length - i = 0 by omega, Sv.roundGo] at hrr
      have HRR := Lib.hid hrr
      clear hrr HR
      go_wp2_with fail
      go_ret
      exact ⟨_, rfl, by rw [← HRR.out]; exact HO.out, HB.out⟩

set_option maxRecDepth 100000 in
set_option maxHeartbeats 3200000 in
theorem rcore_any {w : World} {n bud : Int} {A : Option Addr} {c : Nat} {cl : List (List Int)} (hcl : KRows.C w A cl.length cl) (hsm : cl.length ≤ 1048576) :
    Calls Try.prog 27 #[.int .i64 n, .slice A cl.length c, .int .i64 bud] w (CorePost (Sv.core n cl bud) w) := by
  have hs0 := rsolve_any (n := n) (bud := bud) (c := c) (d := 0) (pf := []) hcl (nil_ints w)
  by_cases hu : (Sv.solve n cl [] bud).2 = 0 ∧ (Sv.solve n cl [] bud).1.verdict = 2
  · rw [Sv.core_unsat hu.1 hu.2]
    generalize hr : Sv.solve n cl [] bud = r at *
    obtain ⟨⟨vd, vs, st⟩, er⟩ := r
    dsimp only at hu
    obtain ⟨rfl, rfl⟩ := hu
    generalize hRR : Sv.coreP (Sv.uns n cl bud) (cl.length + 1) (Sv.iota cl.length) = RR at *
    have HC := Lib.hid hcl
    have HSOL := Lib.hid hs0
    have HRR := Lib.hid hRR
    clear hcl hs0 hr hRR
    go_enter Try.func27, Try.ntmps27
    go_wp2_with fail
    refine HSOL.out.mono ?_
    rintro e w1 ⟨vv, rfl, hR, hb1⟩
    obtain ⟨rA, rc, hv, _, _⟩ := Kd.R_reads hR
    subst hv
    dsimp only at hR ⊢
    go_wp2_with fail
    have hb2 := hb1.alloc hb1.size (.cells #[.int .i64 2, .slice rA vs.length rc, .int .i64 st] 28)
    generalize World.alloc _ _ = w2 at *
    have HB2 := Lib.hid hb2
    clear hR hb1 hb2 HSOL
    have hby : 0 < 8 := by decide
    go_loopw [11, 12] (fun lv iv wr => ∃ (i : Nat) (B : Option Addr) (d : Nat), lv = .slice B i d ∧ iv = .int .i64 i ∧ i ≤ cl.length ∧ Hid (wr.ownsRow w.heap.size 3 1 lv i (nums .i64 (Sv.iota i))) ∧ Hid (Below w.heap.size w wr)) (fun _ iv _ => cl.length - (intOf iv).toNat)
    case atStart => exact ⟨0, none, 0, rfl, rfl, Nat.zero_le _, Lib.hid (own_nil _ _ _ _), HB2⟩
    case round =>
      obtain ⟨i, B, d, rfl, rfl, hi, HO, HB⟩ := hrel
      by_cases hlt : i < cl.length
      · have hl1 : (i + 1) * 8 ≤ 140737488355328 := by omega
        go_wp2_with (at_builtin; refine print_append_cells (w0 := w) w.heap.size rfl _ _ 23 3 (.int .i64 0) 1 8 rfl Try.underlying23 infoInt rfl (by decide) hby (.slice B i d) i _ [.int .i64 (i : Int)] rfl rfl rfl (one_single _) HO.out HB.out HB.out.size hl1 ?_; intro v1 wq hown1 hB1 hg1 hat1; obtain ⟨A1, c1, rfl⟩ := own_slice hown1; have HO1 := Lib.hid hown1; have HB3 := Lib.hid hB1; clear hown1 hB1 hg1 hat1)
        go_roundw
        case rel => exact ⟨i + 1, A1, c1, rfl, by go_num, by omega, Lib.hid (by rw [Sv.iota_succ]; have h := HO1.out; simpa [nums] using h), HB3⟩
        case measure => simp [intOf]; omega
      · obtain rfl : i = cl.length := by omega
        have ho : Hid (wr.ownsRow w.heap.size 3 1 (.slice B (Sv.iota cl.length).length d) (Sv.iota cl.length).length (nums .i64 (Sv.iota cl.length))) := Lib.hid (by rw [Sv.iota_length]; exact HO.out)
        clear HO HB2
        go_wp2_with fail
        go_loopw [11, 13] (fun lv iv wr => ∃ (rd : Nat) (l : List Int) (B : Option Addr) (d : Nat), lv = .slice B l.length d ∧ iv = .int .i64 rd ∧ rd ≤ cl.length + 1 ∧ l.length ≤ cl.length ∧ Hid (wr.ownsRow w.heap.size 3 1 lv l.length (nums .i64 l)) ∧ Hid (l.Sublist (Sv.iota cl.length)) ∧ Hid (Below w.heap.size w wr) ∧ Hid (Sv.coreP (Sv.uns n cl bud) (cl.length + 1 - rd) l = RR)) (fun _ iv _ => cl.length + 1 - (intOf iv).toNat)
        case atStart => exact ⟨0, Sv.iota cl.length, B, d, by rw [Sv.iota_length], rfl, Nat.zero_le _, by rw [Sv.iota_length]; exact Nat.le_refl _, by have h := ho; rw [Sv.iota_length] at h; rw [Sv.iota_length]; exact h, Lib.hid (List.Sublist.refl _), HB, HRR⟩
        case round =>
          obtain ⟨rd, l, B2, d2, rfl, rfl, hrd, hll, HOL, HSUB, HBL, HRL⟩ := hrel
          by_cases hlt2 : rd ≤ cl.length
          · have hin : ∀ x ∈ l, 0 ≤ x ∧ x < cl.length := fun x hx => Sv.iota_mem (HSUB.out.subset hx)
            have hon := once_any (n := n) (bud := bud) (c := c) (Kd.C_below HC.out HBL.out) HOL.out HBL.out.size hin hsm hll
            rw [Sv.roundGo_pass HSUB.out] at hon
            have hrl := HRL.out
            rw [show cl.length + 1 - rd = (cl.length - rd) + 1 by omega, Sv.coreP] at hrl
            have hsub2 := (Sv.passP_sub (u := Sv.uns n cl bud) l []).trans (show ([] ++ l).Sublist (Sv.iota cl.length) from HSUB.out)
            have hlen2 := Sv.passP_len (u := Sv.uns n cl bud) l
            generalize Sv.passP (Sv.uns n cl bud) [] l = m at *
            have HON := Lib.hid hon
            have HRL2 := Lib.hid hrl
            have HSUB2 := Lib.hid hsub2
            clear hon hrl hsub2 hin HRL
            go_wp2_with fail
            refine HON.out.mono ?_
            rintro e w3 ⟨mv, rfl, ho3, hb3⟩
            obtain ⟨B3, d3, rfl⟩ := own_slice ho3
            have HO3 := Lib.hid ho3
            have HB3 := Lib.hid hb3
            clear ho3 hb3 HON
            by_cases heq : m.length = l.length
            · have hrl := HRL2.out
              rw [if_pos heq] at hrl
              subst hrl
              have he2 : ((m.length : Int) == (l.length : Int)) = true := beq_iff_eq.2 (by omega)
              clear HRL2 HRR
              go_wp2_with fail
              refine bodyPost_ret (results_list (rs := [.tmp 6, .tmp 7, .tmp 8]) rfl (by simp) (.tmp (.tmp (.tmp .nil)))) rfl ?_
              exact ⟨_, rfl, pw_own_below HOL.out HB3.out, HBL.out.trans (HB3.out.mono HBL.out.size)⟩
            · have hrl := HRL2.out
              rw [if_neg heq] at hrl
              have HRL3 := Lib.hid hrl
              have he2 : ((m.length : Int) == (l.length : Int)) = false := beq_eq_false_iff_ne.2 (by omega)
              clear hrl HRL2
              go_wp2_with fail
              go_roundw
              case rel => exact ⟨rd + 1, m, B3, d3, rfl, by go_num, by omega, by omega, HO3, HSUB2, Lib.hid (HBL.out.trans (HB3.out.mono HBL.out.size)), by rw [show cl.length + 1 - (rd + 1) = cl.length - rd by omega]; exact HRL3⟩
              case measure => simp [intOf]; omega
          · have hrl := HRL.out
            rw [show cl.length + 1 - rd = 0 by omega, Sv.coreP] at hrl
            subst hrl
            clear HRL HRR
            go_wp2_with fail
            refine bodyPost_ret (results_list (rs := [.tmp 6, .tmp 7, .tmp 8]) rfl (by simp) (.tmp (.tmp (.tmp .nil)))) rfl ?_
            exact ⟨_, rfl, HOL.out, HBL.out⟩
  · rw [Sv.core_not hu]
    generalize Sv.solve n cl [] bud = r at *
    obtain ⟨⟨vd, vs, st⟩, er⟩ := r
    dsimp only at *
    have HSOL := Lib.hid hs0
    clear hcl hs0
    go_enter Try.func27, Try.ntmps27
    go_wp2_with fail
    refine HSOL.out.mono ?_
    rintro e w1 ⟨vv, rfl, hR, hb1⟩
    obtain ⟨rA, rc, hv, hvc, _⟩ := Kd.R_reads hR
    subst hv
    dsimp only at *
    clear HSOL hR
    have HB1 := Lib.hid hb1
    clear hb1
    by_cases h1 : er = 0
    · subst h1
      have h2 : (vd == 2) = false := beq_eq_false_iff_ne.2 (fun e => hu ⟨rfl, e⟩)
      have h3 : (vd != 2) = true := by rw [bne, h2]; rfl
      go_wp2_with fail
      go_region
      all_goals go_wp2_with fail
      refine bodyPost_ret (results_list (rs := [.tmp 6, .tmp 7, .tmp 8]) rfl (by simp) (.tmp (.tmp (.tmp .nil)))) rfl ?_
      exact ⟨_, rfl, own_nil _ _ _ _, (HB1.out.alloc HB1.out.size _).drew⟩
    · have h2 : (er == 0) = false := beq_eq_false_iff_ne.2 h1
      have h3 : (er != 0) = true := by rw [bne, h2]; rfl
      go_wp2_with fail
      go_region
      all_goals go_wp2_with fail
      refine bodyPost_ret (results_list (rs := [.tmp 6, .tmp 7, .tmp 8]) rfl (by simp) (.tmp (.tmp (.tmp .nil)))) rfl ?_
      exact ⟨_, rfl, own_nil _ _ _ _, (HB1.out.alloc HB1.out.size _).drew⟩
end Go.Proofs.Ytfeablchjlkjiaa
