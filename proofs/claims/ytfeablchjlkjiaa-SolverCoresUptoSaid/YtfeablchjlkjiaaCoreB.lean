/-
  WALK of the program's Core.
-/
import Derived.Test.YtfeablchjlkjiaaCoreA
import Derived.Test.YtfeablchjlkjiaaRefG
namespace Go.Proofs.Ytfeablchjlkjiaa
open Go.RowKit Go.Proofs.YtfeablchjlkjiaaW.PrintWords Go.Proofs.YtfeablchjlkjiaaW.PrintMore

theorem make_ints (m : Nat) (hm : m ≤ 1048576) (W : World) : (Instr.makeSlice 23 (.int .i64 (m : Int)) (.int .i64 (m : Int))).run Try.prog W = .ok (.slice (some ⟨W.heap.size, 0, none⟩) m m) (W.alloc (.cells (madeCells #[.int .i64 0] m) 3)) := by
  obtain ⟨i0, hi, hzz⟩ := Option.map_eq_some_iff.1 infoInt
  simp only [Prod.mk.injEq] at hzz
  obtain ⟨hz0, hz1, hz2⟩ := hzz
  have h := run_makeSlice (P := Try.prog) (w := W) 23 3 i0 (.int .i64 0) Try.underlying23 hi hz0 .i64 .i64 m m (by omega) (Int.le_refl _) (by rw [hz1]; omega) (by rw [hz2]; omega) (by omega)
  rw [hz1, Nat.mul_one, Int.toNat_natCast] at h
  exact h
theorem own_made (W : World) (m : Nat) (hm : m ≤ 1048576) : (W.alloc (.cells (madeCells #[.int .i64 0] m) 3)).ownsRow W.heap.size 3 1 (.slice (some ⟨W.heap.size, 0, none⟩) m m) m (nums .i64 (List.replicate m 0)) := by
  have h := own_lit W W.heap.size 3 .i64 (List.replicate m (0 : Int)) (Nat.le_refl _) (by simp; omega)
  rw [madeCells_int]
  simpa [nums] using h

/-- An answer of Core: its numbers are a new row. -/
def CorePost (r : List Int × Int × Int) (w : World) (e : Ending) (w' : World) : Prop :=
  ∃ v, e = .returned (.tuple #[v, .int .i64 r.2.1, .int .i64 r.2.2]) ∧ w'.ownsRow w.heap.size 3 1 v r.1.length (nums .i64 r.1) ∧ Below w.heap.size w w'

theorem madeRow_set {n k : Nat} (hk : k < n) : (Sv.iota k ++ List.replicate (n - k) (0 : Int)).set k (k : Int) = Sv.iota (k + 1) ++ List.replicate (n - (k + 1)) 0 := by
  have h1 : k = (Sv.iota k).length := by rw [Sv.iota_length]
  have h2 : n - k = (n - (k + 1)) + 1 := by omega
  rw [List.set_append_right _ _ (by rw [Sv.iota_length]; exact Nat.le_refl _), Sv.iota_length, Nat.sub_self, h2, List.replicate_succ, List.set_cons_zero, Sv.iota_succ, List.append_assoc]
  rfl

def lenOf : Value → Nat
  | .slice _ n _ => n
  | _ => 0
def oneOf : Value → Nat
  | .bool true => 1
  | _ => 0
/-- What is left. -/
structure LeftAt (w wr : World) (m : Nat) (v : Value) (l : List Int) : Prop where
  own : wr.ownsRow w.heap.size 3 1 v l.length (nums .i64 l)
  below : Below w.heap.size w wr
  inn : ∀ x ∈ l, 0 ≤ x ∧ x < m
  size : l.length ≤ m

set_option maxRecDepth 100000 in
set_option maxHeartbeats 6400000 in
theorem core_any {w : World} {n bud : Int} {A : Option Addr} {c : Nat} {cl : List (List Int)} (hcl : KRows.C w A cl.length cl) (hcc : cl.length ≤ c) (hb : cl.length ≤ 1048576) :
    Calls Try.prog 26 #[.int .i64 n, .slice A cl.length c, .int .i64 bud] w (CorePost (Sv.core n cl bud) w) := by
  have hs0 := solve_any (n := n) (bud := bud) (c := c) (d := 0) (pf := []) hcl hcc (nil_ints w) (Nat.le_refl _) (by omega)
  by_cases hu : (Sv.solve n cl [] bud).2 = 0 ∧ (Sv.solve n cl [] bud).1.verdict = 2
  · rw [Sv.core_unsat hu.1 hu.2]
    have HC := Lib.hid hcl
    have HSOL := Lib.hid hs0
    have HU := Lib.hid hu
    have hmk := fun W => make_ints cl.length hb W
    clear hcl hs0 hu
    go_enter Try.func26, Try.ntmps26
    go_wp2_with fail
    refine HSOL.out.mono ?_
    rintro e w1 ⟨vv, rfl, hR, hb1⟩
    rw [HU.out.1, HU.out.2]
    obtain ⟨rA, rc, hv, hvc, _⟩ := Kd.R_reads hR
    subst hv
    clear HSOL hR
    go_wp2_with fail
    have ho2 := own_made (w1.alloc (.cells #[.int .i64 2, .slice rA (Sv.solve n cl [] bud).1.values.length rc, .int .i64 (Sv.solve n cl [] bud).1.steps] 28)) cl.length hb
    have hb2 := (hb1.alloc hb1.size (.cells #[.int .i64 2, .slice rA (Sv.solve n cl [] bud).1.values.length rc, .int .i64 (Sv.solve n cl [] bud).1.steps] 28)).alloc (by have := hb1.size; simp; omega) (.cells (madeCells #[.int .i64 0] cl.length) 3)
    have ho2 := own_weaken ho2 (show w.heap.size ≤ _ by have := hb1.size; simp; omega)
    have hb0 : w.heap.size ≤ w1.heap.size + 1 := by have := hb1.size; omega
    have hbq : (w1.alloc (.cells #[.int .i64 2, .slice rA (Sv.solve n cl [] bud).1.values.length rc, .int .i64 (Sv.solve n cl [] bud).1.steps] 28)).heap.size = w1.heap.size + 1 := by simp
    rw [hbq] at ho2
    generalize World.alloc _ _ = w2 at *
    generalize w1.heap.size + 1 = b at *
    have HO2 := Lib.hid ho2
    have HB2 := Lib.hid hb2
    clear ho2 hb2 hb1 hmk hbq
    go_loopw [43] (fun i wr => ∃ (k : Nat), k ≤ cl.length ∧ i = .int .i64 k ∧ Hid (wr.ownsRow w.heap.size 3 1 (.slice (some ⟨b, 0, none⟩) cl.length cl.length) cl.length (nums .i64 (Sv.iota k ++ List.replicate (cl.length - k) 0))) ∧ Hid (Below w.heap.size w wr)) (fun i _ => cl.length - (intOf i).toNat)
    case atStart => exact ⟨0, Nat.zero_le _, rfl, Lib.hid (by simpa [Sv.iota] using HO2.out), HB2⟩
    case round =>
      obtain ⟨k, hk, rfl, HO, HB⟩ := hrel
      by_cases hlt : k < cl.length
      · have hst := (own_store HO.out (k : Int) (k : Int)).1
        have hat := own_at HO.out (k : Int) (by omega) (by omega)
        rw [Int.toNat_natCast] at hst hat
        rw [madeRow_set hlt] at hst
        obtain ⟨hat1, hat2⟩ := hat
        have HST := Lib.hid hst
        have hsc := HB.out.setCell (p := ⟨b, k, none⟩) hb0 (.int .i64 (k : Int))
        have HSC := Lib.hid hsc
        clear hst hsc
        go_wp2_with fail
        go_roundw
        case rel => exact ⟨k + 1, by omega, by go_num, HST, HSC⟩
        case measure => simp [intOf]; omega
      · obtain rfl : k = cl.length := by omega
        have ho := HO.out
        rw [Nat.sub_self, List.replicate_zero, List.append_nil] at ho
        have HO3 := Lib.hid ho
        have hcw : Sv.coreW (Sv.uns n cl bud) (Sv.iota cl.length) = Sv.coreP (Sv.uns n cl bud) (cl.length + 1) (Sv.iota cl.length) := by rw [Sv.coreW, Sv.iota_length]
        generalize Sv.coreP (Sv.uns n cl bud) (cl.length + 1) (Sv.iota cl.length) = RR at *
        generalize hu : Sv.uns n cl bud = u at *
        have HL0 : Hid (LeftAt w wr cl.length (.slice (some ⟨b, 0, none⟩) cl.length cl.length) (Sv.iota cl.length)) := ⟨by rw [Sv.iota_length]; exact HO3.out, HB.out, fun x hx => Sv.iota_mem hx, by rw [Sv.iota_length]; exact Nat.le_refl _⟩
        have HUQ := Lib.hid hu
        have HCW := Lib.hid hcw
        clear ho HO HO2 HB2 HO3 hcw hu HB
        go_wp2_with fail
        go_loopw [11, 13] (fun lv av wo => ∃ (l : List Int) (ag : Bool), av = .bool ag ∧ LeftAt w wo cl.length lv l ∧ (ag = true → Sv.coreW u l = RR) ∧ (ag = false → l = RR)) (fun lv av _ => 2 * lenOf lv + oneOf av)
        case atStart => exact ⟨_, true, rfl, HL0.out, fun _ => HCW.out, fun e => Bool.noConfusion e⟩
        case round =>
          obtain ⟨l0, ag, rfl, hl0, hag1, hag2⟩ := hrel
          cases ag with
          | false =>
            have hRR := hag2 rfl
            subst hRR
            have HL := Lib.hid hl0
            clear hl0 hag1 hag2 HCW HL0
            go_wp2_with fail
            exact bodyPost_ret (results_list (rs := [.tmp 6, .tmp 7, .tmp 8]) rfl (by simp) (.tmp (.tmp (.tmp .nil)))) rfl (by exact ⟨_, rfl, HL.out.own, HL.out.below⟩)
          | true =>
            have HAG := Lib.hid (hag1 rfl)
            have HL := Lib.hid hl0
            have hlv0 := own_slice hl0.own
            obtain ⟨lA, lc, rfl⟩ := hlv0
            clear hl0 hag1 hag2 HCW HL0
            go_wp2_with fail
            go_loopw [11, 13, 14] (fun lv av iv wi => ∃ (l : List Int) (k : Nat) (ag : Bool) (A2 : Option Addr) (c2 : Nat), lv = .slice A2 l.length c2 ∧ av = .bool ag ∧ iv = .int .i64 k ∧ k ≤ l.length ∧ l.length ≤ l0.length ∧ Hid (ag = true ↔ l.length ≠ l0.length) ∧ Hid (LeftAt w wi cl.length lv l) ∧ Hid (Sv.passP u (l.take k) (l.drop k) = Sv.passP u [] l0)) (fun lv _ iv _ => lenOf lv - (intOf iv).toNat)
            case atStart => exact ⟨l0, 0, false, lA, lc, rfl, rfl, rfl, Nat.zero_le _, Nat.le_refl _, Lib.hid ⟨fun e => Bool.noConfusion e, fun e => absurd rfl e⟩, HL, rfl⟩
            case round =>
              obtain ⟨l, k, ag, A2, c2, rfl, rfl, rfl, hk2, hll, HAGI, HLI, HPP⟩ := hrel
              by_cases hlt2 : k < l.length
              · have hown := HLI.out.own
                obtain ⟨b2, c3, he, _, _⟩ := hown.form (by omega)
                cases he
                have hrd : (Kd.int .i64).C wr (some ⟨b2, 0, none⟩) l.length l := Kd.C_of_reads (enc := Value.int .i64) (d := (0 : Int)) (own_reads' hown)
                have hsz := HLI.out.size
                have HRD := Lib.hid hrd
                clear hown hrd
                go_wp2_with fail
                refine (clone_ints HRD.out (by omega)).mono ?_
                rintro e w3 ⟨cv, rfl, ho3, hb3⟩
                obtain ⟨g, gc, rfl, _, _⟩ := ho3.form (by omega)
                have HO3 := Lib.hid ho3
                have HB3 := Lib.hid hb3
                clear ho3 hb3 HRD
                go_wp2_with fail
                refine (delete_at HO3.out hlt2).mono ?_
                rintro e w4 ⟨rfl, ho4, hb4⟩
                have hfm : ∀ x ∈ l.eraseIdx k, 0 ≤ x ∧ x < cl.length := fun x hx => HLI.out.inn x (List.mem_of_mem_eraseIdx hx)
                have hfl : (l.eraseIdx k).length + 1 = l.length := by rw [List.length_eraseIdx_of_lt hlt2]; omega
                have hin := fun h => Sv.pass_in (u := u) hlt2 h
                have hon := fun h => Sv.pass_on (u := u) hlt2 h
                generalize l.eraseIdx k = fewer at *
                have hfl1 : fewer.length < l.length := by omega
                have hrd : (Kd.int .i64).C w4 (some ⟨g, 0, none⟩) fewer.length fewer := Kd.C_of_reads (enc := Value.int .i64) (d := (0 : Int)) (own_reads' ho4)
                have hb4' := HB3.out.trans hb4
                have HC4 := Lib.hid (Kd.C_below HC.out (HLI.out.below.trans (hb4'.mono HLI.out.below.size)))
                have HO4 := Lib.hid ho4
                have HB4 := Lib.hid hb4'
                have HRD := Lib.hid hrd
                have HFM := Lib.hid hfm
                have HFL := Lib.hid hfl
                have HIN := Lib.hid hin
                have HON := Lib.hid hon
                clear ho4 hb4 hb4' hrd hfm hfl hin hon HO3 HB3
                go_wp2_with fail
                go_loopw [16, 64] (fun rv iv wq => ∃ (j : Nat) (B : Option Addr) (d : Nat), rv = .slice B j d ∧ j ≤ fewer.length ∧ iv = .int .i64 j ∧ Hid ((FRows w4).R 23 wq w4.heap.size (fun _ => True) rv (Sv.pick cl (fewer.take j))) ∧ Hid (Below w4.heap.size w4 wq)) (fun _ iv _ => fewer.length - (intOf iv).toNat)
                case atStart => exact ⟨0, none, 0, rfl, Nat.zero_le _, rfl, Lib.hid (Kd.R_nil _ _ _ _ _), Lib.hid (Below.refl _ _)⟩
                case round =>
                  obtain ⟨j, B, d, rfl, hj, rfl, HRR, HBB⟩ := hrel
                  by_cases hlt3 : j < fewer.length
                  · obtain ⟨ad, he, hcell0⟩ := Kd.at_int HRD.out j (by omega) (by omega)
                    cases he
                    rw [Int.toNat_natCast] at hcell0
                    rw [Addr.add_lit, Nat.zero_add] at hcell0
                    have hcell := pw_cell_below HBB.out hcell0
                    have hmem : rd fewer (j : Int) ∈ fewer := by
                      rw [rd, Int.toNat_natCast, List.getD_eq_getElem?_getD, List.getElem?_eq_getElem hlt3, Option.getD_some]
                      exact List.getElem_mem _
                    have hin := HFM.out _ hmem
                    have htk : Sv.pick cl (fewer.take (j + 1)) = Sv.pick cl (fewer.take j) ++ [cl.getD (rd fewer (j : Int)).toNat []] := by
                      rw [List.take_succ_eq_append_getElem hlt3, Sv.pick, List.map_append, ← Sv.pick, rd, Int.toNat_natCast, List.getD_eq_getElem?_getD (l := fewer), List.getElem?_eq_getElem hlt3]
                      rfl
                    generalize rd fewer (j : Int) = x at *
                    obtain ⟨h0, h1⟩ := hin
                    obtain ⟨q, rfl⟩ := Int.eq_ofNat_of_zero_le h0
                    rw [Int.toNat_natCast] at htk
                    have hq : q < cl.length := by omega
                    obtain ⟨ad2, A0, c0, rfl, hcl0, hrl, hrow⟩ := rows_at HC4.out q hq
                    have hcl1 := pw_cell_below HBB.out hcl0
                    generalize cl.getD q [] = row at *
                    have hpl : (Sv.pick cl (fewer.take j)).length = j := by rw [Sv.pick_length, List.length_take]; omega
                    have HPL := Lib.hid hpl
                    have HROW := Lib.hid hrow
                    have HTK := Lib.hid htk
                    have hby : 0 < 24 := by decide
                    have HLE : Hid (((Sv.pick cl (fewer.take j)).length + 1) * 24 ≤ 140737488355328) := Lib.hid (by rw [hpl]; omega)
                    clear hcell0 hmem hcl0 hrow htk h0 h1 hpl
                    go_wp2_with (at_builtin; refine Kd.R_append (FRows w4) (w0 := w4) w4.heap.size rfl _ _ 22 23 (.slice none 0 0) 24 rfl Try.underlying22 infoRow rfl (Nat.succ_pos 0) hby (.slice B j d) (Sv.pick cl (fewer.take j)) row [.slice A0 row.length c0] (fun _ => True) (fun k => some k ≠ (Value.slice B j d).ownBlock) rfl rfl ⟨A0, c0, rfl, hrl, HROW.out⟩ (fun k h => ⟨trivial, h⟩) (fun _ _ => trivial) HRR.out HBB.out HBB.out.size HLE.out ?_; intro v2 w6 hR6 hB6 hG6 hA6; obtain ⟨B6, d6, hv6⟩ := own_slice (Kd.R_own hR6).choose_spec; have HR6 := Lib.hid hR6; have HB6 := Lib.hid hB6; have HV6 := Lib.hid hv6; clear hR6 hB6 hG6 hA6 hv6)
                    go_roundw
                    case rel =>
                      refine ⟨j + 1, B6, d6, ?_, by omega, by go_num, ?_, HB6⟩
                      · rw [HV6.out, List.length_append, HPL.out]; rfl
                      · rw [HTK.out]; exact HR6
                    case measure => simp [intOf]; omega
                  · obtain rfl : j = fewer.length := by omega
                    obtain ⟨A5, c5, he, hle5, hC5⟩ := fixed_reads HRR.out HBB.out
                    rw [List.take_length] at he hle5 hC5
                    rw [Sv.pick_length] at he
                    cases he
                    have hsol := solve_any (n := n) (bud := bud) (c := d) (d := 0) (pf := []) hC5 hle5 (nil_ints wr) (Nat.le_refl _) (by rw [Sv.pick_length]; omega)
                    rw [Sv.pick_length] at hsol
                    have hu5 : u fewer = decide ((Sv.solve n (Sv.pick cl fewer) [] bud).1.verdict = 2) := by rw [← HUQ.out]; rfl
                    generalize Sv.solve n (Sv.pick cl fewer) [] bud = r5 at *
                    have HSOL := Lib.hid hsol
                    have HU5 := Lib.hid hu5
                    clear hC5 hle5 hsol hu5 HRR
                    go_wp2_with fail
                    refine HSOL.out.mono ?_
                    rintro e w5 ⟨vv, rfl, hR5, hb5⟩
                    obtain ⟨rA5, rc5, hv5, _, _⟩ := Kd.R_reads hR5
                    subst hv5
                    obtain ⟨⟨vd5, vs5, st5⟩, er5⟩ := r5
                    dsimp only at *
                    have HB5 := Lib.hid (HBB.out.trans (hb5.mono HBB.out.size))
                    clear hR5 hb5 HSOL
                    by_cases hv2 : vd5 = 2
                    · have hut : u fewer = true := by rw [HU5.out]; exact decide_eq_true hv2
                      subst hv2
                      have HPP2 := Lib.hid ((HIN.out hut).trans HPP.out)
                      clear HIN HON HU5 HPP
                      go_wp2_with fail
                      go_roundw
                      case rel =>
                        have hbel := HB5.out.alloc HB5.out.size (.cells #[.int .i64 2, .slice rA5 vs5.length rc5, .int .i64 st5] 28)
                        have hfl := HFL.out
                        refine ⟨fewer, k, true, _, _, rfl, rfl, rfl, by omega, by omega, Lib.hid ⟨fun _ => by omega, fun _ => rfl⟩, ⟨?_, ?_, HFM.out, by omega⟩, HPP2⟩
                        · exact own_weaken (pw_own_below HO4.out hbel) HLI.out.below.size
                        · exact HLI.out.below.trans ((HB4.out.trans (hbel.mono HB4.out.size)).mono HLI.out.below.size)
                      case measure =>
                        have hfl := HFL.out
                        simp only [lenOf, intOf, Int.toNat_natCast]
                        omega
                    · have hut : u fewer = false := by rw [HU5.out]; exact decide_eq_false hv2
                      have h2 : (vd5 == 2) = false := beq_eq_false_iff_ne.2 hv2
                      have h3 : (vd5 != 2) = true := by rw [bne, h2]; rfl
                      have HPP2 := Lib.hid ((HON.out hut).trans HPP.out)
                      clear HIN HON HU5 HPP
                      go_wp2_with fail
                      go_roundw
                      case rel =>
                        have hbel := HB5.out.alloc HB5.out.size (.cells #[.int .i64 vd5, .slice rA5 vs5.length rc5, .int .i64 st5] 28)
                        have hbe2 := HB4.out.trans (hbel.mono HB4.out.size)
                        refine ⟨l, k + 1, ag, _, _, rfl, rfl, by go_num, by omega, by omega, HAGI, ⟨?_, ?_, HLI.out.inn, HLI.out.size⟩, HPP2⟩
                        · exact pw_own_below HLI.out.own hbe2
                        · exact HLI.out.below.trans (hbe2.mono HLI.out.below.size)
                      case measure => simp [lenOf, intOf]; omega
              · obtain rfl : k = l.length := by omega
                have hpp := HPP.out
                rw [List.take_length, List.drop_length, Sv.passP] at hpp
                go_wp2_with fail
                go_roundw
                case rel =>
                  refine ⟨l, ag, rfl, HLI.out, fun h => ?_, fun h => ?_⟩
                  · have hne := HAGI.out.1 h
                    rw [hpp] at hne ⊢
                    rw [← Sv.coreW_step hne]
                    exact HAG.out
                  · subst h
                    have heq : l.length = l0.length := by
                      rcases Nat.decEq l.length l0.length with h1 | h1
                      · exact absurd (HAGI.out.2 h1) (by decide)
                      · exact h1
                    have h2 := heq
                    rw [hpp] at h2
                    rw [hpp, Sv.passP_same h2, ← HAG.out, Sv.coreW_same h2]
                case measure =>
                  cases ag with
                  | false => simp [lenOf, oneOf]; omega
                  | true =>
                    have hne := HAGI.out.1 rfl
                    simp [lenOf, oneOf]
                    omega
  · rw [Sv.core_not hu]
    generalize Sv.solve n cl [] bud = r at *
    obtain ⟨⟨vd, vs, st⟩, er⟩ := r
    dsimp only at *
    have HSOL := Lib.hid hs0
    clear hcl hs0
    go_enter Try.func26, Try.ntmps26
    go_wp2_with fail
    refine HSOL.out.mono ?_
    rintro e w1 ⟨vv, rfl, hR, hb1⟩
    obtain ⟨rA, rc, hv, hvc, _⟩ := Kd.R_reads hR
    subst hv
    dsimp only at *
    clear HSOL hR
    have HB1 := Lib.hid hb1
    clear hb1
    by_cases h1 : er = 0
    · subst h1
      have h2 : (vd == 2) = false := beq_eq_false_iff_ne.2 (fun e => hu ⟨rfl, e⟩)
      have h3 : (vd != 2) = true := by rw [bne, h2]; rfl
      go_wp2_with fail
      go_region
      all_goals go_wp2_with fail
      refine bodyPost_ret (results_list (rs := [.tmp 6, .tmp 7, .tmp 8]) rfl (by simp) (.tmp (.tmp (.tmp .nil)))) rfl ?_
      exact ⟨_, rfl, own_nil _ _ _ _, (HB1.out.alloc HB1.out.size _).drew⟩
    · have h2 : (er == 0) = false := beq_eq_false_iff_ne.2 h1
      have h3 : (er != 0) = true := by rw [bne, h2]; rfl
      go_wp2_with fail
      go_region
      all_goals go_wp2_with fail
      refine bodyPost_ret (results_list (rs := [.tmp 6, .tmp 7, .tmp 8]) rfl (by simp) (.tmp (.tmp (.tmp .nil)))) rfl ?_
      exact ⟨_, rfl, own_nil _ _ _ _, (HB1.out.alloc HB1.out.size _).drew⟩
end Go.Proofs.Ytfeablchjlkjiaa
