/-
  WALKS over package solver, seventh part: slices.Clone, check.
-/
import Derived.Test.YtfeablchjlkjiaaSolvF
import Derived.WalkSpells
import Derived.Deep.RegionHeld3
namespace Go.Proofs.Ytfeablchjlkjiaa
open Go.RowKit Go.Proofs.YtfeablchjlkjiaaW.PrintWords Go.Proofs.YtfeablchjlkjiaaW.PrintMore

abbrev KRows : Kd (List Int) := Kd.slice 3 (Kd.int .i64)
theorem infoRow : (Try.prog.info? 23).map (fun i => (i.zero, i.size, i.bytes)) = some (some (.slice none 0 0), 1, 24) := by kernel_rfl

/-- A new row of rows that came in. -/
abbrev FRows (w0 : World) : Kd (List Int) := Kd.fixed KRows w0

theorem isNone_some {ad : Addr} : (some ad : Option Addr).isNone = false := rfl
set_option maxRecDepth 100000 in
set_option maxHeartbeats 800000 in
theorem clone_rows {w : World} {A : Option Addr} {c : Nat} {xs : List (List Int)} (hr : KRows.C w A xs.length xs) (hb : xs.length * 24 ≤ 140737488355328) :
    Calls Try.prog 38 #[.slice A xs.length c] w fun e w' => ∃ v, e = .returned v ∧ (FRows w).R 23 w' w.heap.size (fun _ => True) v xs ∧ Below w.heap.size w w' := by
  have HR := Lib.hid hr
  clear hr
  cases A with
  | none =>
    have hx : xs = [] := by
      cases xs with
      | nil => rfl
      | cons x l => obtain ⟨ad, h, _⟩ := HR.out.2.2 (by simp); cases h
    subst hx
    have hn := fun w => Lib.run_eql_slice_nil (P := Try.prog) w 22 23 none 0 c 0 0 Try.underlying22
    go_enter Try.func38, Try.ntmps38
    go_wp2
    go_ret
    exact ⟨_, rfl, Kd.R_nil _ _ _ _ _, Below.refl _ _⟩
  | some ad =>
    have hn := fun w => Lib.run_eql_slice_nil (P := Try.prog) w 22 23 (some ad) xs.length c 0 0 Try.underlying22
    have hO : (FRows w).R 23 (w.alloc (.cells #[] 23)) w.heap.size (fun _ => True) (.slice (some ⟨w.heap.size, 0, none⟩) 0 0) [] :=
      ⟨fun _ _ => trivial, [], World.ownsRow_made w #[] 0 (Nat.le_refl _) (Nat.zero_le _) rfl, Reps.none _ _⟩
    have HO := Lib.hid hO
    clear hO
    go_enter Try.func38, Try.ntmps38
    go_wp2_with (at_builtin; refine Kd.R_append_rows (FRows w) (Rr := KRows.K w) (w0 := w) w.heap.size rfl _ _ 22 23 (.slice none 0 0) 24 rfl Try.underlying22 infoRow rfl (Nat.succ_pos 0) (by decide) _ [] xs (some ad) xs.length c (fun _ => True) (fun k => k ≠ w.heap.size) rfl rfl HO.out (HR.out.imp_ ((Below.refl _ _).alloc (Nat.le_refl _) _) (fun _ _ h => h)) (fun _ _ h => h) (fun k h => ⟨trivial, fun e => h (Option.some.inj e)⟩) (fun _ _ => trivial) ((Below.refl _ _).alloc (Nat.le_refl _) _) (by simp) (by simpa using hb) ?_; intro v1 w1 hR1 hB1 hG1 hA1; have HR1 := Lib.hid hR1; have HB1 := Lib.hid hB1; clear hR1 hB1 hG1 hA1)
    go_ret
    exact ⟨_, rfl, HR1.out, HB1.out⟩

/-- One element in a new block, read later. -/
theorem reads_one {α : Type} {Rr : α → List Value → Prop} {size : Nat} {W w' : World} {x : α} {cs : List Value} {e : TypeId} (hK : Rr x cs) (hl : cs.length = size) (hb : Below (W.alloc (.cells cs.toArray e)).heap.size (W.alloc (.cells cs.toArray e)) w') :
    ReadsRow Rr size w' (some ⟨W.heap.size, 0, none⟩) 1 [x] := by
  refine ⟨rfl, by omega, fun _ => ⟨_, rfl, fun j p hj => ?_⟩⟩
  obtain rfl : j = 0 := by
    have := (List.getElem?_eq_some_iff.1 hj).1
    simpa using this
  obtain rfl : x = p := by simpa using hj
  refine ⟨cs, hl, hK, fun i u hu => pw_cell_below hb ?_⟩
  have h := World.news_of_block (cs := cs.toArray) (t := e) (fr := (0, 0)) (heap_alloc_new W (.cells cs.toArray e)) i u (by simpa using hu)
  simpa using h

/-- Rows that came in at W, in a new row: read now. -/
theorem fixed_reads {W w2 : World} {e base : Nat} {ok : Nat → Prop} {v : Value} {xs : List (List Int)} (h : (FRows W).R e w2 base ok v xs) (hb : Below W.heap.size W w2) : ∃ A c, v = .slice A xs.length c ∧ xs.length ≤ c ∧ KRows.C w2 A xs.length xs := by
  obtain ⟨A, c, rfl, hl, hr⟩ := Kd.R_reads h
  exact ⟨A, c, rfl, hl, hr.imp_ (Below.refl _ _) (fun _ _ hp => KRows.K_below hb hp)⟩

theorem rightL_iff (n lit : Int) : Sv.rightL n lit = true ↔ lit ≠ 0 ∧ -n ≤ lit ∧ lit ≤ n := by simp [Sv.rightL]

/-- A problem by value. -/
def pbV (n : Int) (cl pf : Value) (bud : Int) : Value := .agg #[.int .i64 n, cl, pf, .int .i64 bud]

set_option maxRecDepth 100000 in
set_option maxHeartbeats 1600000 in
theorem check_ok {w : World} {n bud : Int} {A B : Option Addr} {c d : Nat} {cl : List (List Int)} {pf : List Int} (hcl : KRows.C w A cl.length cl) (hpf : (Kd.int .i64).C w B pf.length pf) (hpc : pf.length ≤ d) (hb : cl.length * 24 ≤ 140737488351232)
    (h1 : 0 ≤ n) (h2 : n ≤ 131071) (h3 : 0 ≤ bud) (h4 : bud ≤ 1152921504606846976) :
    Calls Try.prog 31 #[.agg #[.int .i64 n, .slice A cl.length c, .slice B pf.length d, .int .i64 bud]] w fun e w' => e = .returned (.int .i64 (Sv.litsOK n (cl ++ [pf]))) ∧ Below w.heap.size w w' := by
  have HC := Lib.hid hcl
  have HP := Lib.hid hpf
  clear hcl hpf
  go_enter Try.func31, Try.ntmps31
  go_wp2_with fail
  generalize hw1 : w.alloc _ = w1 at *
  have hb1 : Below w.heap.size w w1 := by rw [← hw1]; exact (Below.refl _ _).alloc (Nat.le_refl _) _
  have hblk : w1.heap[w.heap.size]? = some (.cells #[.int .i64 n, .slice A cl.length c, .slice B pf.length d, .int .i64 bud] 59 (0, 0)) := by rw [← hw1]; exact heap_alloc_new w _
  have hlt := blk_lt hblk
  generalize hbq : w.heap.size = b at *
  have g0 := cell_blk hblk 0
  have g1 := cell_blk hblk 1
  have g2 := cell_blk hblk 2
  have g3 := cell_blk hblk 3
  have HBQ := Lib.hid hbq
  have HB1 := Lib.hid hb1
  have HBLK := Lib.hid hblk
  have HC1 := Lib.hid (Kd.C_below HC.out (hbq ▸ hb1))
  have HP2 : Hid ((Kd.int .i64).C w1.drew B pf.length pf) := Kd.C_below HP.out (hbq ▸ hb1.drew)
  clear hw1 hb1 hblk hbq
  have hl1 : (cl.length + 1) * 24 ≤ 140737488355328 := by omega
  have hl0 : cl.length * 24 ≤ 140737488355328 := by omega
  have hby : 0 < 24 := by decide
  have G0 := Lib.hid g0
  have G1 : Hid (w1.drew.cell? ⟨b, 1, none⟩ = some (.slice A cl.length c)) := g1
  have G2 : Hid (w1.drew.cell? ⟨b, 2, none⟩ = some (.slice B pf.length d)) := g2
  go_region_held3 (fun w' => w'.cell? ⟨b, 1, none⟩ = some (.slice A cl.length c) ∧ w'.cell? ⟨b, 2, none⟩ = some (.slice B pf.length d)) (first | go_keep | (refine ⟨pw_cell_below hB G1.out, pw_cell_below hB G2.out⟩; done) | (refine ⟨pw_cell_below hB2 G1.out, pw_cell_below hB2 G2.out⟩; done))
    (first
     | (go_at_call 38; refine (clone_rows (w := w1.drew) (Kd.C_below HC1.out ((Below.refl _ _).drew)) hl0).mono ?_; rintro e w' ⟨v, rfl, hR, hB⟩)
     | (go_at_call 38; refine (clone_rows (w := w1.drew.alloc _) (Kd.C_below HC1.out (((Below.refl _ _).drew).alloc (Nat.le_refl _) _)) hl0).mono ?_; rintro e w' ⟨v, rfl, hR, hB0⟩; have hB := (((Below.refl w1.drew.heap.size w1.drew).alloc (Nat.le_refl _) (.cells #[.slice B pf.length d] 23))).trans (hB0.mono (by simp)))
     | (refine Kd.R_append_step (FRows w1.drew) (w0 := w1.drew) w1.drew.heap.size rfl (.tmp 27) (.tmp 30) 22 23 (.slice none 0 0) 24 rfl Try.underlying22 infoRow rfl (Nat.succ_pos 0) hby v cl pf [.slice B pf.length d] (fun _ => True) (fun k => some k ≠ v.ownBlock) rfl rfl ⟨B, d, rfl, hpc, HP2.out⟩ (fun k h => ⟨trivial, h⟩) (fun _ _ => trivial) hR hB hB.size hl1 ?_; intro v2 w2 hR2 hB2 hG2 hA2; obtain ⟨A2, c2, rfl, hl2, hC2⟩ := fixed_reads hR2 hB2; have hB3 : Below w1.heap.size w1 w2 := (Below.refl _ _).drew.trans hB2)
     | (refine Kd.R_append_rows_step (FRows (w1.drew.alloc (.cells #[.slice B pf.length d] 23))) (Rr := KRows.K (w1.drew.alloc (.cells #[.slice B pf.length d] 23))) (w0 := w1.drew.alloc (.cells #[.slice B pf.length d] 23)) (w1.drew.alloc (.cells #[.slice B pf.length d] 23)).heap.size rfl (.tmp 27) (.tmp 30) 22 23 (.slice none 0 0) 24 rfl Try.underlying22 infoRow rfl (Nat.succ_pos 0) hby v cl [pf] (some ⟨w1.heap.size, 0, none⟩) 1 1 (fun _ => True) (fun k => some k ≠ v.ownBlock) rfl rfl hR (reads_one (W := w1.drew) (cs := [.slice B pf.length d]) ⟨B, d, rfl, hpc, Kd.C_below HP2.out ((Below.refl _ _).alloc (Nat.le_refl _) _)⟩ rfl hB0) (fun _ _ h => h) (fun k h => ⟨trivial, h⟩) (fun _ _ => trivial) hB0 hB0.size hl1 ?_; intro v2 w2 hR2 hB20 hG2 hA2; obtain ⟨A2, c2, rfl, hl2, hC2⟩ := fixed_reads hR2 hB20; have hB2 := (((Below.refl w1.drew.heap.size w1.drew).alloc (Nat.le_refl _) (.cells #[.slice B pf.length d] 23))).trans (hB20.mono (by simp)); have hB3 : Below w1.heap.size w1 w2 := (Below.refl _ _).drew.trans hB2))
  all_goals
    have hG0 : w2.cell? ⟨b, 0, none⟩ = some (.int .i64 n) := pw_cell_below hB3 G0.out
    have HB3 : Hid (Below w.heap.size w w2) := (HBQ.out.symm ▸ HB1.out).trans (hB3.mono (by have := HB1.out.size; omega))
    have HC2 := Lib.hid hC2
    have hlen2 : (cl ++ [pf]).length ≤ 9223372036854775807 := hC2.2.1
    clear hB3 hB2 hC2 hR2 hG2 hA2 hB hR g0 g1 g2 g3 hl2 G0 G1 G2 HP2 HC1 HBLK HP HC
    have hm1 : (cl ++ [pf]).length ≤ cl.length + 1 := by simp
    have hm3 : cl.length + 1 ≤ (cl ++ [pf]).length := by simp
    generalize hall : cl ++ [pf] = all at *
    have HALLQ := Lib.hid hall
    clear hall
    generalize hm2 : all.length = m2 at *
    generalize cl.length = cn at *
    have HM2 := Lib.hid hm2
    clear hm2
    go_wp2_with fail
    go_loopw [33] (fun i wr => ∃ k : Nat, k ≤ m2 ∧ i = .int .i64 k ∧ Hid ((all.drop k).all (fun c => c.all (Sv.rightL n)) = all.all (fun c => c.all (Sv.rightL n))) ∧ wr = w2) (fun i _ => m2 - (intOf i).toNat)
    case atStart => exact ⟨0, Nat.zero_le _, rfl, rfl, rfl⟩
    case round =>
      obtain ⟨k, hk, rfl, HALL, rfl⟩ := hrel
      by_cases hlt : k < m2
      · have hdk : decide ((k : Int) < (cn : Int) + 1) = true := decide_eq_true (by omega)
        have hlt' : k < all.length := by rw [HM2.out]; exact hlt
        obtain ⟨ad, A0, c0, rfl, hcell, _, hrow⟩ := rows_at HC2.out k hlt
        have hd : all.drop k = all.getD k [] :: all.drop (k + 1) := by rw [List.drop_eq_getElem_cons hlt']; simp [List.getD, hlt']
        have hA := HALL.out
        rw [hd, List.all_cons] at hA
        clear hd hlt'
        generalize all.getD k [] = row at *
        have HA := Lib.hid hA
        have HROW := Lib.hid hrow
        have hrl : row.length ≤ 9223372036854775807 := hrow.2.1
        generalize hrn : row.length = rn at *
        have HRN := Lib.hid hrn
        clear hA hrow hrn HALL
        go_wp2_with fail
        go_loopw [39] (fun i wi => ∃ j : Nat, j ≤ rn ∧ i = .int .i64 j ∧ Hid ((row.drop j).all (Sv.rightL n) = row.all (Sv.rightL n)) ∧ wi = wr) (fun i _ => rn - (intOf i).toNat)
        case atStart => exact ⟨0, Nat.zero_le _, rfl, rfl, rfl⟩
        case round =>
          obtain ⟨j, hj, rfl, HJ, rfl⟩ := hrel
          by_cases hlt2 : j < rn
          · have hlt' : j < row.length := by rw [HRN.out]; exact hlt2
            obtain ⟨ad2, rfl, hcell2⟩ := Kd.at_int HROW.out j (by omega) (by omega)
            rw [Int.toNat_natCast] at hcell2
            have hd : row.drop j = rd row j :: row.drop (j + 1) := by rw [List.drop_eq_getElem_cons hlt', rd, Int.toNat_natCast]; simp [List.getD, hlt']
            have hJ := HJ.out
            rw [hd, List.all_cons] at hJ
            clear hd hlt' HJ
            generalize rd row j = lit at *
            cases hb : Sv.rightL n lit with
            | true =>
              rw [hb, Bool.true_and] at hJ
              have HJ2 := Lib.hid hJ
              have HRT := Lib.hid (hb ▸ right_any n lit wr ⟨h1, h2⟩)
              clear hJ hb
              go_wp2_with (go_at_call 39; refine HRT.out.mono ?_; rintro e w' ⟨rfl, rfl⟩)
              go_roundw
              case rel => exact ⟨j + 1, by omega, by go_num, HJ2.out, trivial⟩
              case measure => simp [intOf]; omega
            | false =>
              rw [hb, Bool.false_and] at hJ
              have HJ2 := Lib.hid hJ
              have HRT := Lib.hid (hb ▸ right_any n lit wr ⟨h1, h2⟩)
              clear hJ hb
              go_wp2_with (go_at_call 39; refine HRT.out.mono ?_; rintro e w' ⟨rfl, rfl⟩)
              go_ret
              exact ⟨by rw [HALLQ.out, Sv.litsOK, ← HA.out, ← HJ2.out]; rfl, HB3.out⟩
          · have hJ := HJ.out
            rw [List.drop_eq_nil_of_le (by have := HRN.out; omega), List.all_nil] at hJ
            have HA2 := HA.out
            rw [← hJ, Bool.true_and] at HA2
            have HA3 := Lib.hid HA2
            clear hJ HA2 HJ
            go_wp2_with fail
            go_roundw
            case rel => exact ⟨k + 1, by omega, by go_num, HA3.out, trivial⟩
            case measure => simp [intOf]; omega
      · have hA := HALL.out
        rw [List.drop_eq_nil_of_le (by have := HM2.out; omega), List.all_nil] at hA
        have HA := Lib.hid hA
        clear hA HALL
        go_wp2_with fail
        go_ret
        exact ⟨by rw [HALLQ.out, Sv.litsOK, ← HA.out]; rfl, HB3.out⟩

set_option maxRecDepth 100000 in
set_option maxHeartbeats 1600000 in
theorem check_bad {w : World} {n bud : Int} {cl pf : Value} (h : n < 0 ∨ 131071 < n ∨ bud < 0 ∨ 1152921504606846976 < bud) :
    Calls Try.prog 31 #[.agg #[.int .i64 n, cl, pf, .int .i64 bud]] w fun e w' => e = .returned (.int .i64 1) ∧ Below w.heap.size w w' := by
  have hb1 := (Below.refl w.heap.size w).alloc (Nat.le_refl _) (.cells #[.int .i64 n, cl, pf, .int .i64 bud] 59)
  have HB1 := Lib.hid hb1
  clear hb1
  by_cases c1 : n < 0
  · clear h
    go_enter Try.func31, Try.ntmps31
    go_wp2_with fail
    go_ret
    exact ⟨rfl, HB1.out⟩
  · by_cases c2 : 131071 < n
    · clear h
      go_enter Try.func31, Try.ntmps31
      go_wp2_with fail
      go_ret
      exact ⟨rfl, HB1.out⟩
    · by_cases c3 : bud < 0
      · clear h
        go_enter Try.func31, Try.ntmps31
        go_wp2_with fail
        go_ret
        exact ⟨rfl, HB1.out⟩
      · have c4 : 1152921504606846976 < bud := by omega
        clear h
        go_enter Try.func31, Try.ntmps31
        go_wp2_with fail
        go_ret
        exact ⟨rfl, HB1.out⟩

theorem check_any {w : World} {n bud : Int} {A B : Option Addr} {c d : Nat} {cl : List (List Int)} {pf : List Int} (hcl : KRows.C w A cl.length cl) (hpf : (Kd.int .i64).C w B pf.length pf) (hpc : pf.length ≤ d) (hb : cl.length * 24 ≤ 140737488351232) :
    Calls Try.prog 31 #[.agg #[.int .i64 n, .slice A cl.length c, .slice B pf.length d, .int .i64 bud]] w fun e w' => e = .returned (.int .i64 (Sv.check n cl pf bud)) ∧ Below w.heap.size w w' := by
  by_cases h : n < 0 ∨ 131071 < n ∨ bud < 0 ∨ 1152921504606846976 < bud
  · rw [Sv.check, if_pos h]
    exact check_bad h
  · rw [Sv.check, if_neg h]
    exact check_ok hcl hpf hpc hb (by omega) (by omega) (by omega) (by omega)
end Go.Proofs.Ytfeablchjlkjiaa
