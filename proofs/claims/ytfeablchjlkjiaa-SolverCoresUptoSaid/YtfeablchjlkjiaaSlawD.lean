/-
  WALKS over larderlaw09's helpers: problem, lives.
-/
import Derived.Test.YtfeablchjlkjiaaSlawC
namespace Go.Proofs.Ytfeablchjlkjiaa
open Go.RowKit Go.Proofs.YtfeablchjlkjiaaW.PrintWords Go.Proofs.YtfeablchjlkjiaaW.PrintMore

def problemL (n : Int) (cl : List (List Int)) (pf : List Int) (bud : Int) : Bool := decide (Sv.check n cl pf bud = 0)

theorem litsOK_cons (n : Int) (cl : List (List Int)) (pf : List Int) : Sv.litsOK n (pf :: cl) = Sv.litsOK n (cl ++ [pf]) := by
  unfold Sv.litsOK
  rw [List.all_cons, List.all_append, List.all_cons, List.all_nil, Bool.and_true, Bool.and_comm]

def litsB (n : Int) (all : List (List Int)) : Bool := all.all (fun c => c.all (Sv.rightL n))
theorem litsB_iff (n : Int) (all : List (List Int)) : litsB n all = decide (Sv.litsOK n all = 0) := by
  unfold litsB Sv.litsOK
  cases all.all (fun c => c.all (Sv.rightL n)) <;> simp

set_option maxRecDepth 100000 in
set_option maxHeartbeats 1600000 in
theorem problem_bad {w : World} {n bud : Int} {A B : Value} (h : n < 0 ∨ 131071 < n ∨ bud < 0 ∨ 1152921504606846976 < bud) :
    Calls Try.prog 22 #[.int .i64 n, A, B, .int .i64 bud] w fun e w' => e = .returned (.bool false) ∧ w' = w := by
  by_cases c1 : n < 0
  · clear h
    go_enter Try.func22, Try.ntmps22
    go_wp2_with fail
    go_ret
    exact ⟨rfl, rfl⟩
  · by_cases c2 : 131071 < n
    · clear h
      go_enter Try.func22, Try.ntmps22
      go_wp2_with fail
      go_ret
      exact ⟨rfl, rfl⟩
    · by_cases c3 : bud < 0
      · clear h
        go_enter Try.func22, Try.ntmps22
        go_wp2_with fail
        go_ret
        exact ⟨rfl, rfl⟩
      · have c4 : 1152921504606846976 < bud := by omega
        clear h
        go_enter Try.func22, Try.ntmps22
        go_wp2_with fail
        go_ret
        exact ⟨rfl, rfl⟩

set_option maxRecDepth 100000 in
set_option maxHeartbeats 1600000 in
theorem problem_ok {w : World} {n bud : Int} {A B : Option Addr} {c d : Nat} {cl : List (List Int)} {pf : List Int} (hcl : KRows.C w A cl.length cl) (hpf : (Kd.int .i64).C w B pf.length pf) (hpc : pf.length ≤ d) (hb : cl.length * 24 ≤ 140737488351232)
    (h1 : 0 ≤ n) (h2 : n ≤ 131071) (h3 : 0 ≤ bud) (h4 : bud ≤ 1152921504606846976) :
    Calls Try.prog 22 #[.int .i64 n, .slice A cl.length c, .slice B pf.length d, .int .i64 bud] w fun e w' => e = .returned (.bool (litsB n (pf :: cl))) ∧ Below w.heap.size w w' := by
  have hO : (FRows w).R 23 (w.alloc (.cells #[.slice B pf.length d] 23)) w.heap.size (fun _ => True) (.slice (some ⟨w.heap.size, 0, none⟩) 1 1) [pf] :=
    ⟨fun _ _ => trivial, [.slice B pf.length d], World.ownsRow_lit w #[.slice B pf.length d] 1 (Nat.le_refl _) (by decide) rfl, by
      refine ⟨rfl, fun j p hj => ?_⟩
      obtain rfl : j = 0 := by
        have := (List.getElem?_eq_some_iff.1 hj).1
        simpa using this
      obtain rfl : pf = p := by simpa using hj
      exact ⟨B, d, rfl, hpc, hpf⟩⟩
  have HO := Lib.hid hO
  have HC := Lib.hid hcl
  have hl1 : ([pf].length + cl.length) * 24 ≤ 140737488355328 := by simp; omega
  have HL1 := Lib.hid hl1
  have hby : 0 < 24 := by decide
  clear hO hcl hpf hl1
  go_enter Try.func22, Try.ntmps22
  go_wp2_with (at_builtin; refine Kd.R_append_rows (FRows w) (Rr := KRows.K w) (w0 := w) w.heap.size rfl (.tmp 27) (.tmp 28) 22 23 (.slice none 0 0) 24 rfl Try.underlying22 infoRow rfl (Nat.succ_pos 0) hby (.slice (some ⟨w.heap.size, 0, none⟩) 1 1) [pf] cl A cl.length c (fun _ => True) (fun k => k ≠ w.heap.size) rfl rfl HO.out (HC.out.imp_ ((Below.refl _ _).alloc (Nat.le_refl _) _) (fun _ _ h => h)) (fun _ _ h => h) (fun k h => ⟨trivial, fun e => h (Option.some.inj e)⟩) (fun _ _ => trivial) ((Below.refl _ _).alloc (Nat.le_refl _) _) (by simp) HL1.out ?_; intro v1 w1 hR1 hB1 hG1 hA1; obtain ⟨A1, c1, rfl, _, hC1⟩ := fixed_reads hR1 hB1; have HC1 := Lib.hid hC1; have HB1 := Lib.hid hB1; have hlen := hC1.2.1; clear hR1 hB1 hG1 hA1 hC1)
  have HALL := Lib.hid (rfl : litsB n (pf :: cl) = litsB n (pf :: cl))
  generalize hall : pf :: cl = all at *
  have hal : all.length = cl.length + 1 := by rw [← hall]; rfl
  have hall' : [pf] ++ cl = all := hall
  rw [hall'] at HC1 hlen
  generalize hm : cl.length = cn at *
  have HAL := Lib.hid hal
  have HALLQ := Lib.hid hall
  rw [hal] at HC1 hlen
  clear hal hall hm hall' HALL HO HC
  go_loop [10] (fun i => ∃ k : Nat, k ≤ cn + 1 ∧ i = .int .i64 k ∧ Hid (litsB n (all.drop k) = litsB n all)) (fun i => cn + 1 - (intOf i).toNat)
  case atStart => exact ⟨0, Nat.zero_le _, rfl, rfl⟩
  case round =>
    obtain ⟨k, hk, rfl, HK⟩ := hrel
    by_cases hlt : k < cn + 1
    · have hdk : decide ((k : Int) < (cn : Int) + 1) = true := decide_eq_true (by omega)
      have hlt' : k < all.length := by rw [HAL.out]; exact hlt
      obtain ⟨ad, A0, c0, rfl, hcell, _, hrow⟩ := rows_at HC1.out k hlt
      have hd : all.drop k = all.getD k [] :: all.drop (k + 1) := by rw [List.drop_eq_getElem_cons hlt']; simp [List.getD, hlt']
      have hA := HK.out
      rw [hd, litsB, List.all_cons] at hA
      clear hd hlt'
      generalize all.getD k [] = row at *
      have hrl : row.length ≤ 9223372036854775807 := hrow.2.1
      have HA := Lib.hid hA
      have HROW := Lib.hid hrow
      clear hA hrow HK
      go_wp2_with fail
      go_loop [11] (fun i => ∃ j : Nat, j ≤ row.length ∧ i = .int .i64 j ∧ Hid ((row.drop j).all (Sv.rightL n) = row.all (Sv.rightL n))) (fun i => row.length - (intOf i).toNat)
      case atStart => exact ⟨0, Nat.zero_le _, rfl, rfl⟩
      case round =>
        obtain ⟨j, hj, rfl, HJ⟩ := hrel
        by_cases hlt2 : j < row.length
        · obtain ⟨ad2, rfl, hcell2⟩ := Kd.at_int HROW.out j (by omega) (by omega)
          rw [Int.toNat_natCast] at hcell2
          have hd : row.drop j = rd row j :: row.drop (j + 1) := by rw [List.drop_eq_getElem_cons hlt2, rd, Int.toNat_natCast]; simp [List.getD, hlt2]
          have hJ := HJ.out
          rw [hd, List.all_cons] at hJ
          clear hd HJ
          generalize rd row j = lit at *
          by_cases c1 : lit = 0
          · subst c1
            rw [show Sv.rightL n 0 = false from by simp [Sv.rightL], Bool.false_and] at hJ
            have hA := HA.out
            rw [← hJ, Bool.false_and] at hA
            have HA2 := Lib.hid hA
            clear hA hJ
            go_wp2_with fail
            go_ret
            exact ⟨by rw [HALLQ.out, ← HA2.out]; rfl, HB1.out⟩
          · have hb1 : (lit == 0) = false := beq_eq_false_iff_ne.2 c1
            by_cases c2 : n < lit
            · rw [show Sv.rightL n lit = false from by simp [Sv.rightL]; omega, Bool.false_and] at hJ
              have hA := HA.out
              rw [← hJ, Bool.false_and] at hA
              have HA2 := Lib.hid hA
              clear hA hJ c1
              go_wp2_with fail
              go_ret
              exact ⟨by rw [HALLQ.out, ← HA2.out]; rfl, HB1.out⟩
            · by_cases c3 : lit < -n
              · rw [show Sv.rightL n lit = false from by simp [Sv.rightL]; omega, Bool.false_and] at hJ
                have hA := HA.out
                rw [← hJ, Bool.false_and] at hA
                have HA2 := Lib.hid hA
                clear hA hJ c1
                go_wp2_with fail
                go_ret
                exact ⟨by rw [HALLQ.out, ← HA2.out]; rfl, HB1.out⟩
              · rw [show Sv.rightL n lit = true from (rightL_iff n lit).2 ⟨c1, by omega, by omega⟩, Bool.true_and] at hJ
                have HJ2 := Lib.hid hJ
                clear hJ c1
                go_wp2_with fail
                go_round
                case rel => exact ⟨j + 1, by omega, by go_num, HJ2.out⟩
                case measure => simp [intOf]; omega
        · have hJ := HJ.out
          rw [List.drop_eq_nil_of_le (by omega), List.all_nil] at hJ
          have hA := HA.out
          rw [← hJ, Bool.true_and] at hA
          have HA2 := Lib.hid hA
          clear hA hJ HJ
          go_wp2_with fail
          go_round
          case rel => exact ⟨k + 1, by omega, by go_num, HA2.out⟩
          case measure => simp [intOf]; omega
    · have hA := HK.out
      rw [List.drop_eq_nil_of_le (by have := HAL.out; omega), litsB, List.all_nil] at hA
      have HA := Lib.hid hA
      clear hA HK
      go_wp2_with fail
      go_ret
      exact ⟨by rw [HALLQ.out, ← HA.out]; rfl, HB1.out⟩

theorem problem_any {w : World} {n bud : Int} {A B : Option Addr} {c d : Nat} {cl : List (List Int)} {pf : List Int} (hcl : KRows.C w A cl.length cl) (hpf : (Kd.int .i64).C w B pf.length pf) (hpc : pf.length ≤ d) (hb : cl.length * 24 ≤ 140737488351232) :
    Calls Try.prog 22 #[.int .i64 n, .slice A cl.length c, .slice B pf.length d, .int .i64 bud] w fun e w' => e = .returned (.bool (problemL n cl pf bud)) ∧ Below w.heap.size w w' := by
  by_cases h : n < 0 ∨ 131071 < n ∨ bud < 0 ∨ 1152921504606846976 < bud
  · refine (problem_bad h).mono ?_
    rintro e w' ⟨rfl, rfl⟩
    refine ⟨?_, Below.refl _ _⟩
    rw [problemL, Sv.check, if_pos h]
    rfl
  · refine (problem_ok hcl hpf hpc hb (by omega) (by omega) (by omega) (by omega)).mono ?_
    rintro e w' ⟨rfl, hb⟩
    refine ⟨?_, hb⟩
    rw [problemL, Sv.check, if_neg h, litsB_iff, litsOK_cons]

/-! ### literals -/
theorem lit_ints (W : World) (xs : List Int) (hm : xs.length ≤ 9223372036854775807) : (Kd.int .i64).C (W.alloc (.cells (nums .i64 xs).toArray 3)) (some ⟨W.heap.size, 0, none⟩) xs.length xs :=
  Kd.C_of_reads (enc := Value.int .i64) (d := (0 : Int)) (own_reads' (own_lit W W.heap.size 3 .i64 xs (Nat.le_refl _) hm))
theorem nil_ints (W : World) : (Kd.int .i64).C W none 0 [] := ⟨rfl, by omega, fun h => absurd h (Nat.lt_irrefl _)⟩
theorem lit_rows (W : World) (xs : List (List Int)) (cells : List Value) (hm : xs.length ≤ 9223372036854775807)
    (h : ∀ (j : Nat) (p : List Int), xs[j]? = some p → ∃ (A : Option Addr) (c : Nat), cells[j]? = some (Value.slice A p.length c) ∧ p.length ≤ c ∧ (Kd.int .i64).C W A p.length p) :
    KRows.C (W.alloc (.cells cells.toArray 23)) (some ⟨W.heap.size, 0, none⟩) xs.length xs := by
  refine ⟨rfl, hm, fun _ => ⟨_, rfl, fun j p hj => ?_⟩⟩
  obtain ⟨A, c, h1, h2, h3⟩ := h j p hj
  refine ⟨[.slice A p.length c], rfl, ⟨A, c, rfl, h2, Kd.C_below h3 ((Below.refl _ _).alloc (Nat.le_refl _) _)⟩, ?_⟩
  intro i u hu
  obtain rfl : i = 0 := by
    have := (List.getElem?_eq_some_iff.1 hu).1
    simpa using this
  obtain rfl : Value.slice A p.length c = u := by simpa using hu
  have hn := World.news_of_block (cs := cells.toArray) (t := 23) (fr := (0, 0)) (heap_alloc_new W (.cells cells.toArray 23)) j (.slice A p.length c) (by simpa using h1)
  have e : j * Kd.sz KRows + 0 = j := by
    show j * 1 + 0 = j
    omega
  rw [e]
  simpa using hn

theorem lit_bools (W : World) (xs : List Bool) (hm : xs.length ≤ 9223372036854775807) : Kd.bool.C (W.alloc (.cells (encs Value.bool xs).toArray 4)) (some ⟨W.heap.size, 0, none⟩) xs.length xs :=
  Kd.C_of_reads (enc := Value.bool) (d := false) (own_reads_of' (own_lit_of W W.heap.size 4 xs (Nat.le_refl _) hm))

theorem lives1 : Sv.solve 2 [[1, 2]] [-1] 9 = (⟨1, [false, true], 3⟩, 0) := rfl
theorem lives2 : Sv.solve 1 [[1], [-1]] [] 100 = (⟨2, [], 4⟩, 0) := rfl

set_option maxRecDepth 100000 in
set_option maxHeartbeats 1600000 in
theorem lives_any (w : World) : Calls Try.prog 21 #[] w fun e w' => e = .returned (.bool true) ∧ Below w.heap.size w w' := by
  go_enter Try.func21, Try.ntmps21
  go_wp2_with fail
  have hrows : KRows.C (((w.alloc (.cells #[.int .i64 1, .int .i64 2] 3)).alloc (.cells #[.slice (some ⟨w.heap.size, 0, none⟩) 2 2] 23)).alloc (.cells #[.int .i64 (-1)] 3)) (some ⟨w.heap.size + 1, 0, none⟩) 1 [[1, 2]] := by
    refine Kd.C_below ?_ ((Below.refl _ _).alloc (Nat.le_refl _) _)
    have h := lit_rows (w.alloc (.cells #[.int .i64 1, .int .i64 2] 3)) [[1, 2]] [.slice (some ⟨w.heap.size, 0, none⟩) 2 2] (by decide) (by
      intro j p hj
      obtain rfl : j = 0 := by
        have := (List.getElem?_eq_some_iff.1 hj).1
        simpa using this
      obtain rfl : [1, 2] = p := by simpa using hj
      exact ⟨_, 2, rfl, by decide, lit_ints w [1, 2] (by decide)⟩)
    simpa using h
  have hpf : (Kd.int .i64).C (((w.alloc (.cells #[.int .i64 1, .int .i64 2] 3)).alloc (.cells #[.slice (some ⟨w.heap.size, 0, none⟩) 2 2] 23)).alloc (.cells #[.int .i64 (-1)] 3)) (some ⟨w.heap.size + 1 + 1, 0, none⟩) 1 [-1] := by
    have h := lit_ints ((w.alloc (.cells #[.int .i64 1, .int .i64 2] 3)).alloc (.cells #[.slice (some ⟨w.heap.size, 0, none⟩) 2 2] 23)) [-1] (by decide)
    simpa [nums] using h
  have hb0 : Below w.heap.size w (((w.alloc (.cells #[.int .i64 1, .int .i64 2] 3)).alloc (.cells #[.slice (some ⟨w.heap.size, 0, none⟩) 2 2] 23)).alloc (.cells #[.int .i64 (-1)] 3)) := (((Below.refl _ _).alloc (Nat.le_refl _) _).alloc (by simp) _).alloc (by simp; omega) _
  have hsol := solve_any (n := 2) (bud := 9) (c := 1) (d := 1) hrows (Nat.le_refl _) hpf (Nat.le_refl _) (by decide)
  generalize World.alloc _ _ = w1 at *
  rw [lives1] at hsol
  have HSOL := Lib.hid hsol
  have HB0 := Lib.hid hb0
  clear hsol hrows hpf hb0
  refine HSOL.out.mono ?_
  rintro e w2 ⟨vv, rfl, hR, hB⟩
  obtain ⟨vA, vc, hv, hvc, hC⟩ := Kd.R_reads hR
  subst hv
  have HC := Lib.hid hC
  have HB2 := Lib.hid (HB0.out.trans (hB.mono HB0.out.size))
  clear hR hB hC
  go_wp2_with fail
  obtain ⟨f1, hf1⟩ : ∃ f1, f1 = w2.alloc (.cells #[.int .i64 1, .slice vA 2 vc, .int .i64 3] 28) := ⟨_, rfl⟩
  have hsz1 : f1.heap.size = w2.heap.size + 1 := by rw [hf1]; simp
  have hrows : KRows.C (((f1.alloc (.cells #[.int .i64 1] 3)).alloc (.cells #[.int .i64 (-1)] 3)).alloc (.cells #[.slice (some ⟨w2.heap.size + 1, 0, none⟩) 1 1, .slice (some ⟨w2.heap.size + 1 + 1, 0, none⟩) 1 1] 23)) (some ⟨w2.heap.size + 1 + 1 + 1, 0, none⟩) 2 [[1], [-1]] := by
    have h := lit_rows ((f1.alloc (.cells #[.int .i64 1] 3)).alloc (.cells #[.int .i64 (-1)] 3)) [[1], [-1]] [.slice (some ⟨w2.heap.size + 1, 0, none⟩) 1 1, .slice (some ⟨w2.heap.size + 1 + 1, 0, none⟩) 1 1] (by decide) (by
      intro j p hj
      have hjl := (List.getElem?_eq_some_iff.1 hj).1
      have hj2 : j = 0 ∨ j = 1 := by simp at hjl; omega
      rcases hj2 with rfl | rfl
      · obtain rfl : [1] = p := by simpa using hj
        refine ⟨_, 1, rfl, by decide, Kd.C_below ?_ ((Below.refl _ _).alloc (Nat.le_refl _) _)⟩
        have h := lit_ints f1 [1] (by decide)
        rw [hsz1] at h
        exact h
      · obtain rfl : [-1] = p := by simpa using hj
        refine ⟨_, 1, rfl, by decide, ?_⟩
        have h := lit_ints (f1.alloc (.cells #[.int .i64 1] 3)) [-1] (by decide)
        have hs : (f1.alloc (.cells #[.int .i64 1] 3)).heap.size = w2.heap.size + 1 + 1 := by simp [hsz1]
        rw [hs] at h
        exact h)
    have hs : ((f1.alloc (.cells #[.int .i64 1] 3)).alloc (.cells #[.int .i64 (-1)] 3)).heap.size = w2.heap.size + 1 + 1 + 1 := by simp [hsz1]
    rw [hs] at h
    exact h
  have hbf : Below w2.heap.size w2 f1 := by rw [hf1]; exact (Below.refl _ _).alloc (Nat.le_refl _) _
  have hb4 : Below f1.heap.size f1 (((f1.alloc (.cells #[.int .i64 1] 3)).alloc (.cells #[.int .i64 (-1)] 3)).alloc (.cells #[.slice (some ⟨w2.heap.size + 1, 0, none⟩) 1 1, .slice (some ⟨w2.heap.size + 1 + 1, 0, none⟩) 1 1] 23)) := (((Below.refl _ _).alloc (Nat.le_refl _) _).alloc (by simp) _).alloc (by simp; omega) _
  have hfb : f1.heap[w2.heap.size]? = some (.cells #[.int .i64 1, .slice vA 2 vc, .int .i64 3] 28 (0, 0)) := by rw [hf1]; exact heap_alloc_new w2 _
  have hsol2 := solve_any (n := 1) (bud := 100) (c := 2) (d := 0) hrows (Nat.le_refl _) (nil_ints _) (Nat.le_refl _) (by decide)
  rw [← hf1]
  generalize World.alloc (World.alloc (World.alloc f1 _) _) _ = w4 at *
  rw [lives2] at hsol2
  have HSOL2 := Lib.hid hsol2
  have HBF := Lib.hid hbf
  have HB4 := Lib.hid hb4
  have HFB := Lib.hid hfb
  have HSZ1 := Lib.hid hsz1
  clear hsol2 hrows hbf hb4 hfb hsz1 hf1
  refine HSOL2.out.mono ?_
  rintro e w5 ⟨vv2, rfl, hR, hB⟩
  obtain ⟨uA, uc, hv, huc, _⟩ := Kd.R_reads hR
  subst hv
  have hb5 := HB4.out.trans (hB.mono HB4.out.size)
  have hf5 : w5.heap[w2.heap.size]? = _ := (hb5.block _ (by have := HSZ1.out; omega)).trans HFB.out
  have c0 := cell_blk hf5 0
  have c1 := cell_blk hf5 1
  have c2 := cell_blk hf5 2
  have hlt5 := blk_lt hf5
  have hCv : Kd.bool.C w5 vA 2 [false, true] := Kd.C_below (Kd.C_below HC.out HBF.out) hb5
  have HCV := Lib.hid hCv
  have HB5 := Lib.hid (HB2.out.trans ((HBF.out.trans (hb5.mono (by have := HSZ1.out; omega))).mono HB2.out.size))
  clear hR hB hb5 hf5 hCv
  go_wp2_with fail
  have hbt := bools_true (c := vc) (d := 2) (xs := [false, true]) (Kd.C_below HCV.out (((Below.refl _ _).alloc (Nat.le_refl _) (.cells #[.int .i64 2, .slice uA 0 uc, .int .i64 4] 28)).alloc (by simp) (.cells #[.bool false, .bool true] 4)))
    (by have h := lit_bools (w5.alloc (.cells #[.int .i64 2, .slice uA 0 uc, .int .i64 4] 28)) [false, true] (by decide); simpa [encs] using h)
  have hb6 : Below w.heap.size w ((w5.alloc (.cells #[.int .i64 2, .slice uA 0 uc, .int .i64 4] 28)).alloc (.cells #[.bool false, .bool true] 4)) := (HB5.out.alloc HB5.out.size _).alloc (by have := HB5.out.size; simp; omega) _
  have HBT := Lib.hid hbt
  have HB6 := Lib.hid hb6
  clear hbt hb6
  refine HBT.out.mono ?_
  rintro e w7 ⟨rfl, m, rfl⟩
  go_wp2_with fail
  go_ret
  exact ⟨rfl, ⟨HB6.out.os, HB6.out.tape, HB6.out.output, HB6.out.size, HB6.out.block⟩⟩
end Go.Proofs.Ytfeablchjlkjiaa
