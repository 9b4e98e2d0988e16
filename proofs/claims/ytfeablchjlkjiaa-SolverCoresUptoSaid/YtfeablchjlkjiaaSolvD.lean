/-
  WALKS over package solver, fourth part: back.
-/
import Derived.Test.YtfeablchjlkjiaaSolvC
import Derived.Test.YtfeablchjlkjiaaWMore
namespace Go.Proofs.Ytfeablchjlkjiaa
open Go.RowKit Go.Proofs.YtfeablchjlkjiaaW.PrintWords Go.Proofs.YtfeablchjlkjiaaW.PrintMore
attribute [local go_sem] max2_int max_two

/-- The last decision in memory. -/
theorem ch_top {w : World} {base : Nat} {cv : Value} {a : Int} {sec : Bool} {r : List (Int × Bool)} (h : w.ownsRow base 94 2 cv (r.length + 1) (chCells ((a, sec) :: r))) :
    ∃ cb cc, cv = .slice (some ⟨cb, 0, none⟩) (r.length + 1) cc ∧ base ≤ cb ∧ r.length + 1 ≤ cc ∧ w.cell? ⟨cb, r.length * 2, none⟩ = some (.int .i64 a) ∧ w.cell? ⟨cb, r.length * 2 + 1, none⟩ = some (.bool sec) ∧ ∀ i, w.frozen? ⟨cb, i, none⟩ = false := by
  obtain ⟨cb, cc, rfl, h2, h3⟩ := h.form (by omega)
  have hl := chCells_length r
  refine ⟨cb, cc, rfl, own_base h cb rfl, own_cap h, ?_, ?_, fun i => h.frozenAt i⟩
  · rw [h.cellAt _ (by omega), chCells, List.getElem?_append_right (by omega), hl]
    simp
  · rw [h.cellAt _ (by omega), chCells, List.getElem?_append_right (by omega), hl]
    simp

theorem ch_top' {w : World} {base cb cc m : Nat} {a : Int} {sec : Bool} {r : List (Int × Bool)} (hm : r.length = m) (h : w.ownsRow base 94 2 (.slice (some ⟨cb, 0, none⟩) (m + 1) cc) (r.length + 1) (chCells ((a, sec) :: r))) :
    w.cell? ⟨cb, m * 2, none⟩ = some (.int .i64 a) ∧ w.cell? ⟨cb, m * 2 + 1, none⟩ = some (.bool sec) ∧ ∀ i, w.frozen? ⟨cb, i, none⟩ = false := by
  subst hm
  obtain ⟨cb', cc', he, _, _, h1, h2, h3⟩ := ch_top h
  cases he
  exact ⟨h1, h2, h3⟩

/-- The trail in memory: its literals. -/
theorem tr_at {w : World} {base : Nat} {tv : Value} {tr : List Int} (h : w.ownsRow base 3 1 tv tr.length (nums .i64 tr)) (hn : 0 < tr.length) :
    ∃ tb tc, tv = .slice (some ⟨tb, 0, none⟩) tr.length tc ∧ base ≤ tb ∧ tr.length ≤ tc ∧ ∀ k, k < tr.length → w.cell? ⟨tb, k, none⟩ = some (.int .i64 (tr.getD k 0)) := by
  obtain ⟨tb, tc, rfl, h2, h3⟩ := h.form (by omega)
  refine ⟨tb, tc, rfl, own_base h tb rfl, own_cap h, fun k hk => ?_⟩
  rw [h.cellAt _ (by omega)]
  simp [nums, hk]

def BackPost (base g : Nat) (p : Pb) (s : St) (w : World) (e : Ending) (w' : World) : Prop :=
  match Sv.back s.ch s.vals s.tr with
  | none => e = .returned (.bool false) ∧ (∃ v t, IsSome base w' g p ⟨v, t, [], s.steps⟩) ∧ Keep base w w'
  | some (ch, v, t) => e = .returned (.bool true) ∧ IsSome base w' g p { s with ch := ch, vals := v, tr := t } ∧ Keep base w w'

theorem undo_take {v t : List Int} {k j : Nat} (hj : k + j < t.length) : Sv.undo v ((t.drop k).take (j + 1)) = (Sv.undo v ((t.drop k).take j)).set (max (t.getD (k + j) 0) (-(t.getD (k + j) 0)) - 1).toNat 0 := by
  have hl : j < (t.drop k).length := by rw [List.length_drop]; omega
  rw [List.take_succ_eq_append_getElem hl, Sv.undo_snoc]
  simp [List.getD, hj]

theorem IsS.setv {w : World} {base g : Nat} {p : Pb} {s : St} {vb : Nat} {tv cv : Value} (hs : IsS base w g p s vb tv cv) (k : Nat) (x : Int) :
    IsS base (w.setCell ⟨vb, k, none⟩ (.int .i8 x)) g p { s with vals := s.vals.set k x } vb tv cv ∧ Keep base w (w.setCell ⟨vb, k, none⟩ (.int .i8 x)) :=
  ⟨⟨hs.at_.setv k x, own_setCell (p := ⟨vb, k, none⟩) hs.tr (own_ne hs.tr hs.at_.val (by decide)) _, own_setCell (p := ⟨vb, k, none⟩) hs.ch (own_ne hs.ch hs.at_.val (by decide)) _, hs.gb, hs.vbb, by simpa [World.setCell] using hs.size⟩,
    (Keep.refl base w).set hs.at_.val (by decide) hs.vbb _⟩

theorem own_cut {w : World} {base n m c size : Nat} {e : TypeId} {A : Option Addr} {xs : List Value} (h : w.ownsRow base e size (.slice A n c) n xs) (hm : m ≤ n) (hc : 0 < n) : w.ownsRow base e size (.slice A m c) m (xs.take (m * size)) := by
  obtain ⟨h1, h2⟩ := h
  rcases h2 with ⟨he, _⟩ | ⟨g, cap, cur, he, hg, hh, hnc, hcm, hcs, hcur⟩
  · injection he with _ h3 _; omega
  · injection he with ha hn hcap
    subst ha hcap
    have hle : m * size ≤ n * size := Nat.mul_le_mul_right _ hm
    refine ⟨by rw [List.length_take, h1]; omega, .inr ⟨g, c, cur, rfl, hg, hh, by omega, hcm, hcs, ?_⟩⟩
    rw [← hcur, List.take_take, Nat.min_eq_left hle]

theorem IsS.cutTr {w : World} {base g : Nat} {p : Pb} {s : St} {vb tb tc : Nat} {cv : Value} (hs : IsS base w g p s vb (.slice (some ⟨tb, 0, none⟩) s.tr.length tc) cv) (k : Nat) (hk : k ≤ s.tr.length) (h0 : 0 < s.tr.length) :
    IsS base (w.setCell ⟨g, 5, none⟩ (.slice (some ⟨tb, 0, none⟩) k tc)) g p { s with tr := s.tr.take k } vb (.slice (some ⟨tb, 0, none⟩) k tc) cv ∧ Keep base w (w.setCell ⟨g, 5, none⟩ (.slice (some ⟨tb, 0, none⟩) k tc)) := by
  have hl : (s.tr.take k).length = k := by rw [List.length_take]; omega
  refine ⟨⟨hs.at_.set5 _, ?_, own_setCell (p := ⟨g, 5, none⟩) hs.ch (own_ne hs.ch hs.at_.blk (by decide)) _, hs.gb, hs.vbb, by simpa [World.setCell] using hs.size⟩, (Keep.refl base w).set hs.at_.blk (by decide) hs.gb _⟩
  have h1 := own_cut hs.tr hk h0
  rw [Nat.mul_one] at h1
  have h2 := own_setCell (p := ⟨g, 5, none⟩) h1 (own_ne h1 hs.at_.blk (by decide)) (.slice (some ⟨tb, 0, none⟩) k tc)
  show World.ownsRow _ base _ 1 _ (s.tr.take k).length (nums .i64 (s.tr.take k))
  rw [hl]
  have e : nums .i64 (s.tr.take k) = (nums .i64 s.tr).take k := by simp [nums, List.map_take]
  rw [e]
  exact h2

theorem LitOf.neg {v v' : List Int} {l : Int} (h : LitOf v l) (e : v'.length = v.length) : LitOf v' (-l) := by
  obtain ⟨h1, h2, h3⟩ := h
  unfold LitOf
  rw [e]
  omega

theorem own_stored {w : World} {base n c size g : Nat} {e : TypeId} {xs : List Value} (h : w.ownsRow base e size (.slice (some ⟨g, 0, none⟩) n c) n xs) (j : Nat) (u : Value) : (w.setCell ⟨g, j, none⟩ u).ownsRow base e size (.slice (some ⟨g, 0, none⟩) n c) n (xs.set j u) :=
  (h.stored j u).1

theorem own_heap {w : World} {base n c size g : Nat} {e : TypeId} {xs : List Value} (h : w.ownsRow base e size (.slice (some ⟨g, 0, none⟩) n c) n xs) : ∃ cur, w.heap[g]? = some (.cells cur e (0, 0)) ∧ base ≤ g :=
  let ⟨cur, hc⟩ := own_typed h g rfl
  ⟨cur, hc, own_base h g rfl⟩

theorem IsS.flip {w : World} {base g : Nat} {p : Pb} {v t : List Int} {a : Int} {sec : Bool} {r : List (Int × Bool)} {st : Int} {vb cb cc : Nat} {tv : Value} (hs : IsS base w g p ⟨v, t, (a, sec) :: r, st⟩ vb tv (.slice (some ⟨cb, 0, none⟩) (r.length + 1) cc)) :
    IsS base (w.setCell ⟨cb, r.length * 2 + 1, none⟩ (.bool true)) g p ⟨v, t, (a, true) :: r, st⟩ vb tv (.slice (some ⟨cb, 0, none⟩) (r.length + 1) cc) ∧ Keep base w (w.setCell ⟨cb, r.length * 2 + 1, none⟩ (.bool true)) := by
  obtain ⟨cur, hcur, hb⟩ := own_heap hs.ch
  have hgc : g ≠ cb := blk_ne hs.at_.blk hcur (by decide)
  have hvc : vb ≠ cb := blk_ne hs.at_.val hcur (by decide)
  refine ⟨⟨⟨blk_far hs.at_.blk (p := ⟨cb, r.length * 2 + 1, none⟩) hgc _, blk_far hs.at_.val (p := ⟨cb, r.length * 2 + 1, none⟩) hvc _⟩, own_setCell (p := ⟨cb, r.length * 2 + 1, none⟩) hs.tr (own_ne hs.tr hcur (by decide)) _, ?_, hs.gb, hs.vbb, by simpa [World.setCell] using hs.size⟩, (Keep.refl base w).set hcur (by decide) hb _⟩
  have h1 := own_stored hs.ch (r.length * 2 + 1) (.bool true)
  have e : (chCells ((a, sec) :: r)).set (r.length * 2 + 1) (.bool true) = chCells ((a, true) :: r) := by
    rw [chCells, List.set_append_right _ _ (by rw [chCells_length]; omega), chCells_length]
    simp [chCells]
  rw [e] at h1
  exact h1

theorem IsS.pop {w : World} {base g : Nat} {p : Pb} {v t : List Int} {x : Int × Bool} {r : List (Int × Bool)} {st : Int} {vb cb cc : Nat} {tv : Value} (hs : IsS base w g p ⟨v, t, x :: r, st⟩ vb tv (.slice (some ⟨cb, 0, none⟩) (r.length + 1) cc)) :
    IsS base (w.setCell ⟨g, 6, none⟩ (.slice (some ⟨cb, 0, none⟩) r.length cc)) g p ⟨v, t, r, st⟩ vb tv (.slice (some ⟨cb, 0, none⟩) r.length cc) ∧ Keep base w (w.setCell ⟨g, 6, none⟩ (.slice (some ⟨cb, 0, none⟩) r.length cc)) := by
  refine ⟨⟨hs.at_.set6 _, own_setCell (p := ⟨g, 6, none⟩) hs.tr (own_ne hs.tr hs.at_.blk (by decide)) _, ?_, hs.gb, hs.vbb, by simpa [World.setCell] using hs.size⟩, (Keep.refl base w).set hs.at_.blk (by decide) hs.gb _⟩
  have h1 := own_cut (m := r.length) hs.ch (Nat.le_succ _) (Nat.succ_pos _)
  have e : (chCells (x :: r)).take (r.length * 2) = chCells r := by
    obtain ⟨a, b⟩ := x
    rw [chCells, ← chCells_length, List.take_left]
  rw [e] at h1
  exact own_setCell (p := ⟨g, 6, none⟩) h1 (own_ne h1 hs.at_.blk (by decide)) _

structure BackOK (s : St) : Prop where
  ch : Sv.ChOK s.ch s.tr.length
  lit : ∀ x ∈ s.tr, LitOf s.vals x
  tr : s.tr.length ≤ 200000
  vals : s.vals.length ≤ 131071

set_option maxRecDepth 100000 in
set_option maxHeartbeats 1600000 in
theorem back_any {w : World} {base g : Nat} {p : Pb} {s : St} (hs : IsSome base w g p s) (hok : BackOK s) :
    Calls Try.prog 41 #[.pointer (some ⟨g, 0, none⟩)] w (BackPost base g p s w) := by
  go_enter Try.func41, Try.ntmps41
  go_wp2_with fail
  go_loopg [] s.ch.length (fun kq wr => ∃ s1 vb tv cv, s1.ch.length = kq ∧ s1.steps = s.steps ∧ IsS base wr g p s1 vb tv cv ∧ BackOK s1 ∧ Sv.back s1.ch s1.vals s1.tr = Sv.back s.ch s.vals s.tr ∧ Keep base w wr)
  case atStart => obtain ⟨vb, tv, cv, h⟩ := hs; exact ⟨s, vb, tv, cv, rfl, rfl, h, hok, rfl, Keep.refl _ _⟩
  case round =>
    obtain ⟨⟨v1, t1, c1, st1⟩, vb, tv, cv, hq, rfl, hs1, hok1, hbk, hk1⟩ := hrel
    cases c1 with
    | nil =>
      obtain ⟨cA, cc, rfl⟩ := own_slice hs1.ch
      have h6 : wr.cell? ⟨g, 6, none⟩ = some (.slice cA 0 cc) := hs1.at_.cell 6
      have HS := Lib.hid hs
      have HS1 := Lib.hid hs1
      have HOK := Lib.hid hok1
      have HBK := Lib.hid hbk
      have HK := Lib.hid hk1
      clear hs hs1 hok1 hbk hk1
      go_wp2_with fail
      go_ret
      unfold BackPost
      rw [← HBK.out]
      exact ⟨rfl, ⟨_, _, _, _, _, HS1.out⟩, HK.out⟩
    | cons top r =>
      obtain ⟨a, sec⟩ := top
      obtain ⟨hc0, hc1, hc2⟩ := hok1.ch
      obtain ⟨cb, cc, rfl, hcb, hcc, ha, hsec, hcf⟩ := ch_top hs1.ch
      have hc1' : a < t1.length := hc1
      obtain ⟨tb, tc, rfl, htb, htc, htr⟩ := tr_at hs1.tr (show 0 < t1.length by omega)
      have h6 : wr.cell? ⟨g, 6, none⟩ = some (.slice (some ⟨cb, 0, none⟩) (r.length + 1) cc) := hs1.at_.cell 6
      have h5 : wr.cell? ⟨g, 5, none⟩ = some (.slice (some ⟨tb, 0, none⟩) t1.length tc) := hs1.at_.cell 5
      obtain ⟨k, rfl⟩ := Int.eq_ofNat_of_zero_le hc0
      have hkt : k < t1.length := by omega
      have hlit : wr.cell? ⟨tb, k, none⟩ = some (.int .i64 (t1.getD k 0)) := htr k hkt
      have hrl : r.length ≤ 200000 := by
        have h3 := hok1.tr
        have h4 : t1.length ≤ 200000 := h3
        rcases Sv.ChOK_length r _ hc2 with h | h
        · rw [h]; simp
        · omega
      have hlo := hok1.lit (t1.getD k 0) (by show t1.getD k 0 ∈ t1; rw [List.getD_eq_getElem?_getD, List.getElem?_eq_getElem hkt]; exact List.getElem_mem _)
      have hlb : -131071 ≤ t1.getD k 0 ∧ t1.getD k 0 ≤ 131071 := by
        obtain ⟨_, h1, h2⟩ := hlo
        have := hok1.vals
        constructor <;> omega
      obtain ⟨hlb1, hlb2⟩ := hlb
      generalize hrq : r.length = m at *
      generalize hlq : t1.getD k 0 = lit at *
      have htl : t1.length ≤ 200000 := hok1.tr
      have HS := Lib.hid hs
      have HS1 := Lib.hid hs1
      have HOK := Lib.hid hok1
      have HBK := Lib.hid hbk
      have HK := Lib.hid hk1
      have HRQ := Lib.hid hrq
      have HLQ := Lib.hid hlq
      have HTR := Lib.hid htr
      have HLO := Lib.hid hlo
      clear hlo hs hs1 hok1 hbk hk1 hrq hlq htr hc0 hc1
      go_wp2_with fail
      go_quiet (fail)
      go_wp2_with fail
      go_quiet (fail)
      go_wp2_with fail
      go_quiet (fail)
      go_wp2_with fail
      generalize hwo : ((wr.drewN _).drewN _).drewN _ = wo at *
      have hs2 : IsS base wo g p ⟨v1, t1, ((k : Int), sec) :: r, s.steps⟩ vb (.slice (some ⟨tb, 0, none⟩) t1.length tc) (.slice (some ⟨cb, 0, none⟩) (m + 1) cc) := by rw [← hwo]; exact ((HS1.out.drewN _).drewN _).drewN _
      have hk2 : Keep base w wo := by rw [← hwo]; exact ((HK.out.drewN _).drewN _).drewN _
      have HS2 := Lib.hid hs2
      have HK2 := Lib.hid hk2
      clear hs2 hk2 hwo h5 h6 ha hsec hcf hlit
      go_loopw [44] (fun i wi => ∃ j : Nat, j ≤ t1.length - k ∧ i = .int .i64 j ∧ IsS base wi g p ⟨Sv.undo v1 ((t1.drop k).take j), t1, ((k : Int), sec) :: r, s.steps⟩ vb (.slice (some ⟨tb, 0, none⟩) t1.length tc) (.slice (some ⟨cb, 0, none⟩) (m + 1) cc) ∧ Keep base w wi) (fun i _ => t1.length - k - (intOf i).toNat)
      case atStart => exact ⟨0, by omega, rfl, HS2.out, HK2.out⟩
      case round =>
        obtain ⟨j, hj, rfl, hs3, hk3⟩ := hrel
        by_cases hlt : j < t1.length - k
        · obtain ⟨tb', tc', he, _, _, htr⟩ := tr_at hs3.tr (show 0 < t1.length by omega)
          cases he
          have hcell : wr.cell? ⟨tb, k + j, none⟩ = some (.int .i64 (t1.getD (k + j) 0)) := htr (k + j) (show k + j < t1.length by omega)
          have hx : LitOf v1 (t1.getD (k + j) 0) := HOK.out.lit _ (by show t1.getD (k + j) 0 ∈ t1; rw [List.getD_eq_getElem?_getD, List.getElem?_eq_getElem (show k + j < t1.length by omega)]; exact List.getElem_mem _)
          have hun := undo_take (v := v1) (show k + j < t1.length by omega)
          have g4 := hs3.at_.cell 4
          have hul := Sv.undo_length ((t1.drop k).take j) v1
          generalize hxx : t1.getD (k + j) 0 = x at *
          obtain ⟨hx0, hx1, hx2⟩ := hx
          have hvl : v1.length ≤ 131071 := HOK.out.vals
          obtain ⟨q, hq, hq2⟩ : ∃ q : Nat, q < v1.length ∧ (x = q + 1 ∨ x = -(q + 1)) := by
            by_cases h : 0 < x
            · exact ⟨(x - 1).toNat, by omega, by omega⟩
            · exact ⟨(-x - 1).toNat, by omega, by omega⟩
          have hmx : (max x (-x) - 1).toNat = q := by omega
          rw [hmx] at hun
          have hst := hs3.setv q 0
          have gq := hs3.at_.vcell q (by show q < (Sv.undo v1 _).length; rw [hul]; exact hq)
          have fq := hs3.at_.vfree q
          have HST := Lib.hid hst
          have HUN := Lib.hid hun
          have HK3 := Lib.hid hk3
          have HUL := Lib.hid hul
          have g4' : wr.cell? ⟨g, 4, none⟩ = some (.slice (some ⟨vb, 0, none⟩) v1.length v1.length) := by rw [← hul]; exact g4
          clear hst hun hk3 hul hs3 g4 htr hxx hx0 hx1 hx2 hmx
          rcases hq2 with rfl | rfl
          all_goals
            go_wp2
            go_roundw
            case rel => exact ⟨j + 1, by omega, by go_num, by rw [HUN.out]; exact HST.out.1, HK3.out.trans HST.out.2⟩
            case measure => simp [intOf]; omega
        · obtain rfl : j = t1.length - k := by omega
          have e : (t1.drop k).take (t1.length - k) = t1.drop k := List.take_of_length_le (by rw [List.length_drop]; omega)
          rw [e] at hs3
          obtain ⟨ha, hsec, hcf⟩ := ch_top' HRQ.out hs3.ch
          have g5 : wr.cell? ⟨g, 5, none⟩ = some (.slice (some ⟨tb, 0, none⟩) t1.length tc) := hs3.at_.cell 5
          have f5 := hs3.at_.free 5
          have HS3 := Lib.hid hs3
          have HK3 := Lib.hid hk3
          clear e hs3 hk3 hsec
          go_wp2
          go_region
          generalize hw5 : World.drew (World.setCell _ _ _) = w5 at *
          have hs5 : IsS base w5 g p ⟨Sv.undo v1 (t1.drop k), t1.take k, ((k : Int), sec) :: r, s.steps⟩ vb (.slice (some ⟨tb, 0, none⟩) k tc) (.slice (some ⟨cb, 0, none⟩) (r.length + 1) cc) := by rw [← hw5, HRQ.out]; exact (HS3.out.cutTr k (Nat.le_of_lt hkt) (show 0 < t1.length by omega)).1.drew
          have hk5 : Keep base w w5 := by rw [← hw5]; exact (HK3.out.trans (HS3.out.cutTr k (Nat.le_of_lt hkt) (show 0 < t1.length by omega)).2).drew
          rw [HRQ.out] at hs5
          obtain ⟨ha', hsec', hcf'⟩ := ch_top' HRQ.out hs5.ch
          have g6 : w5.cell? ⟨g, 6, none⟩ = some (.slice (some ⟨cb, 0, none⟩) (m + 1) cc) := hs5.at_.cell 6
          have f6 := hs5.at_.free 6
          have fb := hcf' (m * 2 + 1)
          have HS5 := Lib.hid hs5
          have HK5 := Lib.hid hk5
          clear hw5 hs5 hk5 hcf' hcf ha g5 f5
          cases sec with
          | true =>
            go_wp2
            go_region
            go_wp2_with fail
            have hpop := (HRQ.out ▸ HS5.out : IsS base w5 g p _ vb _ (.slice (some ⟨cb, 0, none⟩) (r.length + 1) cc)).pop
            rw [HRQ.out] at hpop
            obtain ⟨k1, rfl⟩ : ∃ k1, gk = k1 + 1 := ⟨r.length, by rw [← hq]; rfl⟩
            have HPOP := Lib.hid hpop
            have HQ := Lib.hid hq
            clear hpop hq
            go_roundg k1
            case measure => omega
            case rel =>
              refine ⟨⟨Sv.undo v1 (t1.drop k), t1.take k, r, s.steps⟩, vb, _, _, by have := HQ.out; simpa using this, rfl, HPOP.out.1.drew, ⟨?_, ?_, ?_, ?_⟩, ?_, (HK5.out.trans HPOP.out.2).drew⟩
              · show Sv.ChOK r ((t1.take k).length : Int)
                rw [List.length_take, Nat.min_eq_left (Nat.le_of_lt hkt)]
                exact hc2
              · intro x hx
                have := HOK.out.lit x (List.mem_of_mem_take hx)
                show LitOf (Sv.undo v1 _) x
                unfold LitOf
                rw [Sv.undo_length]
                exact this
              · show (t1.take k).length ≤ _
                rw [List.length_take]
                omega
              · show (Sv.undo v1 _).length ≤ _
                rw [Sv.undo_length]
                exact HOK.out.vals
              · rw [← HBK.out, Sv.back, if_pos rfl, Int.toNat_natCast]
          | false =>
            have hfl := (HRQ.out ▸ HS5.out : IsS base w5 g p ⟨_, _, ((k : Int), false) :: r, _⟩ vb _ (.slice (some ⟨cb, 0, none⟩) (r.length + 1) cc)).flip
            rw [HRQ.out] at hfl
            have hset := set_any hfl.1 (-lit) (HLO.out.neg (Sv.undo_length _ _)) (by show (Sv.undo v1 _).length ≤ _; rw [Sv.undo_length]; exact HOK.out.vals) (by show (t1.take k).length ≤ _; rw [List.length_take]; omega)
            have HFL := Lib.hid hfl
            have HSET := Lib.hid hset
            clear hfl hset
            go_wp2_with fail
            refine HSET.out.mono ?_
            rintro e w' ⟨rfl, hq1, hq2⟩
            have HQ1 := Lib.hid hq1
            have HQ2 := Lib.hid hq2
            clear hq1 hq2
            go_wp2_with fail
            go_ret
            unfold BackPost
            rw [← HBK.out, Sv.back, if_neg (by decide), Int.toNat_natCast, HLQ.out]
            exact ⟨rfl, HQ1.out, HK5.out.trans (HFL.out.2.trans HQ2.out)⟩
end Go.Proofs.Ytfeablchjlkjiaa
