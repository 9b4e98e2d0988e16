/-
  WALK over larderlaw09's turned: each literal of lent lists is written over by its opposite.
-/
import Derived.Test.YtfeablchjlkjiaaSlvA
namespace Go.Proofs.Ytfeablchjlkjiaa
open Go.RowKit Go.Proofs.YtfeablchjlkjiaaW.PrintWords Go.Proofs.YtfeablchjlkjiaaW.PrintMore

/-- What turned makes of a literal. -/
def turnL (x : Int) : Int := if -4611686018427387904 < x ∧ x < 4611686018427387904 then -x else x
/-- Lists as lent, turned up to a place of one of them. -/
def turnF (f : Nat → List Int) (i k : Nat) (j : Nat) : List Int :=
  if j < i then (f j).map turnL else if j = i then ((f j).take k).map turnL ++ (f j).drop k else f j
theorem turnF_length (f : Nat → List Int) (i k j : Nat) : (turnF f i k j).length = (f j).length := by
  unfold turnF
  split
  · simp
  · split
    · simp; omega
    · rfl
theorem turnF_start (f : Nat → List Int) : turnF f 0 0 = f := by
  funext j
  unfold turnF
  rw [if_neg (by omega)]
  split <;> simp
theorem turnF_next (f : Nat → List Int) (i : Nat) : turnF f i (f i).length = turnF f (i + 1) 0 := by
  funext j
  unfold turnF
  by_cases h1 : j < i
  · rw [if_pos h1, if_pos (by omega)]
  · rw [if_neg h1]
    by_cases h2 : j = i
    · subst h2
      rw [if_pos rfl, if_pos (by omega), List.take_length, List.drop_length, List.append_nil]
    · rw [if_neg h2, if_neg (by omega)]
      split <;> simp
theorem turnF_at (f : Nat → List Int) (i k : Nat) : turnF f i k i = ((f i).take k).map turnL ++ (f i).drop k := by
  unfold turnF
  rw [if_neg (by omega), if_pos rfl]
theorem turnF_rd (f : Nat → List Int) (i k : Nat) (hk : k < (f i).length) : rd (turnF f i k i) (k : Int) = (f i).getD k 0 := by
  have hl : (((f i).take k).map turnL).length = k := by simp; omega
  rw [turnF_at, rd, Int.toNat_natCast, List.getD_eq_getElem?_getD, List.getElem?_append_right (by omega), hl, Nat.sub_self, List.getElem?_drop, Nat.add_zero, ← List.getD_eq_getElem?_getD]
theorem turnF_step (f : Nat → List Int) (i k : Nat) (hk : k < (f i).length) : turnF f i (k + 1) i = (turnF f i k i).set k (turnL ((f i).getD k 0)) := by
  have hl : (((f i).take k).map turnL).length = k := by simp; omega
  rw [turnF_at, turnF_at, List.set_append_right _ _ (by omega), hl, Nat.sub_self, List.drop_eq_getElem_cons hk, List.set_cons_zero, List.take_succ_eq_append_getElem hk, List.map_append, List.append_assoc]
  simp [List.getD, hk]
theorem turnF_other (f : Nat → List Int) (i k k2 j : Nat) (h : j ≠ i) : turnF f i k j = turnF f i k2 j := by
  unfold turnF
  rw [if_neg (c := j = i) h, if_neg (c := j = i) h]
theorem turnF_same (f : Nat → List Int) (i k : Nat) (hk : k < (f i).length) (h : turnL ((f i).getD k 0) = (f i).getD k 0) : turnF f i (k + 1) = turnF f i k := by
  funext j
  by_cases hj : j = i
  · subst hj
    rw [turnF_step f j k hk, h]
    have hl : (((f j).take k).map turnL).length = k := by simp; omega
    rw [turnF_at, List.set_append_right _ _ (by omega), hl, Nat.sub_self, List.drop_eq_getElem_cons hk, List.set_cons_zero]
    simp [List.getD, hk]
  · exact turnF_other f i _ _ j hj
theorem turnF_end (f : Nat → List Int) (n j : Nat) (hj : j < n) : turnF f n 0 j = (f j).map turnL := by
  unfold turnF
  rw [if_pos hj]

/-- Rows whose headers lie in a row: each lent, in a block of its own. -/
structure RowsLent (w : World) (base : Nat) (A : Option Addr) (fb fc : Nat → Nat) (n : Nat) (len : Nat → Nat) (f : Nat → List Int) : Prop where
  hdr : ∀ i, i < n → ∃ ad : Addr, A = some ad ∧ w.cell? (ad.add i) = some (.slice (some ⟨fb i, 0, none⟩) (len i) (fc i)) ∧ ∀ j, j < n → ad.block ≠ fb j
  row : ∀ i, i < n → LentAt w base (fb i) (fc i) (f i)
  lens : ∀ i, i < n → (f i).length = len i
  inj : ∀ i j, i < n → j < n → fb i = fb j → i = j
  below : ∀ i, i < n → base ≤ fb i

/-- The lent list, with one literal written over. -/
theorem LentAt.set {w : World} {base b cap : Nat} {xs : List Int} (h : LentAt w base b cap xs) (k : Nat) (hk : k < xs.length) (x : Int) : LentAt (w.setCell ⟨b, k, none⟩ (.int .i64 x)) base b cap (xs.set k x) ∧ w.grownBy (w.setCell ⟨b, k, none⟩ (.int .i64 x)) (some b) := by
  have hs := own_store h (k : Int) x
  rw [Int.toNat_natCast, List.set_append_left _ _ hk] at hs
  refine ⟨?_, hs.2⟩
  unfold LentAt
  rw [List.length_set]
  exact hs.1
theorem LentAt.grown {w w1 : World} {base b g cap : Nat} {xs : List Int} (h : LentAt w base b cap xs) (hg : w.grownBy w1 (some g)) (hne : b ≠ g) : LentAt w1 base b cap xs := own_other h hg (.inr (by simp [Value.ownBlock]; exact hne))

theorem add_block (a : Addr) (j : Nat) : (a.add j).block = a.block := by
  unfold Addr.add
  split <;> rfl
/-- What turned leaves. -/
structure Turned (w wr : World) (base : Nat) (A : Option Addr) (fb fc : Nat → Nat) (n : Nat) (len : Nat → Nat) (f : Nat → List Int) : Prop where
  rows : RowsLent wr base A fb fc n len f
  size : wr.heap.size = w.heap.size
  io : wr.os = w.os ∧ wr.tape = w.tape ∧ wr.output = w.output
  other : ∀ k, (∀ i, i < n → k ≠ fb i) → wr.heap[k]? = w.heap[k]?
theorem Turned.step {w wr : World} {base : Nat} {A : Option Addr} {fb fc : Nat → Nat} {n : Nat} {len : Nat → Nat} {f : Nat → List Int} {i k : Nat} (h : Turned w wr base A fb fc n len (turnF f i k)) (hi : i < n) (hk : k < (f i).length) :
    Turned w (wr.setCell ⟨fb i, k, none⟩ (.int .i64 (turnL ((f i).getD k 0)))) base A fb fc n len (turnF f i (k + 1)) := by
  obtain ⟨hs, hg⟩ := (h.rows.row i hi).set k (by rw [turnF_length]; exact hk) (turnL ((f i).getD k 0))
  have hfar : ∀ q, q ≠ fb i → (wr.setCell ⟨fb i, k, none⟩ (.int .i64 (turnL ((f i).getD k 0)))).heap[q]? = wr.heap[q]? := fun q hq => Below.heap_setCell wr ⟨fb i, k, none⟩ _ q hq
  refine ⟨⟨fun j hj => ?_, fun j hj => ?_, fun j hj => ?_, h.rows.inj, h.rows.below⟩, ?_, ⟨hg.os.trans h.io.1, hg.tape.trans h.io.2.1, hg.output.trans h.io.2.2⟩, fun q hq => ?_⟩
  · obtain ⟨ad, h1, h2, h3⟩ := h.rows.hdr j hj
    refine ⟨ad, h1, ?_, h3⟩
    rw [← h2]
    refine World.cell?_setCell_other (h := fun e => h3 i hi ?_) ..
    have := congrArg Addr.block e
    rw [add_block] at this
    exact this.symm
  · by_cases e : j = i
    · subst e
      rw [turnF_step f j k hk]
      exact hs
    · rw [turnF_other f i (k + 1) k j e]
      exact (h.rows.row j hj).grown hg (fun e2 => e (h.rows.inj j i hj hi e2))
  · rw [turnF_length]
    have := h.rows.lens j hj
    rwa [turnF_length] at this
  · rw [← h.size]
    simp [World.setCell]
  · rw [hfar q (hq i hi)]
    exact h.other q hq

theorem Turned.drewN {w wr : World} {base : Nat} {A : Option Addr} {fb fc : Nat → Nat} {n : Nat} {len : Nat → Nat} {f : Nat → List Int} (h : Turned w wr base A fb fc n len f) (q : Nat) : Turned w (wr.drewN q) base A fb fc n len f :=
  ⟨⟨h.rows.hdr, fun i hi => (h.rows.row i hi).move rfl, h.rows.lens, h.rows.inj, h.rows.below⟩, h.size, h.io, h.other⟩
set_option maxRecDepth 100000 in
set_option maxHeartbeats 3200000 in
theorem turned_any {w : World} {base : Nat} {A : Option Addr} {c n : Nat} {fb fc : Nat → Nat} {len : Nat → Nat} {f : Nat → List Int} (h : RowsLent w base A fb fc n len f) (hn : n ≤ 5864062014806) (hln : ∀ i, i < n → len i ≤ 17592186044404) :
    Calls Try.prog 20 #[.slice A n c] w fun e w' => e = .returned (.tuple #[]) ∧ Turned w w' base A fb fc n len (fun j => turnF f n 0 j) := by
  have H0 : Hid (Turned w w base A fb fc n len (turnF f 0 0)) := ⟨by rw [turnF_start]; exact h, rfl, ⟨rfl, rfl, rfl⟩, fun _ _ => rfl⟩
  have HLN := Lib.hid hln
  have HLF := Lib.hid h.lens
  clear h hln
  go_enter Try.func20, Try.ntmps20
  go_wp2_with fail
  go_loopw [2] (fun iv wr => ∃ i : Nat, i ≤ n ∧ iv = .int .i64 i ∧ Hid (Turned w wr base A fb fc n len (turnF f i 0))) (fun iv _ => n - (intOf iv).toNat)
  case atStart => exact ⟨0, Nat.zero_le _, rfl, H0⟩
  case round =>
    obtain ⟨i, hi, rfl, HT⟩ := hrel
    by_cases hlt : i < n
    · obtain ⟨ad, rfl, hcell, had⟩ := HT.out.rows.hdr i hlt
      have hli := HLN.out i hlt
      have hlf := HLF.out i hlt
      go_wp2_with fail
      go_loopw [3] (fun kv wi => ∃ k : Nat, k ≤ len i ∧ kv = .int .i64 k ∧ Hid (Turned w wi base (some ad) fb fc n len (turnF f i k))) (fun kv _ => len i - (intOf kv).toNat)
      case atStart => exact ⟨0, Nat.zero_le _, rfl, HT⟩
      case round =>
        obtain ⟨k, hk, rfl, HK⟩ := hrel
        obtain ⟨ad2, he, hcell2, _⟩ := HK.out.rows.hdr i hlt
        cases he
        by_cases hlt2 : k < len i
        · have hkf : k < (f i).length := by omega
          have hat := (HK.out.rows.row i hlt).cell k (by rw [turnF_length]; omega)
          have hfr := (HK.out.rows.row i hlt).free k
          have hrd := turnF_rd f i k hkf
          rw [getD_app_l _ _ _ _ (by rw [turnF_length]; exact hkf)] at hat
          rw [rd, Int.toNat_natCast] at hrd
          rw [hrd] at hat
          have hst := HK.out.step hlt hkf
          have hsm := turnF_same f i k hkf
          generalize (f i).getD k 0 = x at *
          clear hrd
          by_cases g1 : -4611686018427387904 < x
          · by_cases g2 : x < 4611686018427387904
            · have hw : wrap64 (-x) = -x := by unfold wrap64; omega
              have htx : turnL x = -x := by rw [turnL, if_pos ⟨g1, g2⟩]
              rw [htx] at hst
              have HKN : Hid (Turned w ((wr.setCell ⟨fb i, k, none⟩ (.int .i64 (-x))).drew) base (some ad) fb fc n len (turnF f i (k + 1))) := hst.drewN 1
              clear hst hsm htx
              go_wp2_with fail
              go_region
              all_goals
                go_wp2_with fail
                go_roundw
                case rel => exact ⟨k + 1, by omega, by go_num, HKN⟩
                case measure => simp [intOf]; omega
            · have htx : turnL x = x := by rw [turnL, if_neg (fun e => g2 e.2)]
              have HKN : Hid (Turned w wr base (some ad) fb fc n len (turnF f i (k + 1))) := by rw [hsm htx]; exact HK.out
              clear hst hsm htx
              go_wp2_with fail
              go_roundw
              case rel => exact ⟨k + 1, by omega, by go_num, HKN⟩
              case measure => simp [intOf]; omega
          · have htx : turnL x = x := by rw [turnL, if_neg (fun e => g1 e.1)]
            have HKN : Hid (Turned w wr base (some ad) fb fc n len (turnF f i (k + 1))) := by rw [hsm htx]; exact HK.out
            clear hst hsm htx
            go_wp2_with fail
            go_roundw
            case rel => exact ⟨k + 1, by omega, by go_num, HKN⟩
            case measure => simp [intOf]; omega
        · obtain rfl : k = len i := by omega
          have HKN : Hid (Turned w wr base (some ad) fb fc n len (turnF f (i + 1) 0)) := by rw [← turnF_next, hlf]; exact HK.out
          go_wp2_with fail
          go_roundw
          case rel => exact ⟨i + 1, by omega, by go_num, HKN⟩
          case measure => simp [intOf]; omega
    · obtain rfl : i = n := by omega
      go_wp2_with fail
      go_end0
      exact ⟨rfl, HT.out⟩
end Go.Proofs.Ytfeablchjlkjiaa
