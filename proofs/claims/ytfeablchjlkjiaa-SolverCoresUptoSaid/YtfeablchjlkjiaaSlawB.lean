/-
  WALKS over larderlaw09's helpers: twin.
-/
import Derived.Test.YtfeablchjlkjiaaSlawA
namespace Go.Proofs.Ytfeablchjlkjiaa
open Go.RowKit Go.Proofs.YtfeablchjlkjiaaW.PrintWords Go.Proofs.YtfeablchjlkjiaaW.PrintMore

/-- The first k clauses of a twin: their headers in a row of the call's own, each in a block of its own with its marks. -/
structure PartTwin (w : World) (base : Nat) (v : Value) (fb fc : Nat → Nat) (xs : List (List Int)) (k : Nat) (cells : List Value) : Prop where
  own : w.ownsRow base 23 1 v k cells
  hdr : ∀ i, i < k → cells[i]? = some (.slice (some ⟨fb i, 0, none⟩) (xs.getD i []).length (fc i))
  row : ∀ i, i < k → LentAt w base (fb i) (fc i) (xs.getD i [])
  inj : ∀ i j, i < k → j < k → fb i = fb j → i = j

/-- A twin of clauses, with the marks behind it. -/
structure TwinAt (w : World) (base hb cap : Nat) (fb fc : Nat → Nat) (xs : List (List Int)) (cells : List Value) : Prop where
  own : w.ownsRow base 23 1 (.slice (some ⟨hb, 0, none⟩) (xs.length + 2) cap) (xs.length + 2) (cells ++ [.slice (some ⟨fb xs.length, 0, none⟩) 1 1, .slice (some ⟨fb (xs.length + 1), 0, none⟩) 1 1])
  len : cells.length = xs.length
  hdr : ∀ i, i < xs.length → cells[i]? = some (.slice (some ⟨fb i, 0, none⟩) (xs.getD i []).length (fc i))
  row : ∀ i, i < xs.length → LentAt w base (fb i) (fc i) (xs.getD i [])
  m1 : w.heap[fb xs.length]? = some (.cells #[.int .i64 7003] 3 (0, 0))
  m2 : w.heap[fb (xs.length + 1)]? = some (.cells #[.int .i64 7004] 3 (0, 0))
  inj : ∀ i j, i < xs.length + 2 → j < xs.length + 2 → fb i = fb j → i = j
  b1 : base ≤ fb xs.length
  b2 : base ≤ fb (xs.length + 1)

theorem one_slice (A : Option Addr) (n c : Nat) : ∀ u ∈ [Value.slice A n c], u.oneCell' = true := by
  intro u hu
  rw [List.mem_singleton.1 hu]
  rfl

theorem PartTwin.next {w w1 w2 : World} {base b cap : Nat} {v v2 : Value} {fb fc : Nat → Nat} {xs : List (List Int)} {k : Nat} {cells : List Value} (h : PartTwin w base v fb fc xs k cells) (hb1 : Below w.heap.size w w1) (hl : LentAt w1 w.heap.size b cap (xs.getD k []))
    (ho : w2.ownsRow base 23 1 v2 (k + 1) (cells ++ [.slice (some ⟨b, 0, none⟩) (xs.getD k []).length cap])) (hg : w1.grownBy w2 v.ownBlock) (hbase : base ≤ w.heap.size) :
    PartTwin w2 base v2 (fun i => if i < k then fb i else b) (fun i => if i < k then fc i else cap) xs (k + 1) (cells ++ [.slice (some ⟨b, 0, none⟩) (xs.getD k []).length cap]) := by
  have hlen : cells.length = k := by have := h.own.1; omega
  have hown1 : w1.ownsRow base 23 1 v k cells := pw_own_below h.own hb1
  have keep : ∀ {b' cap' base' : Nat} {ys : List Int}, LentAt w1 base' b' cap' ys → w2.heap[b']? = w1.heap[b']? := fun {b' cap' base' ys} hl' =>
    hg.block b' hl'.lt (fun e => by
      obtain ⟨c1, e1⟩ := own_typed hl' b' rfl
      obtain ⟨c2, e2⟩ := own_typed hown1 b' e.symm
      rw [e1] at e2
      injection e2 with e2
      injection e2 with _ e3
      exact absurd e3 (by decide))
  refine ⟨ho, ?_, ?_, ?_⟩
  · intro i hi
    by_cases hik : i < k
    · rw [List.getElem?_append_left (by omega), h.hdr i hik]
      simp only [if_pos hik]
    · obtain rfl : i = k := by omega
      rw [List.getElem?_append_right (by omega), hlen, Nat.sub_self]
      simp only [if_neg hik]
      rfl
  · intro i hi
    by_cases hik : i < k
    · simp only [if_pos hik]
      have h1 := (h.row i hik).move (hb1.block (fb i) (h.row i hik).lt)
      exact h1.move (keep h1)
    · obtain rfl : i = k := by omega
      simp only [if_neg hik]
      exact own_weaken (hl.move (keep hl)) hbase
  · intro i j hi hj
    have hbl := hl.base_le
    by_cases hik : i < k
    · have := (h.row i hik).lt
      by_cases hjk : j < k
      · simp only [if_pos hik, if_pos hjk]
        exact h.inj i j hik hjk
      · simp only [if_pos hik, if_neg hjk]
        intro e
        omega
    · by_cases hjk : j < k
      · have := (h.row j hjk).lt
        simp only [if_neg hik, if_pos hjk]
        intro e
        omega
      · intro _
        omega

theorem PartTwin.done {w W w2 : World} {base hb cap : Nat} {v : Value} {fb fc : Nat → Nat} {xs : List (List Int)} {cells : List Value} (h : PartTwin w base v fb fc xs xs.length cells) (hbase : base ≤ w.heap.size)
    (hW : W = ((w.alloc (.cells #[.int .i64 7003] 3)).alloc (.cells #[.int .i64 7004] 3)).alloc (.cells #[.slice (some ⟨w.heap.size, 0, none⟩) 1 1, .slice (some ⟨w.heap.size + 1, 0, none⟩) 1 1] 23))
    (ho : w2.ownsRow base 23 1 (.slice (some ⟨hb, 0, none⟩) (xs.length + 2) cap) (xs.length + 2) (cells ++ [.slice (some ⟨w.heap.size, 0, none⟩) 1 1, .slice (some ⟨w.heap.size + 1, 0, none⟩) 1 1])) (hg : W.grownBy w2 v.ownBlock) :
    TwinAt w2 base hb cap (fun i => if i < xs.length then fb i else if i = xs.length then w.heap.size else w.heap.size + 1) fc xs cells := by
  have hsz : W.heap.size = w.heap.size + 3 := by rw [hW]; simp
  have hold : ∀ b', b' < w.heap.size → W.heap[b']? = w.heap[b']? := fun b' hb' => by
    rw [hW, Below.heap_alloc _ _ _ (by simp; omega), Below.heap_alloc _ _ _ (by simp; omega), Below.heap_alloc _ _ _ hb']
  have hownlt : ∀ k, v.ownBlock = some k → k < w.heap.size := own_lt h.own
  have hrow : ∀ i, i < xs.length → LentAt w2 base (fb i) (fc i) (xs.getD i []) := fun i hi => by
    have hl := h.row i hi
    refine hl.move ?_
    rw [hg.block _ (by have := hl.lt; omega) (fun e => ?_), hold _ hl.lt]
    obtain ⟨c1, e1⟩ := own_typed hl (fb i) rfl
    obtain ⟨c2, e2⟩ := own_typed h.own (fb i) e.symm
    rw [e1] at e2
    injection e2 with e2
    injection e2 with _ e3
    exact absurd e3 (by decide)
  have n1 : ¬ xs.length < xs.length := Nat.lt_irrefl _
  have n2 : ¬ xs.length + 1 < xs.length := by omega
  have n3 : ¬ xs.length + 1 = xs.length := by omega
  refine ⟨?_, by have := h.own.1; omega, ?_, ?_, ?_, ?_, ?_, ?_, ?_⟩
  · simp only [if_neg n1, if_neg n2, if_neg n3, if_true]
    exact ho
  · intro i hi
    simp only [if_pos hi]
    exact h.hdr i hi
  · intro i hi
    simp only [if_pos hi]
    exact hrow i hi
  · simp only [if_neg n1, if_true]
    rw [hg.block _ (by omega) (fun e => by have := hownlt _ e.symm; omega), hW, Below.heap_alloc _ _ _ (by simp; omega), Below.heap_alloc _ _ _ (by simp)]
    exact heap_alloc_new w _
  · simp only [if_neg n2, if_neg n3]
    rw [hg.block _ (by omega) (fun e => by have := hownlt _ e.symm; omega), hW, Below.heap_alloc _ _ _ (by simp)]
    have := heap_alloc_new (w.alloc (.cells #[.int .i64 7003] 3)) (.cells #[.int .i64 7004] 3)
    simpa using this
  · intro i j hi hj
    by_cases hik : i < xs.length
    · have hl := (h.row i hik).lt
      by_cases hjk : j < xs.length
      · simp only [if_pos hik, if_pos hjk]
        exact h.inj i j hik hjk
      · simp only [if_pos hik, if_neg hjk]
        split <;> omega
    · by_cases hjk : j < xs.length
      · have hl := (h.row j hjk).lt
        simp only [if_neg hik, if_pos hjk]
        split <;> omega
      · simp only [if_neg hik, if_neg hjk]
        split <;> split <;> omega
  · simp only [if_neg n1, if_true]
    exact hbase
  · simp only [if_neg n2, if_neg n3]
    omega

/-- What a twin's call needs of the lists that came in. -/
structure SmallRows (xs : List (List Int)) : Prop where
  hdr : xs.length * 24 ≤ 140737488351232
  row : ∀ x ∈ xs, small8 x.length
theorem SmallRows.get {xs : List (List Int)} (h : SmallRows xs) {k : Nat} (hk : k < xs.length) : small8 (xs.getD k []).length := h.row _ (rows_mem hk)

def TwinPost (xs : List (List Int)) (w : World) (e : Ending) (w' : World) : Prop :=
  ∃ hb cap fb fc cells, e = .returned (.slice (some ⟨hb, 0, none⟩) xs.length cap) ∧ TwinAt w' w.heap.size hb cap fb fc xs cells ∧ Below w.heap.size w w'

set_option maxRecDepth 100000 in
set_option maxHeartbeats 1600000 in
theorem twin_any {w : World} {A : Option Addr} {c : Nat} {xs : List (List Int)} (hr : KRows.C w A xs.length xs) (hs : SmallRows xs) :
    Calls Try.prog 10 #[.slice A xs.length c] w (TwinPost xs w) := by
  have hlen : xs.length ≤ 9223372036854775807 := hr.2.1
  have hb24 := hs.hdr
  have HR := Lib.hid hr
  have HS := Lib.hid hs
  clear hr hs
  go_enter Try.func10, Try.ntmps10
  go_wp2_with fail
  go_loopw [3, 4] (fun v i wr => ∃ (k : Nat) (fb fc : Nat → Nat) (cells : List Value), k ≤ xs.length ∧ i = .int .i64 k ∧ PartTwin wr w.heap.size v fb fc xs k cells ∧ Below w.heap.size w wr) (fun _ i _ => xs.length - (intOf i).toNat)
  case atStart => exact ⟨0, fun _ => 0, fun _ => 0, [], Nat.zero_le _, rfl, ⟨own_nil _ _ _ _, fun i hi => by omega, fun i hi => by omega, fun i j hi => by omega⟩, Below.refl _ _⟩
  case round =>
    obtain ⟨k, fb, fc, cells, hk, rfl, hp, hbw⟩ := hrel
    obtain ⟨vA, vc, rfl⟩ := own_slice hp.own
    by_cases hlt : k < xs.length
    · obtain ⟨ad, A0, c0, rfl, hcell0, _, hrow0⟩ := rows_at HR.out k hlt
      have hcell : wr.cell? (ad.add k) = some (.slice A0 (xs.getD k []).length c0) := pw_cell_below hbw hcell0
      have hlent := lent_any (c := c0) (Kd.C_below hrow0 hbw) (HS.out.get hlt)
      have hnext := fun w1 w2 b cap v2 => hp.next (w1 := w1) (w2 := w2) (b := b) (cap := cap) (v2 := v2)
      have hcl : cells.length = k := by have := hp.own.1; omega
      generalize xs.getD k [] = row at *
      have HP := Lib.hid hp
      have HBW := Lib.hid hbw
      have HLENT := Lib.hid hlent
      have HNEXT := Lib.hid hnext
      have hl24 : (k + 1) * 24 ≤ 140737488355328 := by omega
      have hby : 0 < 24 := by decide
      clear hp hbw hlent hnext hcell0 hrow0 hcl
      go_wp2_with fail
      refine HLENT.out.mono ?_
      rintro e w1 ⟨b, cap, rfl, hl1, hb1⟩
      have hO1 := pw_own_below HP.out.own hb1
      have hB1 : Below w.heap.size w w1 := HBW.out.trans (hb1.mono HBW.out.size)
      have HL1 := Lib.hid hl1
      have HBB1 := Lib.hid hb1
      have HO1 := Lib.hid hO1
      have HB1 := Lib.hid hB1
      clear hl1 hb1 hO1 hB1
      go_wp2_with (at_builtin; refine print_append_cells (w0 := w) w.heap.size rfl (.tmp 11) (.tmp 17) 22 23 (.slice none 0 0) 1 24 rfl Try.underlying22 infoRow rfl (Nat.succ_pos 0) hby (.slice vA k vc) k cells [.slice (some ⟨b, 0, none⟩) row.length cap] rfl rfl rfl (one_slice _ _ _) HO1.out HB1.out HB1.out.size hl24 ?_; intro v2 w2 hown2 hB2 hg2 hat2; have hn2 := HNEXT.out w1 w2 b cap v2 HBB1.out HL1.out hown2 hg2 HBW.out.size; have HN2 := Lib.hid hn2; have HB2 := Lib.hid hB2; clear hn2 hown2 hB2 hg2 hat2)
      go_roundw
      case rel => exact ⟨k + 1, _, _, _, by omega, by go_num, HN2.out, HB2.out⟩
      case measure => simp [intOf]; omega
    · obtain rfl : k = xs.length := by omega
      obtain ⟨i0, hi, hz0, hz1, hz2⟩ := info_parts infoRow
      have hbig : (xs.length + 2) * 24 ≤ 140737488355328 := by omega
      have hmx : xs.length + 2 ≤ maxLen := by unfold maxLen; omega
      have hsz := hbw.size
      have HI := Lib.hid hi
      have HZ0 := Lib.hid hz0
      have HZ1 := Lib.hid hz1
      have HZ2 := Lib.hid hz2
      have HP := Lib.hid hp
      have HBW := Lib.hid hbw
      obtain ⟨W, hW⟩ : ∃ W, W = ((wr.alloc (.cells #[.int .i64 7003] 3)).alloc (.cells #[.int .i64 7004] 3)).alloc (.cells #[.slice (some ⟨wr.heap.size, 0, none⟩) 1 1, .slice (some ⟨wr.heap.size + 1, 0, none⟩) 1 1] 23) := ⟨_, rfl⟩
      have hOW : W.ownsRow w.heap.size 23 1 (.slice vA xs.length vc) xs.length cells := by rw [hW]; exact ((hp.own.alloc _).alloc _).alloc _
      have hnews : ∀ j u, [Value.slice (some ⟨wr.heap.size, 0, none⟩) 1 1, Value.slice (some ⟨wr.heap.size + 1, 0, none⟩) 1 1][j]? = some u → W.cell? ((⟨wr.heap.size + 1 + 1, 0, none⟩ : Addr).add j) = some u := by
        intro j u hu
        have h := World.news_of_block (cs := #[Value.slice (some ⟨wr.heap.size, 0, none⟩) 1 1, Value.slice (some ⟨wr.heap.size + 1, 0, none⟩) 1 1]) (t := 23) (fr := (0, 0)) (heap_alloc_new ((wr.alloc (.cells #[.int .i64 7003] 3)).alloc (.cells #[.int .i64 7004] 3)) _) j u hu
        rw [hW]
        simpa using h
      have hWb : Below w.heap.size w W := by rw [hW]; exact ((hbw.alloc hbw.size _).alloc (by simp; omega) _).alloc (by simp; omega) _
      have HW := Lib.hid hW
      have HOW := Lib.hid hOW
      have HN := Lib.hid hnews
      have HWB := Lib.hid hWb
      have hone : ∀ u ∈ [Value.slice (some ⟨wr.heap.size, 0, none⟩) 1 1, Value.slice (some ⟨wr.heap.size + 1, 0, none⟩) 1 1], u.oneCell' = true := by
        intro u hu
        rcases List.mem_cons.1 hu with rfl | hu
        · rfl
        · rw [List.mem_singleton.1 hu]; rfl
      have HONE := Lib.hid hone
      clear hW hOW hnews hWb hp hbw hi hz0 hz1 hz2 hone
      go_wp2_with (at_builtin; rw [← HW.out]; refine wpList_append_own W rfl (.tmp 19) (.tmp 22) 22 rfl w.heap.size 23 i0 (.slice none 0 0) 1 24 Try.underlying22 HI.out HZ0.out HZ1.out HZ2.out rfl Nat.one_pos (.slice vA xs.length vc) xs.length cells rfl HOW.out ⟨wr.heap.size + 1 + 1, 0, none⟩ 2 2 _ rfl rfl HN.out HONE.out hmx hbig HWB.out.size ?_; intro v2 w2 hown2 hg2 _; obtain ⟨hb2, c2, rfl, _, _⟩ := hown2.form (by omega); have hcap2 : xs.length + 2 ≤ c2 := own_cap hown2; have hd := HP.out.done HBW.out.size HW.out hown2 hg2; have hb3 := HWB.out.grown hg2 HWB.out.size (own_base HP.out.own); have HD := Lib.hid hd; have HB3 := Lib.hid hb3; clear hd hb3 hown2 hg2)
      go_ret
      exact ⟨hb2, c2, _, _, _, rfl, HD.out, HB3.out⟩
end Go.Proofs.Ytfeablchjlkjiaa
