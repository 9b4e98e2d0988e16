/-
  WHAT THE LAW 'SOLVES' KEEPS: answers of one's own, twins that were turned.
-/
import Derived.Test.YtfeablchjlkjiaaSlvB
import Derived.Test.YtfeablchjlkjiaaRefG
namespace Go.Proofs.Ytfeablchjlkjiaa
open Go.RowKit Go.Proofs.YtfeablchjlkjiaaW.PrintWords Go.Proofs.YtfeablchjlkjiaaW.PrintMore

/-- An answer in a block, with a row of values of its own: both lie between two marks of the heap. -/
structure FoundOwn (w : World) (base top g : Nat) (v : Value) (F : Sv.Found) : Prop where
  blk : w.heap[g]? = some (.cells #[.int .i64 F.verdict, v, .int .i64 F.steps] 28 (0, 0))
  own : w.ownsRow base 4 1 v F.values.length (encs Value.bool F.values)
  ge : base ≤ g
  lt : g < top
  rlt : ∀ k, v.ownBlock = some k → k < top
theorem FoundOwn.move {w w1 : World} {base top g : Nat} {v : Value} {F : Sv.Found} (h : FoundOwn w base top g v F) (hm : ∀ k, base ≤ k → k < top → w1.heap[k]? = w.heap[k]?) : FoundOwn w1 base top g v F :=
  ⟨(hm g h.ge h.lt).trans h.blk, own_move h.own (fun k hk => hm k (own_base h.own k hk) (h.rlt k hk)), h.ge, h.lt, h.rlt⟩
theorem FoundOwn.below {w w1 : World} {base top g : Nat} {v : Value} {F : Sv.Found} (h : FoundOwn w base top g v F) (hb : Below w.heap.size w w1) : FoundOwn w1 base top g v F := ⟨(hb.block _ (blk_lt h.blk)).trans h.blk, pw_own_below h.own hb, h.ge, h.lt, h.rlt⟩
theorem FoundOwn.c0 {w : World} {base top g : Nat} {v : Value} {F : Sv.Found} (h : FoundOwn w base top g v F) : w.cell? ⟨g, 0, none⟩ = some (.int .i64 F.verdict) := cell_blk h.blk 0
theorem FoundOwn.c1 {w : World} {base top g : Nat} {v : Value} {F : Sv.Found} (h : FoundOwn w base top g v F) : w.cell? ⟨g, 1, none⟩ = some v := cell_blk h.blk 1
theorem FoundOwn.c2 {w : World} {base top g : Nat} {v : Value} {F : Sv.Found} (h : FoundOwn w base top g v F) : w.cell? ⟨g, 2, none⟩ = some (.int .i64 F.steps) := cell_blk h.blk 2
theorem FoundOwn.reads {w : World} {base top g : Nat} {A : Option Addr} {n c : Nat} {F : Sv.Found} (h : FoundOwn w base top g (.slice A n c) F) : Kd.bool.C w A F.values.length F.values := by
  obtain ⟨A', c', he, hr⟩ := own_reads_of (d := false) h.own
  cases he
  exact Kd.C_of_reads (enc := Value.bool) (d := false) hr
theorem FoundOwn.new {w : World} {v : Value} {F : Sv.Found} {base : Nat} (h : Kd.bool.R 4 w base (fun _ => True) v F.values) (hb : base ≤ w.heap.size) :
    FoundOwn (w.alloc (.cells #[.int .i64 F.verdict, v, .int .i64 F.steps] 28)) base (w.alloc (.cells #[.int .i64 F.verdict, v, .int .i64 F.steps] 28)).heap.size w.heap.size v F :=
  ⟨heap_alloc_new w _, own_alloc (Kd.own_of_R h) _, hb, by simp, fun k hk => by have := own_lt (Kd.own_of_R h) k hk; simp; omega⟩
theorem FoundOwn.shape {w : World} {base top g : Nat} {v : Value} {F : Sv.Found} (h : FoundOwn w base top g v F) : ∃ A c, v = .slice A F.values.length c := own_slice h.own
/-- A row beyond the marks is written. -/
theorem FoundOwn.apart {w w1 : World} {base top g : Nat} {v : Value} {F : Sv.Found} (h : FoundOwn w base top g v F) {row : Option Nat} (hg : w.grownBy w1 row) (hr : ∀ q, row = some q → q < base ∨ top ≤ q) (ht : top ≤ w.heap.size) : FoundOwn w1 base top g v F :=
  h.move (fun k h1 h2 => hg.block k (by omega) (fun e => by have := hr k e.symm; omega))

theorem grown_refl (w : World) (row : Option Nat) : w.grownBy w row := ⟨rfl, rfl, rfl, Nat.le_refl _, fun _ _ _ => rfl⟩
theorem grown_then {a b c : World} {row row' : Option Nat} (h : a.grownBy b row) (k : b.grownBy c row') (hr : row' = row ∨ ∃ q, row' = some q ∧ a.heap.size ≤ q) : a.grownBy c row :=
  ⟨k.os.trans h.os, k.tape.trans h.tape, k.output.trans h.output, Nat.le_trans h.size k.size, fun i hi hne => by
    rw [k.block i (Nat.lt_of_lt_of_le hi h.size) (fun e => ?_), h.block i hi hne]
    rcases hr with hr | ⟨q, hr, hq⟩
    · exact hne (e.trans hr)
    · rw [hr] at e
      injection e with e
      omega⟩
theorem grown_drewN {a b : World} {row : Option Nat} (h : a.grownBy b row) (q : Nat) : a.grownBy (b.drewN q) row := ⟨h.os, h.tape, h.output, h.size, h.block⟩
theorem grown_below {a b : World} {row : Option Nat} {n : Nat} (h : a.grownBy b row) (hn : n ≤ a.heap.size) (hr : ∀ q, row = some q → n ≤ q) : Below n a b :=
  ⟨h.os, h.tape, h.output, h.size, fun k hk => h.block k (by omega) (fun e => by have := hr k e.symm; omega)⟩
theorem eq_self_int (x : Int) : (x == x) = true := beq_iff_eq.2 rfl
theorem ne_self_int (x : Int) : (x != x) = false := by rw [bne, eq_self_int]; rfl
theorem wrap70m {n m : Nat} (h : n ≤ 131071) (hm : m = n + 70) : wrap64 ((n : Int) + 70) = (m : Int) := by unfold wrap64; omega
theorem wrap70 {n : Nat} (h : n ≤ 131071) : wrap64 ((n : Int) + 70) = (n : Int) + 70 := by unfold wrap64; omega
theorem eq70 {n m : Nat} (h : m = n + 70) : (((m : Nat) : Int) == (n : Int) + 70) = true := beq_iff_eq.2 (by omega)
theorem ne70 {n m : Nat} (h : m = n + 70) : (((m : Nat) : Int) != (n : Int) + 70) = false := by rw [bne, eq70 h]; rfl
theorem values_len (n : Int) (cl : List (List Int)) (pf : List Int) (bud : Int) : (Sv.solve n cl pf bud).1.values.length ≤ 131071 := by
  by_cases h : Sv.check n cl pf bud = 0
  · obtain ⟨m, F, rfl, hR⟩ := Sv.solve_right (decide_eq_true h : problemL n cl pf bud = true)
    have := hR.prob.small
    rw [hR.is]
    rcases hR.kinds with ⟨_, h2, _⟩ | ⟨_, h2, _⟩ | ⟨_, h2, _⟩
    · show F.values.length ≤ 131071
      omega
    · show F.values.length ≤ 131071
      rw [h2]; decide
    · show F.values.length ≤ 131071
      rw [h2]; decide
  · rw [Sv.solve, if_neg h]
    exact Nat.zero_le _

theorem TwinAt.kept {w w1 : World} {base hb cap : Nat} {fb fc : Nat → Nat} {xs : List (List Int)} {cells : List Value} (h : TwinAt w base hb cap fb fc xs cells) (hb1 : ∀ k, k < w.heap.size → w1.heap[k]? = w.heap[k]?) : TwinAt w1 base hb cap fb fc xs cells :=
  ⟨own_move h.own (fun k hk => hb1 k (own_lt h.own k hk)), h.len, h.hdr, fun i hi => (h.row i hi).move (hb1 _ (h.row i hi).lt), (hb1 _ (blk_lt h.m1)).trans h.m1, (hb1 _ (blk_lt h.m2)).trans h.m2, h.inj, h.b1, h.b2⟩
theorem TwinAt.hb_ne {w : World} {base hb cap : Nat} {fb fc : Nat → Nat} {xs : List (List Int)} {cells : List Value} (h : TwinAt w base hb cap fb fc xs cells) (i : Nat) (hi : i < xs.length) : hb ≠ fb i := by
  intro e
  have := own_type_ne h.own (h.row i hi) (by decide)
  rcases this with h1 | h1
  · cases h1
  · exact h1 (by simp [Value.ownBlock, e])
theorem TwinAt.lent {w : World} {base hb cap : Nat} {fb fc : Nat → Nat} {xs : List (List Int)} {cells : List Value} (h : TwinAt w base hb cap fb fc xs cells) : RowsLent w base (some ⟨hb, 0, none⟩) fb fc xs.length (fun i => (xs.getD i []).length) (fun i => xs.getD i []) := by
  refine ⟨fun i hi => ⟨_, rfl, ?_, fun j hj => h.hb_ne j hj⟩, h.row, fun _ _ => rfl, fun i j hi hj => h.inj i j (by omega) (by omega), fun i hi => (h.row i hi).base_le⟩
  have hc := h.own.cellAt i (by omega)
  rw [List.getElem?_append_left (by rw [h.len]; exact hi), h.hdr i hi] at hc
  rw [Addr.add_lit, Nat.zero_add]
  exact hc
theorem getD_map_rows (xs : List (List Int)) (i : Nat) : (xs.map (·.map turnL)).getD i [] = (xs.getD i []).map turnL := by
  rw [List.getD_eq_getElem?_getD, List.getD_eq_getElem?_getD, List.getElem?_map]
  cases xs[i]? <;> rfl
/-- A twin whose literals were turned. -/
theorem Turned.twin {w wr : World} {base hb cap : Nat} {fb fc : Nat → Nat} {xs : List (List Int)} {cells : List Value} (ht : TwinAt w base hb cap fb fc xs cells) (h : Turned w wr base (some ⟨hb, 0, none⟩) fb fc xs.length (fun i => (xs.getD i []).length) (fun j => turnF (fun i => xs.getD i []) xs.length 0 j)) :
    TwinAt wr base hb cap fb fc (xs.map (·.map turnL)) cells := by
  have e : (xs.map (·.map turnL)).length = xs.length := List.length_map _
  refine ⟨?_, by rw [e]; exact ht.len, fun i hi => ?_, fun i hi => ?_, ?_, ?_, ?_, ?_, ?_⟩
  · rw [e]
    refine own_move ht.own (fun k hk => h.other k (fun i hi => ?_))
    have : hb = k := by simpa [Value.ownBlock] using hk
    rw [← this]
    exact ht.hb_ne i hi
  · rw [e] at hi
    rw [getD_map_rows, List.length_map]
    exact ht.hdr i hi
  · rw [e] at hi
    rw [getD_map_rows]
    have := h.rows.row i hi
    rwa [turnF_end _ _ _ hi] at this
  · rw [e]
    exact (h.other _ (fun i hi e2 => by have := ht.inj _ _ (by omega) (by omega) e2; omega)).trans ht.m1
  · rw [e]
    exact (h.other _ (fun i hi e2 => by have := ht.inj _ _ (by omega) (by omega) e2; omega)).trans ht.m2
  · rw [e]; exact ht.inj
  · rw [e]; exact ht.b1
  · rw [e]; exact ht.b2
/-- All blocks of a twin lie ahead of a mark. -/
def TwinTop (hb : Nat) (fb : Nat → Nat) (n top : Nat) : Prop := hb < top ∧ ∀ i, i < n + 2 → fb i < top
theorem TwinAt.top {w : World} {base hb cap : Nat} {fb fc : Nat → Nat} {xs : List (List Int)} {cells : List Value} (h : TwinAt w base hb cap fb fc xs cells) : TwinTop hb fb xs.length w.heap.size := by
  refine ⟨own_lt h.own hb rfl, fun i hi => ?_⟩
  by_cases h1 : i < xs.length
  · exact (h.row i h1).lt
  · by_cases h2 : i = xs.length
    · rw [h2]; exact blk_lt h.m1
    · obtain rfl : i = xs.length + 1 := by omega
      exact blk_lt h.m2
theorem TwinAt.keptTop {w w1 : World} {base hb cap top : Nat} {fb fc : Nat → Nat} {xs : List (List Int)} {cells : List Value} (h : TwinAt w base hb cap fb fc xs cells) (ht : TwinTop hb fb xs.length top) (hb1 : ∀ k, k < top → w1.heap[k]? = w.heap[k]?) : TwinAt w1 base hb cap fb fc xs cells :=
  ⟨own_move h.own (fun k hk => hb1 k (by have : hb = k := by simpa [Value.ownBlock] using hk
                                         have := ht.1; omega)), h.len, h.hdr, fun i hi => (h.row i hi).move (hb1 _ (ht.2 i (by omega))), (hb1 _ (ht.2 _ (by omega))).trans h.m1, (hb1 _ (ht.2 _ (by omega))).trans h.m2, h.inj, h.b1, h.b2⟩
theorem Turned.below {w wr : World} {base : Nat} {A : Option Addr} {fb fc : Nat → Nat} {n : Nat} {len : Nat → Nat} {f : Nat → List Int} (h : Turned w wr base A fb fc n len f) {m : Nat} (hf : ∀ i, i < n → m ≤ fb i) : Below m w wr :=
  ⟨h.io.1, h.io.2.1, h.io.2.2, by rw [h.size]; exact Nat.le_refl _, fun k hk => h.other k (fun i hi e => by have := hf i hi; omega)⟩
/-- One lent list under a header of its own. -/
theorem LentAt.lone {w : World} {base b cap : Nat} {xs : List Int} (h : LentAt w base b cap xs) : RowsLent (w.alloc (.cells #[.slice (some ⟨b, 0, none⟩) xs.length cap] 23)) base (some ⟨w.heap.size, 0, none⟩) (fun _ => b) (fun _ => cap) 1 (fun _ => xs.length) (fun _ => xs) := by
  refine ⟨fun i hi => ⟨_, rfl, ?_, fun j hj => ?_⟩, fun i hi => h.move (Below.heap_alloc _ _ _ h.lt), fun _ _ => rfl, fun i j hi hj _ => by omega, fun i hi => h.base_le⟩
  · obtain rfl : i = 0 := by omega
    rw [Addr.add_lit]
    exact cell_blk (heap_alloc_new w (.cells #[.slice (some ⟨b, 0, none⟩) xs.length cap] 23)) 0
  · have := h.lt
    show w.heap.size ≠ b
    omega
theorem small_turned {xs : List (List Int)} (h : SmallRows xs) : SmallRows (xs.map (·.map turnL)) := by
  refine ⟨by rw [List.length_map]; exact h.hdr, fun x hx => ?_⟩
  obtain ⟨y, hy, rfl⟩ := List.mem_map.1 hx
  show (y.map turnL).length * 8 ≤ _
  rw [List.length_map]
  exact h.row y hy

/-- Two clauses and a list of likings, written out. -/
theorem lit_two (W : World) (a b pf : List Int) (ha : a.length ≤ 1000) (hb : b.length ≤ 1000) (hp : pf.length ≤ 1000) :
    KRows.C ((((W.alloc (.cells (nums .i64 a).toArray 3)).alloc (.cells (nums .i64 b).toArray 3)).alloc (.cells #[.slice (some ⟨W.heap.size, 0, none⟩) a.length a.length, .slice (some ⟨W.heap.size + 1, 0, none⟩) b.length b.length] 23)).alloc (.cells (nums .i64 pf).toArray 3)) (some ⟨W.heap.size + 1 + 1, 0, none⟩) 2 [a, b]
    ∧ (Kd.int .i64).C ((((W.alloc (.cells (nums .i64 a).toArray 3)).alloc (.cells (nums .i64 b).toArray 3)).alloc (.cells #[.slice (some ⟨W.heap.size, 0, none⟩) a.length a.length, .slice (some ⟨W.heap.size + 1, 0, none⟩) b.length b.length] 23)).alloc (.cells (nums .i64 pf).toArray 3)) (some ⟨W.heap.size + 1 + 1 + 1, 0, none⟩) pf.length pf
    ∧ Below W.heap.size W ((((W.alloc (.cells (nums .i64 a).toArray 3)).alloc (.cells (nums .i64 b).toArray 3)).alloc (.cells #[.slice (some ⟨W.heap.size, 0, none⟩) a.length a.length, .slice (some ⟨W.heap.size + 1, 0, none⟩) b.length b.length] 23)).alloc (.cells (nums .i64 pf).toArray 3)) := by
  have la := lit_ints W a (by omega)
  have lb := lit_ints (W.alloc (.cells (nums .i64 a).toArray 3)) b (by omega)
  have s1 : (W.alloc (.cells (nums .i64 a).toArray 3)).heap.size = W.heap.size + 1 := by simp
  rw [s1] at lb
  have hb1 := below_new W (.cells (nums .i64 a).toArray 3)
  generalize hW1 : W.alloc (.cells (nums .i64 a).toArray 3) = W1 at *
  have hb2 := below_new W1 (.cells (nums .i64 b).toArray 3)
  have s2 : (W1.alloc (.cells (nums .i64 b).toArray 3)).heap.size = W.heap.size + 1 + 1 := by simp [s1]
  generalize hW2 : W1.alloc (.cells (nums .i64 b).toArray 3) = W2 at *
  have hr := lit_rows W2 [a, b] [.slice (some ⟨W.heap.size, 0, none⟩) a.length a.length, .slice (some ⟨W.heap.size + 1, 0, none⟩) b.length b.length] (by simp) (by
    intro j p hj
    have hjl := (List.getElem?_eq_some_iff.1 hj).1
    have hj2 : j = 0 ∨ j = 1 := by simp at hjl; omega
    rcases hj2 with rfl | rfl
    · obtain rfl : a = p := by simpa using hj
      exact ⟨_, _, rfl, Nat.le_refl _, Kd.C_below la hb2⟩
    · obtain rfl : b = p := by simpa using hj
      exact ⟨_, _, rfl, Nat.le_refl _, lb⟩)
  rw [s2] at hr
  have hb3 := below_new W2 (.cells #[.slice (some ⟨W.heap.size, 0, none⟩) a.length a.length, .slice (some ⟨W.heap.size + 1, 0, none⟩) b.length b.length] 23)
  have s3 : (W2.alloc (.cells #[.slice (some ⟨W.heap.size, 0, none⟩) a.length a.length, .slice (some ⟨W.heap.size + 1, 0, none⟩) b.length b.length] 23)).heap.size = W.heap.size + 1 + 1 + 1 := by simp [s2]
  have hr' : KRows.C (W2.alloc (.cells #[.slice (some ⟨W.heap.size, 0, none⟩) a.length a.length, .slice (some ⟨W.heap.size + 1, 0, none⟩) b.length b.length] 23)) (some ⟨W.heap.size + 1 + 1, 0, none⟩) 2 [a, b] := hr
  generalize hW3 : W2.alloc (.cells #[.slice (some ⟨W.heap.size, 0, none⟩) a.length a.length, .slice (some ⟨W.heap.size + 1, 0, none⟩) b.length b.length] 23) = W3 at *
  have lp := lit_ints W3 pf (by omega)
  rw [s3] at lp
  have hb4 := below_new W3 (.cells (nums .i64 pf).toArray 3)
  refine ⟨Kd.C_below hr' hb4, lp, ?_⟩
  exact hb1.trans ((hb2.trans ((hb3.trans (hb4.mono (by omega))).mono (by omega))).mono (by omega))
theorem lives3 : Sv.solve 3 [[2], [-1, 3]] [1] 99 = (⟨1, [true, true, true], 8⟩, 0) := rfl
end Go.Proofs.Ytfeablchjlkjiaa
