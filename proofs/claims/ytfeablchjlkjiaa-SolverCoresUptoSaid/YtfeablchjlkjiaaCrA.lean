/-
  WHAT THE LAW 'CORES' KEEPS: rows of numbers of one's own; headers that change their places.
-/
import Derived.Test.YtfeablchjlkjiaaApC
import Derived.Test.YtfeablchjlkjiaaRcC
namespace Go.Proofs.Ytfeablchjlkjiaa
open Go.RowKit Go.Proofs.YtfeablchjlkjiaaW.PrintWords Go.Proofs.YtfeablchjlkjiaaW.PrintMore

/-- A row of numbers of one's own, between two marks of the heap. -/
structure IntOwn (w : World) (base top : Nat) (v : Value) (l : List Int) : Prop where
  own : w.ownsRow base 3 1 v l.length (nums .i64 l)
  rlt : ∀ k, v.ownBlock = some k → k < top
theorem IntOwn.of {w : World} {base : Nat} {v : Value} {l : List Int} (h : w.ownsRow base 3 1 v l.length (nums .i64 l)) : IntOwn w base w.heap.size v l := ⟨h, fun k hk => own_lt h k hk⟩
theorem IntOwn.below {w w1 : World} {base top : Nat} {v : Value} {l : List Int} (h : IntOwn w base top v l) (hb : Below w.heap.size w w1) : IntOwn w1 base top v l := ⟨pw_own_below h.own hb, h.rlt⟩
theorem IntOwn.move {w w1 : World} {base top : Nat} {v : Value} {l : List Int} (h : IntOwn w base top v l) (hm : ∀ k, base ≤ k → k < top → w1.heap[k]? = w.heap[k]?) : IntOwn w1 base top v l := ⟨own_move h.own (fun k hk => hm k (own_base h.own k hk) (h.rlt k hk)), h.rlt⟩
theorem IntOwn.C {w : World} {base top n c : Nat} {A : Option Addr} {l : List Int} (h : IntOwn w base top (.slice A n c) l) : (Kd.int .i64).C w A l.length l := by
  obtain ⟨A', c', he, hr⟩ := own_reads h.own
  cases he
  exact Kd.C_of_reads (enc := Value.int .i64) (d := (0 : Int)) hr
theorem IntOwn.ne {w : World} {b1 t1 b2 t2 : Nat} {v v' : Value} {l l' : List Int} (h : IntOwn w b1 t1 v l) (h' : IntOwn w b2 t2 v' l') (ht : t1 ≤ b2) : NeRow v v' := fun k hk hk' => by
  have := h.rlt k hk
  have := own_base h'.own k hk'
  omega

/-- Three rows under a header of their own. -/
theorem three_rows {w : World} {b1 t1 b2 t2 b3 t3 n1 c1 n2 c2 n3 c3 base : Nat} {A1 A2 A3 : Option Addr} {l1 l2 l3 : List Int} (h1 : IntOwn w b1 t1 (.slice A1 n1 c1) l1) (h2 : IntOwn w b2 t2 (.slice A2 n2 c2) l2) (h3 : IntOwn w b3 t3 (.slice A3 n3 c3) l3)
    (e1 : n1 = l1.length) (e2 : n2 = l2.length) (e3 : n3 = l3.length) (g1 : base ≤ b1) (g2 : t1 ≤ b2) (g3 : t2 ≤ b3) (g4 : b1 ≤ t1) (g5 : b2 ≤ t2) :
    RowsOwn (w.alloc (.cells #[.slice A1 n1 c1, .slice A2 n2 c2, .slice A3 n3 c3] 23)) base (some ⟨w.heap.size, 0, none⟩) (fun i => if i = 0 then A1 else if i = 1 then A2 else A3) (fun i => if i = 0 then c1 else if i = 1 then c2 else c3) 3 (fun i => if i = 0 then n1 else if i = 1 then n2 else n3) (fun i => if i = 0 then l1 else if i = 1 then l2 else l3) := by
  subst e1; subst e2; subst e3
  have hb := heap_alloc_new w (.cells #[.slice A1 l1.length c1, .slice A2 l2.length c2, .slice A3 l3.length c3] 23)
  have k1 := own_weaken h1.own g1
  have k2 := own_weaken h2.own (show base ≤ b2 by omega)
  have k3 := own_weaken h3.own (show base ≤ b3 by omega)
  have n12 := h1.ne h2 g2
  have n23 := h2.ne h3 g3
  have n13 := h1.ne h3 (by omega)
  have lt1 := own_lt h1.own
  have lt2 := own_lt h2.own
  have lt3 := own_lt h3.own
  refine ⟨fun i hi => ⟨_, rfl, ?_, by simp, fun j hj => ?_⟩, fun i hi => ?_, fun i j hi hj hne => ?_⟩
  · rw [Addr.add_lit, cell_blk hb]
    rcases show i = 0 ∨ i = 1 ∨ i = 2 by omega with rfl | rfl | rfl <;> rfl
  · intro e
    rcases show j = 0 ∨ j = 1 ∨ j = 2 by omega with rfl | rfl | rfl
    · exact absurd (lt1 _ e) (Nat.lt_irrefl _)
    · exact absurd (lt2 _ e) (Nat.lt_irrefl _)
    · exact absurd (lt3 _ e) (Nat.lt_irrefl _)
  · rcases show i = 0 ∨ i = 1 ∨ i = 2 by omega with rfl | rfl | rfl
    · exact own_alloc k1 _
    · exact own_alloc k2 _
    · exact own_alloc k3 _
  · rcases show i = 0 ∨ i = 1 ∨ i = 2 by omega with rfl | rfl | rfl <;> rcases show j = 0 ∨ j = 1 ∨ j = 2 by omega with rfl | rfl | rfl <;> first | exact absurd rfl hne | exact n12 | exact n13 | exact n23 | exact ne_symm n12 | exact ne_symm n13 | exact ne_symm n23

/-- A row of headers, with the lists that they show. -/
structure HeadRow (w : World) (base hb cap n : Nat) (hs : List HdT) (marks : List Value) (xs : List (List Int)) : Prop where
  own : w.ownsRow base 23 1 (.slice (some ⟨hb, 0, none⟩) (n + 2) cap) (n + 2) (encs hdV hs ++ marks)
  len : hs.length = n
  lenx : xs.length = n
  row : ∀ i, i < n → (hs.getD i (none, 0, 0)).2.1 = (xs.getD i []).length ∧ (xs.getD i []).length ≤ (hs.getD i (none, 0, 0)).2.2 ∧ (Kd.int .i64).C w (hs.getD i (none, 0, 0)).1 (xs.getD i []).length (xs.getD i [])
theorem HeadRow.cell {w : World} {base hb cap n : Nat} {hs : List HdT} {marks : List Value} {xs : List (List Int)} (h : HeadRow w base hb cap n hs marks xs) (i : Nat) (hi : i < n) : w.cell? ⟨hb, i, none⟩ = some (hdV (hs.getD i (none, 0, 0))) := by
  have hc := h.own.cellAt i (by omega)
  rw [List.getElem?_append_left (by simp [encs, h.len]; exact hi)] at hc
  rw [hc]
  have : i < hs.length := by rw [h.len]; exact hi
  simp [encs, List.getD, this]
theorem HeadRow.free {w : World} {base hb cap n : Nat} {hs : List HdT} {marks : List Value} {xs : List (List Int)} (h : HeadRow w base hb cap n hs marks xs) (i : Nat) : w.frozen? ⟨hb, i, none⟩ = false := World.ownsRow.frozenAt h.own i
theorem HeadRow.reads {w : World} {base hb cap n : Nat} {hs : List HdT} {marks : List Value} {xs : List (List Int)} (h : HeadRow w base hb cap n hs marks xs) : KRows.C w (some ⟨hb, 0, none⟩) n xs := by
  have hcap := own_cap h.own
  have hmx : cap ≤ maxLen := by
    rcases h.own.2 with ⟨he, _⟩ | ⟨g, cap', cur, he, _, _, _, hm, _, _⟩
    · cases he
    · cases he; exact hm
  refine ⟨h.lenx, by unfold maxLen at hmx; omega, fun _ => ⟨_, rfl, fun j p hj => ?_⟩⟩
  have hjl : j < xs.length := (List.getElem?_eq_some_iff.1 hj).1
  rw [h.lenx] at hjl
  have hp : xs.getD j [] = p := by rw [List.getD_eq_getElem?_getD, hj]; rfl
  obtain ⟨r1, r2, r3⟩ := h.row j hjl
  have hc := h.cell j hjl
  rw [hp] at r1 r2 r3
  refine ⟨[hdV (hs.getD j (none, 0, 0))], rfl, ⟨_, _, by rw [hdV, r1], r2, r3⟩, ?_⟩
  intro i u hu
  obtain rfl : i = 0 := by
    have := (List.getElem?_eq_some_iff.1 hu).1
    simpa using this
  obtain rfl : hdV (hs.getD j (none, 0, 0)) = u := by simpa using hu
  have e : (⟨hb, 0, none⟩ : Addr).add (j * Kd.sz KRows + 0) = ⟨hb, j, none⟩ := by
    show (⟨hb, 0, none⟩ : Addr).add (j * 1 + 0) = _
    rw [Nat.mul_one, Nat.add_zero, Addr.add_lit, Nat.zero_add]
  rw [e]
  exact hc
theorem HeadRow.keepC {w : World} {base hb cap n : Nat} {hs : List HdT} {marks : List Value} {xs : List (List Int)} (h : HeadRow w base hb cap n hs marks xs) (i : Nat) (hi : i < n) (v : Value) {A : Option Addr} {m : Nat} {l : List Int} (hC : (Kd.int .i64).C w A m l) : (Kd.int .i64).C (w.setCell ⟨hb, i, none⟩ v) A m l := by
  refine ⟨hC.1, hC.2.1, fun hp => ?_⟩
  obtain ⟨ad, he, hrow⟩ := hC.2.2 hp
  refine ⟨ad, he, fun j p hj => ?_⟩
  obtain ⟨cs, c1, c2, c3⟩ := hrow j p hj
  refine ⟨cs, c1, c2, fun q u hu => ?_⟩
  have hq := c3 q u hu
  rw [World.cell?_setCell_other (h := fun e => ?_) ..]
  · exact hq
  · rw [← e, h.cell i hi] at hq
    have hcs : cs = [Value.int .i64 p] := c2
    rw [hcs] at hu
    have hu2 : u = Value.int .i64 p := by
      have := List.mem_of_getElem? hu
      simpa using this
    rw [hu2, hdV] at hq
    injection hq with hq
    cases hq
/-- A header is written over: the list there is another one. -/
theorem HeadRow.set {w : World} {base hb cap n : Nat} {hs : List HdT} {marks : List Value} {xs : List (List Int)} (h : HeadRow w base hb cap n hs marks xs) (i : Nat) (hi : i < n) (hd : HdT) (x : List Int) (h1 : hd.2.1 = x.length) (h2 : x.length ≤ hd.2.2) (h3 : (Kd.int .i64).C w hd.1 x.length x) :
    HeadRow (w.setCell ⟨hb, i, none⟩ (hdV hd)) base hb cap n (hs.set i hd) marks (xs.set i x) ∧ w.grownBy (w.setCell ⟨hb, i, none⟩ (hdV hd)) (some hb) := by
  obtain ⟨ho, hg⟩ := h.own.stored i (hdV hd)
  refine ⟨⟨?_, by rw [List.length_set]; exact h.len, by rw [List.length_set]; exact h.lenx, fun j hj => ?_⟩, hg⟩
  · have e : (encs hdV hs ++ marks).set i (hdV hd) = encs hdV (hs.set i hd) ++ marks := by
      rw [List.set_append_left _ _ (by simp [encs, h.len]; exact hi)]
      simp [encs, List.map_set]
    rw [← e]
    exact ho
  · by_cases e : j = i
    · subst e
      have a1 : (hs.set j hd).getD j (none, 0, 0) = hd := by simp [List.getD, h.len, hi]
      have a2 : (xs.set j x).getD j [] = x := by simp [List.getD, h.lenx, hi]
      rw [a1, a2]
      exact ⟨h1, h2, h.keepC _ hi _ h3⟩
    · have a1 : (hs.set i hd).getD j (none, 0, 0) = hs.getD j (none, 0, 0) := by simp [List.getD, List.getElem?_set_ne (Ne.symm e)]
      have a2 : (xs.set i x).getD j [] = xs.getD j [] := by simp [List.getD, List.getElem?_set_ne (Ne.symm e)]
      rw [a1, a2]
      obtain ⟨r1, r2, r3⟩ := h.row j hj
      exact ⟨r1, r2, h.keepC i hi _ r3⟩
theorem HeadRow.below {w w1 : World} {base hb cap n : Nat} {hs : List HdT} {marks : List Value} {xs : List (List Int)} (h : HeadRow w base hb cap n hs marks xs) (hb1 : Below w.heap.size w w1) : HeadRow w1 base hb cap n hs marks xs :=
  ⟨pw_own_below h.own hb1, h.len, h.lenx, fun i hi => ⟨(h.row i hi).1, (h.row i hi).2.1, Kd.C_below (h.row i hi).2.2 hb1⟩⟩
theorem TwinAt.headRow {w : World} {base hb cap : Nat} {fb fc : Nat → Nat} {xs : List (List Int)} {cells : List Value} (h : TwinAt w base hb cap fb fc xs cells) : HeadRow w base hb cap xs.length (hdrs fb fc xs) [.slice (some ⟨fb xs.length, 0, none⟩) 1 1, .slice (some ⟨fb (xs.length + 1), 0, none⟩) 1 1] xs := by
  refine ⟨by rw [← h.cells_is]; exact h.own, hdrs_length fb fc xs, rfl, fun i hi => ?_⟩
  have e : (hdrs fb fc xs).getD i (none, 0, 0) = (some ⟨fb i, 0, none⟩, (xs.getD i []).length, fc i) := by simp [hdrs, List.getD, hi]
  rw [e]
  exact ⟨rfl, show (xs.getD i []).length ≤ fc i by have := (h.row i hi).cap; omega, (h.row i hi).reads⟩
/-- Two headers change their places. -/
theorem HeadRow.swap {w : World} {base hb cap n : Nat} {hs : List HdT} {marks : List Value} {xs : List (List Int)} (h : HeadRow w base hb cap n hs marks xs) (q o : Nat) (hq : q < n) (ho : o < n) :
    HeadRow ((w.setCell ⟨hb, q, none⟩ (hdV (hs.getD o (none, 0, 0)))).setCell ⟨hb, o, none⟩ (hdV (hs.getD q (none, 0, 0)))) base hb cap n ((hs.set q (hs.getD o (none, 0, 0))).set o (hs.getD q (none, 0, 0))) marks ((xs.set q (xs.getD o [])).set o (xs.getD q []))
    ∧ w.grownBy ((w.setCell ⟨hb, q, none⟩ (hdV (hs.getD o (none, 0, 0)))).setCell ⟨hb, o, none⟩ (hdV (hs.getD q (none, 0, 0)))) (some hb) := by
  obtain ⟨a1, a2, a3⟩ := h.row o ho
  obtain ⟨b1, b2, b3⟩ := h.row q hq
  obtain ⟨s1, g1⟩ := h.set q hq _ _ a1 a2 a3
  obtain ⟨s2, g2⟩ := s1.set o ho _ _ b1 b2 (h.keepC q hq _ b3)
  exact ⟨s2, grown_then g1 g2 (.inl rfl)⟩
theorem swap_mem {cl xs : List (List Int)} (h : ∀ x ∈ xs, x ∈ cl) (q o : Nat) (hq : q < xs.length) (ho : o < xs.length) : ∀ x ∈ (xs.set q (xs.getD o [])).set o (xs.getD q []), x ∈ cl := by
  have g : ∀ i, i < xs.length → xs.getD i [] ∈ cl := fun i hi => h _ (rows_mem hi)
  intro x hx
  rcases List.mem_or_eq_of_mem_set hx with hx | rfl
  · rcases List.mem_or_eq_of_mem_set hx with hx | rfl
    · exact h x hx
    · exact g o ho
  · exact g q hq
theorem small_of_mem {cl xs : List (List Int)} (hs : SmallRows cl) (h : ∀ x ∈ xs, x ∈ cl ∨ x = []) (hl : xs.length = cl.length) : SmallRows xs :=
  ⟨by rw [hl]; exact hs.hdr, fun x hx => by
    rcases h x hx with h1 | rfl
    · exact hs.row x h1
    · decide⟩
theorem half_nat (n : Nat) : ((n : Int)).tdiv 2 = ((n / 2 : Nat) : Int) := by
  rw [Int.tdiv_eq_ediv_of_nonneg (by omega)]
  omega
/-- Three clauses, written out. -/
theorem lit_three (W : World) (a b d : List Int) (ha : a.length ≤ 1000) (hb : b.length ≤ 1000) (hd : d.length ≤ 1000) :
    KRows.C ((((W.alloc (.cells (nums .i64 a).toArray 3)).alloc (.cells (nums .i64 b).toArray 3)).alloc (.cells (nums .i64 d).toArray 3)).alloc (.cells #[.slice (some ⟨W.heap.size, 0, none⟩) a.length a.length, .slice (some ⟨W.heap.size + 1, 0, none⟩) b.length b.length, .slice (some ⟨W.heap.size + 1 + 1, 0, none⟩) d.length d.length] 23)) (some ⟨W.heap.size + 1 + 1 + 1, 0, none⟩) 3 [a, b, d]
    ∧ Below W.heap.size W ((((W.alloc (.cells (nums .i64 a).toArray 3)).alloc (.cells (nums .i64 b).toArray 3)).alloc (.cells (nums .i64 d).toArray 3)).alloc (.cells #[.slice (some ⟨W.heap.size, 0, none⟩) a.length a.length, .slice (some ⟨W.heap.size + 1, 0, none⟩) b.length b.length, .slice (some ⟨W.heap.size + 1 + 1, 0, none⟩) d.length d.length] 23)) := by
  have la := lit_ints W a (by omega)
  have lb := lit_ints (W.alloc (.cells (nums .i64 a).toArray 3)) b (by omega)
  have s1 : (W.alloc (.cells (nums .i64 a).toArray 3)).heap.size = W.heap.size + 1 := by simp
  rw [s1] at lb
  have hb1 := below_new W (.cells (nums .i64 a).toArray 3)
  generalize hW1 : W.alloc (.cells (nums .i64 a).toArray 3) = W1 at *
  have hb2 := below_new W1 (.cells (nums .i64 b).toArray 3)
  have s2 : (W1.alloc (.cells (nums .i64 b).toArray 3)).heap.size = W.heap.size + 1 + 1 := by simp [s1]
  generalize hW2 : W1.alloc (.cells (nums .i64 b).toArray 3) = W2 at *
  have ld := lit_ints W2 d (by omega)
  rw [s2] at ld
  have hb3 := below_new W2 (.cells (nums .i64 d).toArray 3)
  have s3 : (W2.alloc (.cells (nums .i64 d).toArray 3)).heap.size = W.heap.size + 1 + 1 + 1 := by simp [s2]
  generalize hW3 : W2.alloc (.cells (nums .i64 d).toArray 3) = W3 at *
  have hr := lit_rows W3 [a, b, d] [.slice (some ⟨W.heap.size, 0, none⟩) a.length a.length, .slice (some ⟨W.heap.size + 1, 0, none⟩) b.length b.length, .slice (some ⟨W.heap.size + 1 + 1, 0, none⟩) d.length d.length] (by simp) (by
    intro j p hj
    have hjl := (List.getElem?_eq_some_iff.1 hj).1
    have hj2 : j = 0 ∨ j = 1 ∨ j = 2 := by simp at hjl; omega
    rcases hj2 with rfl | rfl | rfl
    · obtain rfl : a = p := by simpa using hj
      exact ⟨_, _, rfl, Nat.le_refl _, Kd.C_below (Kd.C_below la hb2) hb3⟩
    · obtain rfl : b = p := by simpa using hj
      exact ⟨_, _, rfl, Nat.le_refl _, Kd.C_below lb hb3⟩
    · obtain rfl : d = p := by simpa using hj
      exact ⟨_, _, rfl, Nat.le_refl _, ld⟩)
  rw [s3] at hr
  have hb4 := below_new W3 (.cells #[.slice (some ⟨W.heap.size, 0, none⟩) a.length a.length, .slice (some ⟨W.heap.size + 1, 0, none⟩) b.length b.length, .slice (some ⟨W.heap.size + 1 + 1, 0, none⟩) d.length d.length] 23)
  exact ⟨hr, hb1.trans ((hb2.trans ((hb3.trans (hb4.mono (by omega))).mono (by omega))).mono (by omega))⟩
theorem core_lit : Sv.core 1 [[1], [1], [-1]] 100 = ([1, 2], 2, 0) := rfl
theorem three_blocks {A1 A2 A3 : Option Addr} {n1 n2 n3 c1 c2 c3 k : Nat} (h1 : (Value.slice A1 n1 c1).ownBlock ≠ some k) (h2 : (Value.slice A2 n2 c2).ownBlock ≠ some k) (h3 : (Value.slice A3 n3 c3).ownBlock ≠ some k) :
    ∀ i, i < 3 → (Value.slice (if i = 0 then A1 else if i = 1 then A2 else A3) (if i = 0 then n1 else if i = 1 then n2 else n3) (if i = 0 then c1 else if i = 1 then c2 else c3)).ownBlock ≠ some k := by
  intro i hi
  rcases show i = 0 ∨ i = 1 ∨ i = 2 by omega with rfl | rfl | rfl
  · exact h1
  · exact h2
  · exact h3
theorem IntOwn.blk_ne {w : World} {base top : Nat} {v : Value} {l : List Int} (h : IntOwn w base top v l) {k : Nat} (hk : k < base ∨ top ≤ k) : v.ownBlock ≠ some k := fun e => by
  have := h.rlt k e
  have := own_base h.own k e
  omega
end Go.Proofs.Ytfeablchjlkjiaa
