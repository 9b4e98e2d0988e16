/-
  APPEND, WITH WHAT IT KEEPS: either the row grew in its place, or nothing that was there is changed. Rows of one's own under headers.
  WALK over larderlaw09's apart: lists of one's own are written over, appended to, and looked at.
  WALK over larderlaw09's apart.
-/
import Derived.Test.YtfeablchjlkjiaaSlvC
import Derived.Test.YtfeablchjlkjiaaCoreB
import Derived.Maps.AppendAt
import Derived.Deep.DeepAppendRoom
namespace Go.Proofs.Ytfeablchjlkjiaa
open Go.RowKit Go.Proofs.YtfeablchjlkjiaaW.PrintWords Go.Proofs.YtfeablchjlkjiaaW.PrintMore

/-- Where a row lies behind an append of one cell. -/
def AppKeep (W w1 : World) (v v1 : Value) (n : Nat) : Prop :=
  (∃ g c, v = .slice (some ⟨g, 0, none⟩) n c ∧ v1 = .slice (some ⟨g, 0, none⟩) (n + 1) c ∧ W.grownBy w1 (some g)) ∨ (v1.ownBlock = some W.heap.size ∧ W.grownBy w1 none)

theorem run_append_keep {P : Program} (w : World) (base : Nat) (t ty e : TypeId) (i : TypeInfo) (z : Value) (bytes : Nat) (ht : P.underlying t = some (.slice e)) (hi : P.info? e = some i) (hz : i.zero = some z)
    (hsize : i.size = 1) (hby : i.bytes = bytes) (hzs : z.cells.size = 1) (v : Value) (n : Nat) (xs : List Value) (hown : w.ownsRow base e 1 v n xs)
    (a : Addr) (c : Nat) (x : Value) (hnews : ∀ j u, [x][j]? = some u → w.cell? (a.add j) = some u) (h1 : ∀ u ∈ [x], u.oneCell' = true) (h63 : n + 1 ≤ maxLen) (hbytes : (n + 1) * bytes ≤ 140737488355328) (hbase : base ≤ w.heap.size) :
    ∃ v' w', (Builtin.append_ #[t, t] ty #[v, .slice (some a) 1 c]).run P w = .ok v' w' ∧ w'.ownsRow base e 1 v' (n + 1) (xs ++ [x]) ∧ AppKeep w w' v v' n := by
  obtain ⟨v', w', hr, hown', hg, _, hat⟩ := run_append_own_at (P := P) w base t ty e i z 1 bytes ht hi hz hsize hby hzs (by decide) v n xs hown a 1 c [x] rfl hnews h1 h63 hbytes hbase
  refine ⟨v', w', hr, hown', ?_⟩
  rcases hown.2 with ⟨rfl, rfl⟩ | ⟨g, cap, cur, rfl, hbg, hh, hnc, hcm, hcs, htake⟩
  · right
    rcases hat with h | h
    · rcases hown'.form (by omega) with ⟨g, cc, he, _, _⟩
      rw [he] at h
      simp [Value.ownBlock] at h
    · exact ⟨h, hg⟩
  · by_cases hroom : n + 1 ≤ cap
    · obtain ⟨w2, hr2, ho2, hg2⟩ := run_append_own_spare (P := P) w base t ty e i 1 ht hi hsize g n cap xs hown a 1 c [x] rfl hnews h1 hroom
      rw [hr] at hr2
      injection hr2 with e1 e2
      subst e1; subst e2
      exact .inl ⟨g, cap, rfl, rfl, hg2⟩
    · have holds : ∀ j u, xs[j]? = some u → w.cell? ((⟨g, 0, none⟩ : Addr).add j) = some u := hown.cells (g := g) rfl
      have hx : n + 1 ≤ 9223372036854775807 := by simp only [maxLen] at h63; omega
      have hr2 := run_append_grow (P := P) w t ty e i z ht hi hz ⟨g, 0, none⟩ n cap xs (by rw [hsize]; exact hown.1) holds a 1 c [x] (by rw [hsize]; rfl) hnews (by omega) (by omega) (growslice_fits (by omega) (by rw [hby]; exact hbytes))
      rw [hr] at hr2
      injection hr2 with e1 e2
      subst e1; subst e2
      exact .inr ⟨rfl, ⟨rfl, rfl, rfl, by simp, fun k hk _ => Below.heap_alloc _ _ _ hk⟩⟩

section
variable {P : Program} {ops : Array Oper} {rest : List Oper} {o : Oper} {a : Act} {Q : Exit → Act → World → Prop}
/-- At the operation: an append of one cell that was laid in a block of its own. -/
theorem append_keep {W : World} (base : Nat) (hgd : o.guard = none) (s x : Operand) (t e : TypeId) (z : Value) (bytes : Nat)
    (ho : o.op = .call { callee := .builtin .append, args := #[s, x], argTypes := #[t, t] })
    (ht : P.underlying t = some (.slice e)) (hinfo : (P.info? e).map (fun i => (i.zero, i.size, i.bytes)) = some (some z, 1, bytes)) (hz : z.cells.size = 1) (hb0 : 0 < bytes)
    (v : Value) (n : Nat) (xs : List Value) (y : Value) (hs : a.eval s = v) (hx : a.eval x = .slice (some ⟨W.heap.size, 0, none⟩) 1 1) (h1 : ∀ u ∈ [y], u.oneCell' = true)
    (HO : W.ownsRow base e 1 v n xs) (hbase : base ≤ W.heap.size) (hl : (n + 1) * bytes ≤ 140737488355328)
    (h : ∀ v1 w1, w1.ownsRow base e 1 v1 (n + 1) (xs ++ [y]) → AppKeep (W.alloc (.cells #[y] e)) w1 v v1 n → wpList P ops Q rest (a.put o.dst v1) w1) :
    wpList P ops Q (o :: rest) a (W.alloc (.cells #[y] e)) := by
  obtain ⟨i0, hi, hzz⟩ := Option.map_eq_some_iff.1 hinfo
  simp only [Prod.mk.injEq] at hzz
  obtain ⟨hz0, hz1, hz2⟩ := hzz
  have hlen : n + 1 ≤ 140737488355328 := Nat.le_trans (Nat.le_mul_of_pos_right _ hb0) hl
  refine wpList_plain hgd fun K hK => ?_
  obtain ⟨v', w', hr, h2, h3⟩ := run_append_keep (P := P) (W.alloc (.cells #[y] e)) base t o.type e i0 z bytes ht hi hz0 hz1 hz2 hz v n xs (HO.alloc _) ⟨W.heap.size, 0, none⟩ 1 y (cell_one_new W y e) h1 (by simp only [maxLen]; omega) hl (by simp; omega)
  unfold Oper.wp execOp
  simp only [ho, resolve, invoke, builtin, Sem.run_bind, Sem.run_pure, Result.andThen_ok, List.map_toArray, List.map_cons, List.map_nil, hs, hx, hr]
  exact hK _ _ (h v' w' h2 h3)
end

/-- A row that grew in its place holds the shorter one. -/
theorem own_prefix {w : World} {base e g n m c : Nat} {cs ds : List Value} (h : w.ownsRow base e 1 (.slice (some ⟨g, 0, none⟩) m c) m (cs ++ ds)) (hn : cs.length = n) : w.ownsRow base e 1 (.slice (some ⟨g, 0, none⟩) n c) n cs := by
  obtain ⟨h1, h2⟩ := h
  refine ⟨by rw [hn, Nat.mul_one], ?_⟩
  rcases h2 with h2 | ⟨g', cap, cur, he, hb, hh, hmc, hcm, hsz, ht⟩
  · cases h2.1
  injection he with ha _ hc
  injection ha with ha
  injection ha with hg
  subst hg; subst hc
  rw [List.length_append, Nat.mul_one] at h1
  refine .inr ⟨g, c, cur, rfl, hb, hh, by omega, hcm, hsz, ?_⟩
  have h3 := congrArg (List.take n) ht
  rw [List.take_take, Nat.min_eq_left (by omega), List.take_left' hn] at h3
  rw [Nat.mul_one]
  exact h3

/-- Lists, written over up to a place of one of them. -/
def fillF (x : Nat → Int) (f : Nat → List Int) (i k : Nat) (j : Nat) : List Int :=
  if j < i then List.replicate (f j).length (x j) else if j = i then List.replicate k (x j) ++ (f j).drop k else f j
theorem fillF_start (x : Nat → Int) (f : Nat → List Int) : fillF x f 0 0 = f := by
  funext j
  unfold fillF
  rw [if_neg (by omega)]
  split <;> simp
theorem fillF_next (x : Nat → Int) (f : Nat → List Int) (i : Nat) : fillF x f i (f i).length = fillF x f (i + 1) 0 := by
  funext j
  unfold fillF
  by_cases h1 : j < i
  · rw [if_pos h1, if_pos (by omega)]
  · rw [if_neg h1]
    by_cases h2 : j = i
    · subst h2
      rw [if_pos rfl, if_pos (by omega), List.drop_length, List.append_nil]
    · rw [if_neg h2, if_neg (by omega)]
      split <;> simp
theorem fillF_at (x : Nat → Int) (f : Nat → List Int) (i k : Nat) : fillF x f i k i = List.replicate k (x i) ++ (f i).drop k := by
  unfold fillF
  rw [if_neg (by omega), if_pos rfl]
theorem fillF_step (x : Nat → Int) (f : Nat → List Int) (i k : Nat) (hk : k < (f i).length) : fillF x f i (k + 1) i = (fillF x f i k i).set k (x i) := by
  have hl : (List.replicate k (x i)).length = k := by simp
  rw [fillF_at, fillF_at, List.set_append_right _ _ (by omega), hl, Nat.sub_self, List.drop_eq_getElem_cons hk, List.set_cons_zero, List.replicate_succ', List.append_assoc]
  rfl
theorem fillF_other (x : Nat → Int) (f : Nat → List Int) (i k k2 j : Nat) (h : j ≠ i) : fillF x f i k j = fillF x f i k2 j := by
  unfold fillF
  rw [if_neg (c := j = i) h, if_neg (c := j = i) h]
theorem fillF_end (x : Nat → Int) (f : Nat → List Int) (n j : Nat) (hj : j < n) : fillF x f n 0 j = List.replicate (f j).length (x j) := by
  unfold fillF
  rw [if_pos hj]

/-- Rows of one's own whose headers lie in a row. -/
structure RowsOwn (w : World) (base : Nat) (A : Option Addr) (p : Nat → Option Addr) (cc : Nat → Nat) (N : Nat) (len : Nat → Nat) (f : Nat → List Int) : Prop where
  hdr : ∀ i, i < N → ∃ ad : Addr, A = some ad ∧ w.cell? (ad.add i) = some (.slice (p i) (len i) (cc i)) ∧ ad.block < w.heap.size ∧ ∀ j, j < N → (Value.slice (p j) (len j) (cc j)).ownBlock ≠ some ad.block
  row : ∀ i, i < N → w.ownsRow base 3 1 (.slice (p i) (len i) (cc i)) (len i) (nums .i64 (f i))
  ne : ∀ i j, i < N → j < N → i ≠ j → NeRow (.slice (p i) (len i) (cc i)) (.slice (p j) (len j) (cc j))
section
variable {w w1 : World} {base : Nat} {A : Option Addr} {p : Nat → Option Addr} {cc : Nat → Nat} {N : Nat} {len : Nat → Nat} {f f' : Nat → List Int}
/-- One of the rows is written. -/
theorem RowsOwn.write (h : RowsOwn w base A p cc N len f) {i : Nat} (hi : i < N) (ho : w1.ownsRow base 3 1 (.slice (p i) (len i) (cc i)) (len i) (nums .i64 (f' i))) (hg : w.grownBy w1 (Value.slice (p i) (len i) (cc i)).ownBlock) (he : ∀ j, j ≠ i → f' j = f j) : RowsOwn w1 base A p cc N len f' := by
  refine ⟨fun j hj => ?_, fun j hj => ?_, h.ne⟩
  · obtain ⟨ad, h1, h2, h3, h4⟩ := h.hdr j hj
    refine ⟨ad, h1, ?_, Nat.lt_of_lt_of_le h3 hg.size, h4⟩
    rw [World.cell?_of_block (w := w) (w' := w1) (by rw [add_block]; exact hg.block _ h3 (fun e => h4 i hi e.symm))]
    exact h2
  · by_cases e : j = i
    · subst e
      exact ho
    · rw [he j e]
      exact own_other (h.row j hj) hg (ne_other (h.ne i j hi hj (Ne.symm e)))
/-- Nothing that was there is changed. -/
theorem RowsOwn.kept (h : RowsOwn w base A p cc N len f) (hs : w.heap.size ≤ w1.heap.size) (hb : ∀ k, k < w.heap.size → w1.heap[k]? = w.heap[k]?) : RowsOwn w1 base A p cc N len f := by
  refine ⟨fun j hj => ?_, fun j hj => own_move (h.row j hj) (fun k hk => hb k (own_lt (h.row j hj) k hk)), h.ne⟩
  obtain ⟨ad, h1, h2, h3, h4⟩ := h.hdr j hj
  refine ⟨ad, h1, ?_, Nat.lt_of_lt_of_le h3 hs, h4⟩
  rw [World.cell?_of_block (w := w) (w' := w1) (by rw [add_block]; exact hb _ h3)]
  exact h2
end
/-- What a writing over of rows leaves. -/
structure Filled (w wr : World) (base : Nat) (A : Option Addr) (p : Nat → Option Addr) (cc : Nat → Nat) (N : Nat) (len : Nat → Nat) (f : Nat → List Int) : Prop where
  rows : RowsOwn wr base A p cc N len f
  io : wr.os = w.os ∧ wr.tape = w.tape ∧ wr.output = w.output
  size : w.heap.size ≤ wr.heap.size
  other : ∀ k, k < w.heap.size → (∀ i, i < N → (Value.slice (p i) (len i) (cc i)).ownBlock ≠ some k) → wr.heap[k]? = w.heap[k]?
section
variable {w wr w1 : World} {base : Nat} {A : Option Addr} {p : Nat → Option Addr} {cc : Nat → Nat} {N : Nat} {len : Nat → Nat} {f f' : Nat → List Int}
theorem Filled.write (h : Filled w wr base A p cc N len f) {i : Nat} (hi : i < N) (ho : w1.ownsRow base 3 1 (.slice (p i) (len i) (cc i)) (len i) (nums .i64 (f' i))) (hg : wr.grownBy w1 (Value.slice (p i) (len i) (cc i)).ownBlock) (he : ∀ j, j ≠ i → f' j = f j) : Filled w w1 base A p cc N len f' :=
  ⟨h.rows.write hi ho hg he, ⟨hg.os.trans h.io.1, hg.tape.trans h.io.2.1, hg.output.trans h.io.2.2⟩, Nat.le_trans h.size hg.size, fun k hk hne => (hg.block k (Nat.lt_of_lt_of_le hk h.size) (fun e => hne i hi e.symm)).trans (h.other k hk hne)⟩
theorem Filled.far (h : Filled w wr base A p cc N len f) {row : Option Nat} (hg : wr.grownBy w1 row) (hr : ∀ q, row = some q → wr.heap.size ≤ q) : Filled w w1 base A p cc N len f :=
  ⟨h.rows.kept hg.size (fun k hk => hg.block k hk (fun e => by have := hr k e.symm; omega)), ⟨hg.os.trans h.io.1, hg.tape.trans h.io.2.1, hg.output.trans h.io.2.2⟩, Nat.le_trans h.size hg.size, fun k hk hne => (hg.block k (Nat.lt_of_lt_of_le hk h.size) (fun e => by have := hr k e.symm; have := h.size; omega)).trans (h.other k hk hne)⟩
/-- A row that no header shows, and that is new, is written. -/
theorem Filled.aside (h : Filled w wr base A p cc N len f) {q : Nat} (hg : wr.grownBy w1 (some q)) (hq : w.heap.size ≤ q) (hA : ∀ ad : Addr, A = some ad → ad.block < w.heap.size) (hp : ∀ i, i < N → ∀ k, (Value.slice (p i) (len i) (cc i)).ownBlock = some k → k < w.heap.size) : Filled w w1 base A p cc N len f := by
  refine ⟨⟨fun j hj => ?_, fun j hj => own_move (h.rows.row j hj) (fun k hk => hg.block k (own_lt (h.rows.row j hj) k hk) (fun e => ?_)), h.rows.ne⟩, ⟨hg.os.trans h.io.1, hg.tape.trans h.io.2.1, hg.output.trans h.io.2.2⟩, Nat.le_trans h.size hg.size, fun k hk hne => (hg.block k (Nat.lt_of_lt_of_le hk h.size) (fun e => ?_)).trans (h.other k hk hne)⟩
  · obtain ⟨ad, h1, h2, h3, h4⟩ := h.rows.hdr j hj
    refine ⟨ad, h1, ?_, Nat.lt_of_lt_of_le h3 hg.size, h4⟩
    rw [World.cell?_of_block (w := wr) (w' := w1) (by rw [add_block]; exact hg.block _ h3 (fun e => by injection e with e; have := hA ad h1; omega))]
    exact h2
  · injection e with e
    have := hp j hj k hk
    omega
  · injection e with e
    omega
theorem Filled.drewN (h : Filled w wr base A p cc N len f) (q : Nat) : Filled w (wr.drewN q) base A p cc N len f :=
  ⟨h.rows.kept (Nat.le_refl _) (fun _ _ => rfl), h.io, h.size, h.other⟩
end

/-- What apart writes over the row of a number. -/
def apX (i : Nat) : Int := -100 - (i : Int)
theorem apX_wrap {i : Nat} (h : i < 3) : wrap64 (-100 - (i : Int)) = apX i := by unfold wrap64 apX; omega
theorem apX_ne (i : Nat) : (apX i != apX i) = false := ne_self_int _

set_option maxRecDepth 100000 in
set_option maxHeartbeats 6400000 in
theorem apart_any {w : World} {base c : Nat} {A : Option Addr} {p : Nat → Option Addr} {cc len : Nat → Nat} {f : Nat → List Int} (h : RowsOwn w base A p cc 3 len f) (hlf : ∀ i, i < 3 → (f i).length = len i) (hlen : ∀ i, i < 3 → len i ≤ 1048576) (hbase : base ≤ w.heap.size) :
    Calls Try.prog 29 #[.slice A 3 c] w fun e w' => e = .returned (.bool true) ∧ Filled w w' base A p cc 3 len (fun j => fillF apX f 3 0 j) := by
  have H0 : Hid (Filled w w base A p cc 3 len (fillF apX f 0 0)) := ⟨by rw [fillF_start]; exact h, ⟨rfl, rfl, rfl⟩, Nat.le_refl _, fun _ _ _ => rfl⟩
  have HLF := Lib.hid hlf
  have HLE := Lib.hid hlen
  have HP : Hid (∀ i, i < 3 → ∀ k, (Value.slice (p i) (len i) (cc i)).ownBlock = some k → k < w.heap.size) := Lib.hid (fun i hi k hk => own_lt (h.row i hi) k hk)
  have HA : Hid (∀ ad : Addr, A = some ad → ad.block < w.heap.size) := Lib.hid (fun ad ha => by
    obtain ⟨ad2, h1, _, h3, _⟩ := h.hdr 0 (by decide)
    rw [ha] at h1
    cases h1
    exact h3)
  obtain ⟨hd, rfl, _⟩ := h.hdr 0 (by decide)
  clear h hlf hlen
  go_enter Try.func29, Try.ntmps29
  go_wp2_with fail
  go_loopw [3] (fun iv wr => ∃ i : Nat, i ≤ 3 ∧ iv = .int .i64 i ∧ Hid (Filled w wr base (some hd) p cc 3 len (fillF apX f i 0))) (fun iv _ => 3 - (intOf iv).toNat)
  case atStart => exact ⟨0, Nat.zero_le _, rfl, H0⟩
  case round =>
    obtain ⟨i, hi, rfl, HT⟩ := hrel
    by_cases hlt : i < 3
    · obtain ⟨ad, he, hcell, _⟩ := HT.out.rows.hdr i hlt
      cases he
      have hli := HLE.out i hlt
      have hlfi := HLF.out i hlt
      go_wp2_with fail
      go_loopw [4] (fun kv wi => ∃ k : Nat, k ≤ len i ∧ kv = .int .i64 k ∧ Hid (Filled w wi base (some hd) p cc 3 len (fillF apX f i k))) (fun kv _ => len i - (intOf kv).toNat)
      case atStart => exact ⟨0, Nat.zero_le _, rfl, HT⟩
      case round =>
        obtain ⟨k, hk, rfl, HK⟩ := hrel
        obtain ⟨ad, he, hcell2, _⟩ := HK.out.rows.hdr i hlt
        cases he
        by_cases hlt2 : k < len i
        · have hkf : k < (f i).length := by omega
          have hrow := HK.out.rows.row i hlt
          obtain ⟨q, qc, he, _, _⟩ := hrow.form (by omega)
          rw [he] at hrow hcell2
          have hat := own_at hrow (k : Int) (by omega) (by omega)
          have hst := own_store hrow (k : Int) (apX i)
          rw [Int.toNat_natCast] at hat hst
          rw [← fillF_step apX f i k hkf] at hst
          obtain ⟨hat1, hat2⟩ := hat
          have hnx : Filled w (wr.setCell ⟨q, k, none⟩ (.int .i64 (apX i))) base (some hd) p cc 3 len (fillF apX f i (k + 1)) := HK.out.write hlt (by rw [he]; exact hst.1) (by rw [he]; exact hst.2) (fun j hj => fillF_other apX f i _ _ j hj)
          have HNX := Lib.hid hnx
          clear hst hnx hrow
          go_wp2_with fail
          go_roundw
          case rel => exact ⟨k + 1, by omega, by go_num, HNX⟩
          case measure => simp [intOf]; omega
        · obtain rfl : k = len i := by omega
          have HKN : Hid (Filled w wr base (some hd) p cc 3 len (fillF apX f (i + 1) 0)) := by rw [← fillF_next, hlfi]; exact HK
          go_wp2_with fail
          go_roundw
          case rel => exact ⟨i + 1, by omega, by go_num, HKN⟩
          case measure => simp [intOf]; omega
    · have hi3 : i = 3 := by omega
      rw [hi3] at HT
      clear hi3
      go_wp2_with fail
      have hgl : ∀ j, j < 3 → fillF apX f 3 0 j = List.replicate (len j) (apX j) := fun j hj => by rw [fillF_end _ _ _ _ hj, HLF.out j hj]
      generalize hgq : fillF apX f 3 0 = g at *
      have HGQ := Lib.hid hgq
      clear hgq
      have HGL := Lib.hid hgl
      clear hgl H0
      go_loopw [5, 6] (fun nv iv wr => ∃ (i : Nat) (t : Int), i ≤ 3 ∧ nv = .int .i64 t ∧ iv = .int .i64 i ∧ 70 * (i : Int) ≤ t ∧ t ≤ 1048646 * (i : Int) ∧ Hid (Filled w wr base (some hd) p cc 3 len g)) (fun _ iv _ => 3 - (intOf iv).toNat)
      case atStart => exact ⟨0, 0, by decide, rfl, rfl, by decide, by decide, HT⟩
      case round =>
        obtain ⟨i, t, hi2, rfl, rfl, ht1, ht2, HF⟩ := hrel
        by_cases hlt2 : i < 3
        · obtain ⟨ad, he, hcell, _⟩ := HF.out.rows.hdr i hlt2
          cases he
          have hli := HLE.out i hlt2
          have hby : 0 < 8 := by decide
          have hd3 : decide ((i : Int) < 3) = true := decide_eq_true (by omega)
          go_wp2_with fail
          go_loopw [7, 8] (fun mv kv wi => ∃ (k m : Nat) (mA : Option Addr) (mc : Nat) (ex : List Value), mv = .slice mA m mc ∧ Hid (m = len i + k) ∧ k ≤ 70 ∧ kv = .int .i64 k ∧ Hid (Filled w wi base (some hd) p cc 3 len g) ∧ Hid (wi.ownsRow base 3 1 mv m (nums .i64 (g i) ++ ex)) ∧ Hid ((mA = p i ∧ mc = cc i) ∨ ∃ q, mv.ownBlock = some q ∧ w.heap.size ≤ q)) (fun _ kv _ => 70 - (intOf kv).toNat)
          case atStart => exact ⟨0, len i, p i, cc i, [], rfl, rfl, by decide, rfl, HF, Lib.hid (by rw [List.append_nil]; exact HF.out.rows.row i hlt2), Lib.hid (.inl ⟨rfl, rfl⟩)⟩
          case round =>
            obtain ⟨k, m, mA, mc, ex, rfl, hm, hk, rfl, HFK, HO, HPL⟩ := hrel
            have hmb : m ≤ 1048646 := by have := hm.out; omega
            by_cases hlt3 : k < 70
            · have hl1 : (m + 1) * 8 ≤ 140737488355328 := by omega
              have hbw : base ≤ wr.heap.size := Nat.le_trans hbase HFK.out.size
              go_wp2_with (at_builtin; refine append_keep base rfl _ _ 23 3 (.int .i64 0) 8 rfl Try.underlying23 infoInt rfl hby (.slice mA m mc) m _ (.int .i64 _) rfl rfl (one_single _) HO.out hbw hl1 ?_; intro v1 wq hown1 hk1; obtain ⟨A1, c1, rfl⟩ := own_slice hown1; have HO1 := Lib.hid hown1; have HK1 := Lib.hid hk1; clear hown1 hk1)
              go_roundw
              case rel =>
                have hga : wr.grownBy (wr.alloc (.cells #[.int .i64 (100 + (i : Int))] 3)) none := World.grownBy_alloc wr _ _
                rcases HK1.out with ⟨gq, cq, e1, e2, hg⟩ | ⟨e1, hg⟩
                · cases e1
                  cases e2
                  have hg2 : wr.grownBy wq (some gq) := grown_then ⟨hga.os, hga.tape, hga.output, hga.size, fun k hk _ => hga.block k hk (by simp)⟩ hg (.inl rfl)
                  rcases HPL.out with ⟨h1, h2⟩ | ⟨q, h1, h2⟩
                  · subst h2
                    have hpr := own_prefix (cs := nums .i64 (g i)) (ds := ex ++ [.int .i64 (100 + (i : Int))]) (n := len i) (by rw [← List.append_assoc]; exact HO1.out) (by rw [HGL.out i hlt2]; simp [nums])
                    rw [h1] at hpr
                    refine ⟨k + 1, m + 1, _, _, ex ++ [.int .i64 (100 + (i : Int))], rfl, Lib.hid (by have := hm.out; omega), by omega, by go_num, Lib.hid (HFK.out.write hlt2 hpr (by rw [← h1]; exact hg2) (fun _ _ => rfl)), Lib.hid (by rw [← List.append_assoc]; exact HO1.out), Lib.hid (.inl ⟨h1, rfl⟩)⟩
                  · have e3 : gq = q := by simpa [Value.ownBlock] using h1
                    subst e3
                    exact ⟨k + 1, m + 1, _, _, ex ++ [.int .i64 (100 + (i : Int))], rfl, Lib.hid (by have := hm.out; omega), by omega, by go_num, Lib.hid (HFK.out.aside hg2 h2 HA.out HP.out), Lib.hid (by rw [← List.append_assoc]; exact HO1.out), Lib.hid (.inr ⟨_, rfl, h2⟩)⟩
                · have hg2 : wr.grownBy wq none := grown_then hga hg (.inl rfl)
                  exact ⟨k + 1, m + 1, _, _, ex ++ [.int .i64 (100 + (i : Int))], rfl, Lib.hid (by have := hm.out; omega), by omega, by go_num, Lib.hid (HFK.out.far hg2 (fun q hq => nomatch hq)), Lib.hid (by rw [← List.append_assoc]; exact HO1.out), Lib.hid (.inr ⟨_, e1, by have := HFK.out.size; simp; omega⟩)⟩
              case measure => simp [intOf]; omega
            · obtain rfl : k = 70 := by omega
              have hm2 := hm.out
              go_wp2_with fail
              go_roundw
              case rel => exact ⟨i + 1, t + ((len i : Int) + 70), by omega, by go_num, by go_num, by omega, by omega, HFK⟩
              case measure => simp [intOf]; omega
        · have ht210 : 210 ≤ t := by omega
          go_wp2_with fail
          obtain ⟨ws, hws⟩ : ∃ ws, ws = wr := ⟨_, rfl⟩
          subst hws
          go_loopw [9] (fun iv wr => ∃ i q : Nat, i ≤ 3 ∧ iv = .int .i64 i ∧ wr = ws.drewN q) (fun iv _ => 3 - (intOf iv).toNat)
          case atStart => exact ⟨0, 0, by decide, rfl, rfl⟩
          case round =>
            obtain ⟨i, q, hi3, rfl, rfl⟩ := hrel
            have HFD := Lib.hid (HF.out.drewN q)
            by_cases hlt3 : i < 3
            · obtain ⟨ad, he, hcell, _⟩ := HFD.out.rows.hdr i hlt3
              cases he
              have hli := HLE.out i hlt3
              have hd3 : decide ((i : Int) < 3) = true := decide_eq_true (by omega)
              go_wp2_with fail
              go_loopw [10] (fun kv wi => ∃ k q2 : Nat, k ≤ len i ∧ kv = .int .i64 k ∧ wi = ws.drewN q2) (fun kv _ => len i - (intOf kv).toNat)
              case atStart => exact ⟨0, q, Nat.zero_le _, rfl, rfl⟩
              case round =>
                obtain ⟨k, q2, hk, rfl, rfl⟩ := hrel
                have HFK := Lib.hid (HF.out.drewN q2)
                obtain ⟨ad, he, hcell2, _⟩ := HFK.out.rows.hdr i hlt3
                cases he
                by_cases hlt4 : k < len i
                · have hrow := HFK.out.rows.row i hlt3
                  obtain ⟨qr, qc, he, _, _⟩ := hrow.form (by omega)
                  rw [he] at hrow hcell2
                  have hat := (own_at hrow (k : Int) (by omega) (by omega)).1
                  rw [Int.toNat_natCast, HGL.out i hlt3, show rd (List.replicate (len i) (apX i)) (k : Int) = -100 - (i : Int) by rw [rd, Int.toNat_natCast]; simp [List.getD, hlt4, apX]] at hat
                  have hne := ne_self_int (-100 - (i : Int))
                  have heq := eq_self_int (-100 - (i : Int))
                  clear hrow
                  go_wp2_with fail
                  go_roundw
                  case rel => exact ⟨k + 1, q2, by omega, by go_num, rfl⟩
                  case measure => simp [intOf]; omega
                · obtain rfl : k = len i := by omega
                  go_wp2_with fail
                  go_roundw
                  case rel => exact ⟨i + 1, q2, by omega, by go_num, rfl⟩
                  case measure => simp [intOf]; omega
            · have hge : decide ((210 : Int) ≤ t) = true := decide_eq_true (by omega)
              go_wp2_with fail
              go_ret
              exact ⟨rfl, by have h := HF.out.drewN q; rw [← HGQ.out] at h; exact h⟩
end Go.Proofs.Ytfeablchjlkjiaa
