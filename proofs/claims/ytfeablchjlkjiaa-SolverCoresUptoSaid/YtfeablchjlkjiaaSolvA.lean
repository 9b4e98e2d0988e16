/-
  WALKS over package solver, first part: the state in memory; of, set, decide, look, right.
-/
import Derived.Test.YtfeablchjlkjiaaProg
import Derived.WalkKit
import Derived.KernelRfl
import Derived.Below
import Derived.Laws.MakeOwn
import Derived.Laws.OwnMore
import Derived.OwnWalk
import Derived.RowKit3
import Derived.Deep.QuietTactic
import Derived.BigQuiet
import Derived.Outline
import Derived.Lib.Hide
import Derived.LoopTactic
import Derived.Test.YtfeablchjlkjiaaWWords
import Derived.Test.YtfeablchjlkjiaaSolvPlain
namespace Go.Proofs.Ytfeablchjlkjiaa
open Go.RowKit Go.Proofs.YtfeablchjlkjiaaW.PrintWords

/-- The search at block g: its eight cells, and its values' own block. -/
structure SearchAt (w : World) (g : Nat) (n : Int) (cl pf : Value) (bud : Int) (vb : Nat) (vals : List Int) (tv cv : Value) (steps : Int) : Prop where
  blk : w.heap[g]? = some (.cells #[.int .i64 n, cl, pf, .int .i64 bud, .slice (some ⟨vb, 0, none⟩) vals.length vals.length, tv, cv, .int .i64 steps] 65 (0, 0))
  val : w.heap[vb]? = some (.cells (vals.map (Value.int .i8)).toArray 67 (0, 0))

theorem cell_blk {w : World} {b : Nat} {cs : Array Value} {t : TypeId} {fr : Nat × Nat} (h : w.heap[b]? = some (.cells cs t fr)) (i : Nat) : w.cell? ⟨b, i, none⟩ = cs[i]? := by
  simp [World.cell?, h]

section
variable {w w1 : World} {g : Nat} {n : Int} {cl pf : Value} {bud : Int} {vb : Nat} {vals : List Int} {tv cv : Value} {steps : Int}
theorem SearchAt.cell (h : SearchAt w g n cl pf bud vb vals tv cv steps) (i : Nat) : w.cell? ⟨g, i, none⟩ = #[.int .i64 n, cl, pf, .int .i64 bud, .slice (some ⟨vb, 0, none⟩) vals.length vals.length, tv, cv, .int .i64 steps][i]? := cell_blk h.blk i
theorem SearchAt.free (h : SearchAt w g n cl pf bud vb vals tv cv steps) (i : Nat) : w.frozen? ⟨g, i, none⟩ = false := blk_frozen h.blk i
theorem SearchAt.vcell (h : SearchAt w g n cl pf bud vb vals tv cv steps) (k : Nat) (hk : k < vals.length) : w.cell? ⟨vb, k, none⟩ = some (.int .i8 (vals.getD k 0)) := by rw [cell_blk h.val]; simp [hk]
theorem SearchAt.vfree (h : SearchAt w g n cl pf bud vb vals tv cv steps) (i : Nat) : w.frozen? ⟨vb, i, none⟩ = false := blk_frozen h.val i
theorem SearchAt.ne (h : SearchAt w g n cl pf bud vb vals tv cv steps) : g ≠ vb := blk_ne h.blk h.val (by decide)
/-- A row of another element type has been written, or none. -/
theorem SearchAt.grown (h : SearchAt w g n cl pf bud vb vals tv cv steps) {base e size m : Nat} {v : Value} {xs : List Value} (ho : w.ownsRow base e size v m xs) (h1 : e ≠ 65) (h2 : e ≠ 67) (hg : w.grownBy w1 v.ownBlock) : SearchAt w1 g n cl pf bud vb vals tv cv steps :=
  ⟨blk_grown h.blk hg (own_ne ho h.blk h1), blk_grown h.val hg (own_ne ho h.val h2)⟩
theorem SearchAt.set5 (h : SearchAt w g n cl pf bud vb vals tv cv steps) (tv' : Value) : SearchAt (w.setCell ⟨g, 5, none⟩ tv') g n cl pf bud vb vals tv' cv steps :=
  ⟨blk_set h.blk 5 tv', blk_far h.val (Ne.symm h.ne) tv'⟩
theorem SearchAt.set6 (h : SearchAt w g n cl pf bud vb vals tv cv steps) (cv' : Value) : SearchAt (w.setCell ⟨g, 6, none⟩ cv') g n cl pf bud vb vals tv cv' steps :=
  ⟨blk_set h.blk 6 cv', blk_far h.val (Ne.symm h.ne) cv'⟩
theorem SearchAt.set7 (h : SearchAt w g n cl pf bud vb vals tv cv steps) (s : Int) : SearchAt (w.setCell ⟨g, 7, none⟩ (.int .i64 s)) g n cl pf bud vb vals tv cv s :=
  ⟨blk_set h.blk 7 (.int .i64 s), blk_far h.val (Ne.symm h.ne) (.int .i64 s)⟩
theorem SearchAt.setv (h : SearchAt w g n cl pf bud vb vals tv cv steps) (k : Nat) (x : Int) : SearchAt (w.setCell ⟨vb, k, none⟩ (.int .i8 x)) g n cl pf bud vb (vals.set k x) tv cv steps := by
  refine ⟨?_, ?_⟩
  · have := blk_far h.blk (p := ⟨vb, k, none⟩) h.ne (.int .i8 x)
    simpa using this
  · rw [blk_set h.val k (.int .i8 x)]
    simp [List.map_set]
end

/-- The decisions' cells: the last decision stands first in the list, last in memory. -/
def chCells : List (Int × Bool) → List Value
  | [] => []
  | (a, s) :: r => chCells r ++ [.int .i64 a, .bool s]
theorem chCells_length (l : List (Int × Bool)) : (chCells l).length = l.length * 2 := by
  induction l with
  | nil => rfl
  | cons x r ih => rw [chCells, List.length_append, ih]; simp; omega

/-- What was there when Solve began stays, and what holds a pointer to a search (its own variables). -/
structure Keep (base : Nat) (w w' : World) : Prop where
  below : Below base w w'
  boxes : ∀ (k : Nat) (cs : Array Value) (fr : Nat × Nat), w.heap[k]? = some (.cells cs 61 fr) → w'.heap[k]? = some (.cells cs 61 fr)
theorem Keep.refl (base : Nat) (w : World) : Keep base w w := ⟨Below.refl _ _, fun _ _ _ h => h⟩
theorem Keep.trans {base : Nat} {a b c : World} (h : Keep base a b) (k : Keep base b c) : Keep base a c := ⟨h.below.trans k.below, fun i cs fr hi => k.boxes i cs fr (h.boxes i cs fr hi)⟩
theorem Keep.drew {base : Nat} {a b : World} (h : Keep base a b) : Keep base a b.drew := ⟨h.below.drew, h.boxes⟩
theorem Keep.set {base : Nat} {a b : World} (h : Keep base a b) {g i : Nat} {cs : Array Value} {t : TypeId} (hb : b.heap[g]? = some (.cells cs t (0, 0))) (ht : t ≠ 61) (hg : base ≤ g) (u : Value) : Keep base a (b.setCell ⟨g, i, none⟩ u) :=
  h.trans ⟨(Below.refl _ _).setCell hg u, fun k cs' fr hk => by
    rw [Below.heap_setCell _ _ _ _ (fun e => ?_)]
    · exact hk
    · have e : k = g := e
      subst e
      have hk' : b.heap[k]? = some (.cells cs' 61 fr) := hk
      rw [hb] at hk'
      injection hk' with hk'
      injection hk' with _ h2
      exact ht h2⟩
theorem Keep.grown {base : Nat} {a b c : World} (h : Keep base a b) {e size m : Nat} {v : Value} {xs : List Value} (ho : b.ownsRow base e size v m xs) (he : e ≠ 61) (hg : b.grownBy c v.ownBlock) (hb : base ≤ b.heap.size) : Keep base a c :=
  h.trans ⟨(Below.refl _ _).grown hg hb (own_base ho), fun k cs' fr hk => blk_grown hk hg (by
    intro e2
    rcases ho.2 with ⟨rfl, _⟩ | ⟨g', cap, cur, rfl, _, hh, _⟩
    · simp [Value.ownBlock] at e2
    · have : k = g' := by simpa [Value.ownBlock] using e2
      subst this
      rw [hk] at hh
      injection hh with hh
      injection hh with _ ht
      exact he ht.symm)⟩

/-- The problem, as it lies in the search. -/
structure Pb where
  n : Int
  cl : Value
  pf : Value
  bud : Int
/-- The search's turning part. -/
structure St where
  vals : List Int
  tr : List Int
  ch : List (Int × Bool)
  steps : Int

structure IsS (base : Nat) (w : World) (g : Nat) (p : Pb) (s : St) (vb : Nat) (tv cv : Value) : Prop where
  at_ : SearchAt w g p.n p.cl p.pf p.bud vb s.vals tv cv s.steps
  tr : w.ownsRow base 3 1 tv s.tr.length (nums .i64 s.tr)
  ch : w.ownsRow base 94 2 cv s.ch.length (chCells s.ch)
  gb : base ≤ g
  vbb : base ≤ vb
  size : base ≤ w.heap.size
def IsSome (base : Nat) (w : World) (g : Nat) (p : Pb) (s : St) : Prop := ∃ vb tv cv, IsS base w g p s vb tv cv

theorem infoInt : (Try.prog.info? 3).map (fun i => (i.zero, i.size, i.bytes)) = some (some (.int .i64 0), 1, 8) := by kernel_rfl
theorem infoChoice : (Try.prog.info? 94).map (fun i => (i.zero, i.size, i.bytes)) = some (some (.agg #[.int .i64 0, .bool false]), 2, 16) := by kernel_rfl

theorem one_single {k : IntKind} (x : Int) : ∀ u ∈ [Value.int k x], u.oneCell' = true := by
  intro u hu
  rw [List.mem_singleton.1 hu]
  rfl
theorem one_choice (x : Int) (b : Bool) : ∀ u ∈ [Value.int .i64 x, Value.bool b], u.oneCell' = true := by
  intro u hu
  rcases List.mem_cons.1 hu with rfl | hu
  · rfl
  · rw [List.mem_singleton.1 hu]
    rfl

/-! ### right -/
theorem right_any (n lit : Int) (w : World) (hn : 0 ≤ n ∧ n ≤ 131071) :
    Calls Try.prog 39 #[.int .i64 n, .int .i64 lit] w fun e w' => e = .returned (.bool (Sv.rightL n lit)) ∧ w' = w := by
  obtain ⟨h1, h2⟩ := hn
  by_cases a : lit = 0
  · subst a
    go_enter Try.func39, Try.ntmps39
    go_wp2
    go_ret
    exact ⟨by simp [Sv.rightL], rfl⟩
  · have ha : (lit == 0) = false := beq_eq_false_iff_ne.2 a
    by_cases b : -n ≤ lit
    all_goals
      by_cases c : lit ≤ n
      all_goals
        go_enter Try.func39, Try.ntmps39
        go_wp2
        go_ret
        exact ⟨by simp [Sv.rightL, *], rfl⟩

/-! ### of -/
theorem of_pos (w : World) (g : Nat) (n : Int) (cl pf : Value) (bud : Int) (vb : Nat) (vals : List Int) (tv cv : Value) (steps : Int) (hs : SearchAt w g n cl pf bud vb vals tv cv steps)
    (k : Nat) (hk : k < vals.length) (hm : vals.length ≤ 131071) :
    Calls Try.prog 45 #[.pointer (some ⟨g, 0, none⟩), .int .i64 (k + 1)] w fun e w' => e = .returned (.int .i8 (vals.getD k 0)) ∧ w' = w := by
  have h4 := hs.cell 4
  have hv := hs.vcell k hk
  clear hs
  generalize hx : vals.getD k 0 = x at *
  clear hx
  generalize vals.length = m at *
  go_enter Try.func45, Try.ntmps45
  go_wp2
  go_ret
  exact ⟨rfl, rfl⟩
theorem of_neg (w : World) (g : Nat) (n : Int) (cl pf : Value) (bud : Int) (vb : Nat) (vals : List Int) (tv cv : Value) (steps : Int) (hs : SearchAt w g n cl pf bud vb vals tv cv steps)
    (k : Nat) (hk : k < vals.length) (hm : vals.length ≤ 131071) (hlo : -1 ≤ vals.getD k 0) (hhi : vals.getD k 0 ≤ 1) :
    Calls Try.prog 45 #[.pointer (some ⟨g, 0, none⟩), .int .i64 (-(k + 1))] w fun e w' => e = .returned (.int .i8 (-vals.getD k 0)) ∧ w' = w := by
  have h4 := hs.cell 4
  have hv := hs.vcell k hk
  clear hs
  generalize hx : vals.getD k 0 = x at *
  clear hx
  generalize vals.length = m at *
  go_enter Try.func45, Try.ntmps45
  go_wp2
  go_ret
  exact ⟨rfl, rfl⟩

/-- The values are -1, 0, 1. -/
def Tri (v : List Int) : Prop := ∀ k, -1 ≤ v.getD k 0 ∧ v.getD k 0 ≤ 1
/-- A literal of the values. -/
def LitOf (v : List Int) (lit : Int) : Prop := lit ≠ 0 ∧ -(v.length : Int) ≤ lit ∧ lit ≤ v.length

theorem of_any {w : World} {base g : Nat} {p : Pb} {s : St} {vb : Nat} {tv cv : Value} (hs : IsS base w g p s vb tv cv) (lit : Int) (hl : LitOf s.vals lit) (hm : s.vals.length ≤ 131071) (ht : Tri s.vals) :
    Calls Try.prog 45 #[.pointer (some ⟨g, 0, none⟩), .int .i64 lit] w fun e w' => e = .returned (.int .i8 (Sv.ofL s.vals lit)) ∧ w' = w := by
  obtain ⟨h0, h1, h2⟩ := hl
  by_cases h : 0 < lit
  · obtain ⟨k, rfl⟩ : ∃ k : Nat, lit = k + 1 := ⟨(lit - 1).toNat, by omega⟩
    refine (of_pos w g _ _ _ _ _ _ _ _ _ hs.at_ k (by omega) hm).mono ?_
    rintro e w' ⟨rfl, rfl⟩
    refine ⟨?_, rfl⟩
    rw [Sv.ofL, if_pos h, show ((k : Int) + 1 - 1).toNat = k from by omega]
  · obtain ⟨k, rfl⟩ : ∃ k : Nat, lit = -(k + 1) := ⟨(-lit - 1).toNat, by omega⟩
    refine (of_neg w g _ _ _ _ _ _ _ _ _ hs.at_ k (by omega) hm (ht k).1 (ht k).2).mono ?_
    rintro e w' ⟨rfl, rfl⟩
    refine ⟨?_, rfl⟩
    rw [Sv.ofL, if_neg h, show (-(-((k : Int) + 1)) - 1).toNat = k from by omega]

/-! ### set -/
set_option maxRecDepth 100000 in
theorem set_pos (w : World) (base g : Nat) (n : Int) (cl pf : Value) (bud : Int) (vb : Nat) (vals : List Int) (tv cv : Value) (steps : Int) (hs : SearchAt w g n cl pf bud vb vals tv cv steps)
    (tr : List Int) (ht : w.ownsRow base 3 1 tv tr.length (nums .i64 tr)) (hbase : base ≤ w.heap.size) (hlen : tr.length ≤ 200000)
    (k : Nat) (hk : k < vals.length) (hm : vals.length ≤ 131071) :
    Calls Try.prog 42 #[.pointer (some ⟨g, 0, none⟩), .int .i64 (k + 1)] w fun e w' => ∃ tv1 w1, e = .returned (.tuple #[]) ∧ w1.ownsRow base 3 1 tv1 (tr.length + 1) (nums .i64 tr ++ [.int .i64 (k + 1)]) ∧ w.grownBy w1 tv.ownBlock ∧
      w' = (w1.setCell ⟨g, 5, none⟩ tv1).setCell ⟨vb, k, none⟩ (.int .i8 1) := by
  have h5 : w.cell? ⟨g, 5, none⟩ = some tv := hs.cell 5
  have HS := Lib.hid hs
  have HT := Lib.hid ht
  clear hs ht
  go_enter Try.func42, Try.ntmps42
  go_wp2_with (at_builtin; refine print_append_cells (w0 := w) base rfl _ _ 23 3 (.int .i64 0) 1 8 rfl Try.underlying23 infoInt rfl (by decide) (by decide) tv tr.length (nums .i64 tr) [.int .i64 (k + 1)] rfl rfl rfl (one_single _) HT.out (Below.refl _ _) hbase (by omega) ?_; intro v1 w1 hown1 hB1 hg1 hat1; obtain ⟨A1, c1, rfl⟩ := own_slice hown1; have S1 := HS.out.grown HT.out (by decide) (by decide) hg1; have g5 := S1.cell 5; have f5 := S1.free 5; have g4 := (S1.set5 (.slice A1 (tr.length + 1) c1)).cell 4; have gv := (S1.set5 (.slice A1 (tr.length + 1) c1)).vcell k hk; have fv := (S1.set5 (.slice A1 (tr.length + 1) c1)).vfree k; have HO1 := Lib.hid hown1; have HG1 := Lib.hid hg1; clear S1 hown1 hg1)
  go_end0
  exact ⟨_, _, rfl, HO1.out, HG1.out, rfl⟩
set_option maxRecDepth 100000 in
theorem set_neg (w : World) (base g : Nat) (n : Int) (cl pf : Value) (bud : Int) (vb : Nat) (vals : List Int) (tv cv : Value) (steps : Int) (hs : SearchAt w g n cl pf bud vb vals tv cv steps)
    (tr : List Int) (ht : w.ownsRow base 3 1 tv tr.length (nums .i64 tr)) (hbase : base ≤ w.heap.size) (hlen : tr.length ≤ 200000)
    (k : Nat) (hk : k < vals.length) (hm : vals.length ≤ 131071) :
    Calls Try.prog 42 #[.pointer (some ⟨g, 0, none⟩), .int .i64 (-(k + 1))] w fun e w' => ∃ tv1 w1, e = .returned (.tuple #[]) ∧ w1.ownsRow base 3 1 tv1 (tr.length + 1) (nums .i64 tr ++ [.int .i64 (-(k + 1))]) ∧ w.grownBy w1 tv.ownBlock ∧
      w' = (w1.setCell ⟨g, 5, none⟩ tv1).setCell ⟨vb, k, none⟩ (.int .i8 (-1)) := by
  have h5 : w.cell? ⟨g, 5, none⟩ = some tv := hs.cell 5
  have HS := Lib.hid hs
  have HT := Lib.hid ht
  clear hs ht
  go_enter Try.func42, Try.ntmps42
  go_wp2_with (at_builtin; refine print_append_cells (w0 := w) base rfl _ _ 23 3 (.int .i64 0) 1 8 rfl Try.underlying23 infoInt rfl (by decide) (by decide) tv tr.length (nums .i64 tr) [.int .i64 (-(k + 1))] rfl rfl rfl (one_single _) HT.out (Below.refl _ _) hbase (by omega) ?_; intro v1 w1 hown1 hB1 hg1 hat1; obtain ⟨A1, c1, rfl⟩ := own_slice hown1; have S1 := HS.out.grown HT.out (by decide) (by decide) hg1; have g5 := S1.cell 5; have f5 := S1.free 5; have g4 := (S1.set5 (.slice A1 (tr.length + 1) c1)).cell 4; have gv := (S1.set5 (.slice A1 (tr.length + 1) c1)).vcell k hk; have fv := (S1.set5 (.slice A1 (tr.length + 1) c1)).vfree k; have HO1 := Lib.hid hown1; have HG1 := Lib.hid hg1; clear S1 hown1 hg1)
  go_end0
  exact ⟨_, _, rfl, HO1.out, HG1.out, rfl⟩

/-- The search, and a literal made true. -/
def St.put (s : St) (lit : Int) : St := { s with vals := Sv.setL s.vals lit, tr := s.tr ++ [lit] }

theorem nums_snoc (k : IntKind) (l : List Int) (x : Int) : nums k (l ++ [x]) = nums k l ++ [.int k x] := by simp [nums]

theorem set_done {w w1 : World} {base g : Nat} {p : Pb} {s : St} {vb : Nat} {tv cv tv1 : Value} (hs : IsS base w g p s vb tv cv) (lit : Int) (k : Nat) (x : Int)
    (ho : w1.ownsRow base 3 1 tv1 (s.tr.length + 1) (nums .i64 s.tr ++ [.int .i64 lit])) (hg : w.grownBy w1 tv.ownBlock) (hx : Sv.setL s.vals lit = s.vals.set k x) :
    IsS base ((w1.setCell ⟨g, 5, none⟩ tv1).setCell ⟨vb, k, none⟩ (.int .i8 x)) g p (s.put lit) vb tv1 cv ∧ Keep base w ((w1.setCell ⟨g, 5, none⟩ tv1).setCell ⟨vb, k, none⟩ (.int .i8 x)) := by
  have hat := hs.at_.grown hs.tr (by decide) (by decide) hg
  have h2 := (hat.set5 tv1).setv k x
  have hch : w1.ownsRow base 94 2 cv s.ch.length (chCells s.ch) := by
    refine own_move hs.ch (fun i hi => hg.block i (own_lt hs.ch i hi) (fun e => ?_))
    obtain ⟨c1, e1⟩ := own_typed hs.ch i hi
    obtain ⟨c2, e2⟩ := own_typed hs.tr i e.symm
    rw [e1] at e2
    injection e2 with e2
    injection e2 with _ e3
    exact absurd e3 (by decide)
  refine ⟨⟨?_, ?_, ?_, hs.gb, hs.vbb, ?_⟩, ?_⟩
  · have : (s.put lit).vals = s.vals.set k x := hx
    rw [this]
    exact h2
  · have ht1 := own_setCell (p := ⟨g, 5, none⟩) ho (own_ne ho hat.blk (by decide)) tv1
    have ht2 := own_setCell (p := ⟨vb, k, none⟩) ht1 (own_ne ht1 (hat.set5 tv1).val (by decide)) (.int .i8 x)
    rw [St.put, nums_snoc, List.length_append]
    exact ht2
  · have ht1 := own_setCell (p := ⟨g, 5, none⟩) hch (own_ne hch hat.blk (by decide)) tv1
    exact own_setCell (p := ⟨vb, k, none⟩) ht1 (own_ne ht1 (hat.set5 tv1).val (by decide)) (.int .i8 x)
  · have := hg.size
    have := hs.size
    simp [World.setCell]
    omega
  · exact (((Keep.refl base w).grown hs.tr (by decide) hg hs.size).set hat.blk (by decide) hs.gb tv1).set (hat.set5 tv1).val (by decide) hs.vbb (.int .i8 x)

theorem set_any {w : World} {base g : Nat} {p : Pb} {s : St} {vb : Nat} {tv cv : Value} (hs : IsS base w g p s vb tv cv) (lit : Int) (hl : LitOf s.vals lit) (hm : s.vals.length ≤ 131071) (ht : s.tr.length ≤ 200000) :
    Calls Try.prog 42 #[.pointer (some ⟨g, 0, none⟩), .int .i64 lit] w fun e w' => e = .returned (.tuple #[]) ∧ IsSome base w' g p (s.put lit) ∧ Keep base w w' := by
  obtain ⟨h0, h1, h2⟩ := hl
  by_cases h : 0 < lit
  · obtain ⟨k, rfl⟩ : ∃ k : Nat, lit = k + 1 := ⟨(lit - 1).toNat, by omega⟩
    refine (set_pos w base g _ _ _ _ _ _ _ _ _ hs.at_ s.tr hs.tr hs.size ht k (by omega) hm).mono ?_
    rintro e w' ⟨tv1, w1, rfl, ho, hg, rfl⟩
    obtain ⟨hi, hk⟩ := set_done hs (k + 1) k 1 ho hg (by rw [Sv.setL, if_pos h, show ((k : Int) + 1 - 1).toNat = k from by omega])
    exact ⟨rfl, ⟨_, _, _, hi⟩, hk⟩
  · obtain ⟨k, rfl⟩ : ∃ k : Nat, lit = -(k + 1) := ⟨(-lit - 1).toNat, by omega⟩
    refine (set_neg w base g _ _ _ _ _ _ _ _ _ hs.at_ s.tr hs.tr hs.size ht k (by omega) hm).mono ?_
    rintro e w' ⟨tv1, w1, rfl, ho, hg, rfl⟩
    obtain ⟨hi, hk⟩ := set_done hs (-(k + 1)) k (-1) ho hg (by rw [Sv.setL, if_neg h, show (-(-((k : Int) + 1)) - 1).toNat = k from by omega])
    exact ⟨rfl, ⟨_, _, _, hi⟩, hk⟩
end Go.Proofs.Ytfeablchjlkjiaa
