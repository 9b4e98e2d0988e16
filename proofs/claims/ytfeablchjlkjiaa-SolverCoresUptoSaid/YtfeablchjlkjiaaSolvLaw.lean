/-
  PLAIN: what the search's answers mean. No program here.
-/
import Derived.Test.YtfeablchjlkjiaaSolvRun
namespace Go.Proofs.Ytfeablchjlkjiaa.Sv

/-- The values that are told. -/
def told (v : List Int) : List Bool := v.map (fun x => decide (0 < x))
theorem told_get (v : List Int) (k : Nat) : (told v).getD k false = decide (0 < v.getD k 0) := by
  simp only [told, List.getD_eq_getElem?_getD, List.getElem?_map]
  cases v[k]? <;> simp
/-- A whole assignment that has what is set. -/
def Fits (v : List Int) (b : List Bool) : Prop := ∀ k, (v.getD k 0 = 1 → b.getD k false = true) ∧ (v.getD k 0 = -1 → b.getD k false = false)

theorem says_var {l : Int} (_ : l ≠ 0) (b : List Bool) : saysL b l = if 0 < l then b.getD (var l) false else !b.getD (var l) false := by
  unfold saysL var
  split
  · rw [show (max l (-l) - 1).toNat = (l - 1).toNat from by omega]
  · rw [show (max l (-l) - 1).toNat = (-l - 1).toNat from by omega]
theorem says_neg {l : Int} (h : l ≠ 0) (b : List Bool) : saysL b (-l) = !saysL b l := by
  rw [says_var h, says_var (by omega), var_neg]
  split <;> split <;> first | omega | simp

/-- Three values. -/
def Tri3 (v : List Int) : Prop := ∀ k, v.getD k 0 = 0 ∨ v.getD k 0 = 1 ∨ v.getD k 0 = -1
theorem Tri3.set {n : Nat} {v : List Int} (h : Tri3 v) (hn : v.length = n) {l : Int} (hl : LitN n l) : Tri3 (setL v l) := by
  intro k
  rw [setL_var hl.1, getD_set _ _ _ _ (by rw [hn]; exact hl.var)]
  split
  · split <;> simp
  · exact h k
theorem Fits.true_ {v : List Int} {b : List Bool} (h : Fits v b) (ht : Tri3 v) {l : Int} (hl : l ≠ 0) (h0 : 0 < ofL v l) : saysL b l = true := by
  rw [ofL_var hl] at h0
  rw [says_var hl]
  have := h (var l)
  have := ht (var l)
  split
  · rename_i g
    rw [if_pos g] at h0
    exact (h (var l)).1 (by omega)
  · rename_i g
    rw [if_neg g] at h0
    rw [(h (var l)).2 (by omega)]
    rfl
theorem Fits.false_ {v : List Int} {b : List Bool} (h : Fits v b) (ht : Tri3 v) {l : Int} (hl : l ≠ 0) (h0 : ofL v l < 0) : saysL b l = false := by
  rw [ofL_var hl] at h0
  rw [says_var hl]
  have := ht (var l)
  split
  · rename_i g
    rw [if_pos g] at h0
    exact (h (var l)).2 (by omega)
  · rename_i g
    rw [if_neg g] at h0
    rw [(h (var l)).1 (by omega)]
    rfl
theorem Fits.set {n : Nat} {v : List Int} {b : List Bool} (h : Fits v b) (hn : v.length = n) {l : Int} (hl : LitN n l) (hs : saysL b l = true) : Fits (setL v l) b := by
  intro k
  rw [setL_var hl.1, getD_set _ _ _ _ (by rw [hn]; exact hl.var)]
  split
  · rename_i e
    subst e
    rw [says_var hl.1] at hs
    split
    · rename_i g
      rw [if_pos g] at hs
      exact ⟨fun _ => hs, fun e => by omega⟩
    · rename_i g
      rw [if_neg g] at hs
      exact ⟨fun e => by omega, fun _ => by simpa using hs⟩
  · exact h k
theorem Fits.start (n : Nat) (b : List Bool) : Fits (List.replicate n 0) b := by
  intro k
  have : (List.replicate n (0 : Int)).getD k 0 = 0 := by
    simp only [List.getD_eq_getElem?_getD, List.getElem?_replicate]
    split <;> rfl
  rw [this]
  exact ⟨fun e => by omega, fun e => by omega⟩
theorem Tri3.start (n : Nat) : Tri3 (List.replicate n 0) := by
  intro k
  left
  simp only [List.getD_eq_getElem?_getD, List.getElem?_replicate]
  split <;> rfl

/-! ### what a look tells -/
theorem lookGo_true {v : List Int} : ∀ (c : List Int) (o k : Int) (ng : Bool), k ≠ 1 → (lookGo v c o k ng).1 = 1 → ∃ l ∈ c, 0 < ofL v l
  | [], o, k, ng, hk, h => by
    rw [lookGo] at h
    by_cases h0 : k = 0
    · simp only [if_pos h0] at h; split at h <;> omega
    · simp only [if_neg h0] at h; exact absurd h hk
  | l :: c, o, k, ng, hk, h => by
    rw [lookGo] at h
    split at h
    · rename_i g; exact ⟨l, List.mem_cons_self, g⟩
    · have key : ∀ o' k' ng', k' ≠ 1 → (lookGo v c o' k' ng').1 = 1 → ∃ l' ∈ l :: c, 0 < ofL v l' := fun o' k' ng' hk' h' => by
        obtain ⟨l', hl', hp⟩ := lookGo_true c o' k' ng' hk' h'
        exact ⟨l', List.mem_cons_of_mem _ hl', hp⟩
      split at h
      · exact key _ _ _ hk h
      · split at h
        · exact key _ _ _ (by omega) h
        · split at h
          · exact key _ _ _ hk h
          · exact key _ _ _ (by omega) h
theorem lookGo_free {v : List Int} : ∀ (c : List Int) (o k : Int) (ng : Bool), (lookGo v c o k ng).1 = 0 → ng = true ∨ ∃ l ∈ c, l < 0 ∧ ofL v l = 0
  | [], o, k, ng, h => by
    rw [lookGo] at h
    by_cases h0 : k = 0
    · simp only [if_pos h0] at h
      split at h
      · rename_i g; exact .inl g
      · omega
    · simp only [if_neg h0] at h; exact absurd h h0
  | l :: c, o, k, ng, h => by
    rw [lookGo] at h
    split at h
    · simp at h
    · rename_i g1
      have key : ∀ o' k' ng', (lookGo v c o' k' ng').1 = 0 → ng' = true ∨ ∃ l' ∈ l :: c, l' < 0 ∧ ofL v l' = 0 := fun o' k' ng' h' => by
        rcases lookGo_free c o' k' ng' h' with e | ⟨l', hl', hp⟩
        · exact .inl e
        · exact .inr ⟨l', List.mem_cons_of_mem _ hl', hp⟩
      split at h
      · exact key _ _ _ h
      · rename_i g2
        have h0 : ofL v l = 0 := by omega
        have fin : (ng || decide (l < 0)) = true ∨ (∃ l' ∈ l :: c, l' < 0 ∧ ofL v l' = 0) → ng = true ∨ ∃ l' ∈ l :: c, l' < 0 ∧ ofL v l' = 0 := by
          rintro (e | e)
          · have e' : ng = true ∨ decide (l < 0) = true := by simpa using e
            rcases e' with e | e
            · exact .inl e
            · exact .inr ⟨l, List.mem_cons_self, of_decide_eq_true e, h0⟩
          · exact .inr e
        split at h
        · exact fin (key _ _ _ h)
        · split at h
          · exact fin (key _ _ _ h)
          · exact fin (key _ _ _ h)
/-- A false clause: all its literals are false. -/
theorem lookGo_false {v : List Int} : ∀ (c : List Int) (o k : Int) (ng : Bool), (∀ l ∈ c, l ≠ 0) → (o ≠ 0 → k ≠ 2) → (lookGo v c o k ng).1 = 2 → o = 0 ∧ ∀ l ∈ c, ofL v l < 0
  | [], o, k, ng, _, hk, h => by
    rw [lookGo] at h
    by_cases h0 : k = 0
    · simp only [if_pos h0] at h; split at h <;> omega
    · simp only [if_neg h0] at h
      refine ⟨?_, fun l hl => by cases hl⟩
      by_cases ho : o = 0
      · exact ho
      · exact absurd h (hk ho)
  | l :: c, o, k, ng, hc, hk, h => by
    have hl := hc l List.mem_cons_self
    have hc' : ∀ l ∈ c, l ≠ 0 := fun x hx => hc x (List.mem_cons_of_mem _ hx)
    rw [lookGo] at h
    split at h
    · simp at h
    · split at h
      · rename_i g
        obtain ⟨h1, h2⟩ := lookGo_false c o k ng hc' hk h
        exact ⟨h1, fun x hx => by
          rcases List.mem_cons.1 hx with rfl | hx
          · exact g
          · exact h2 x hx⟩
      · split at h
        · exact absurd (lookGo_false c l 3 _ hc' (fun _ => by omega) h).1 hl
        · rename_i ho
          split at h
          · exact absurd (lookGo_false c o k _ hc' hk h).1 ho
          · exact absurd (lookGo_false c o 0 _ hc' (fun _ => by omega) h).1 ho
/-- A unit: each literal is false, or is the open one. -/
theorem lookGo_unit {v : List Int} : ∀ (c : List Int) (o k : Int) (ng : Bool), (∀ l ∈ c, l ≠ 0) → (o = 0 → k ≠ 3) → (k = 0 → o ≠ 0) → (lookGo v c o k ng).1 = 3 → (o ≠ 0 → k = 3 ∧ (lookGo v c o k ng).2 = o) ∧ ∀ l ∈ c, ofL v l < 0 ∨ l = (lookGo v c o k ng).2
  | [], o, k, ng, _, h1, h2, h => by
    rw [lookGo] at h ⊢
    by_cases h0 : k = 0
    · simp only [if_pos h0] at h; split at h <;> omega
    · simp only [if_neg h0] at h
      exact ⟨fun _ => ⟨h, rfl⟩, fun l hl => by cases hl⟩
  | l :: c, o, k, ng, hc, h1, h2, h => by
    have hl := hc l List.mem_cons_self
    have hc' : ∀ l ∈ c, l ≠ 0 := fun x hx => hc x (List.mem_cons_of_mem _ hx)
    rw [lookGo] at h ⊢
    split at h
    · simp at h
    · rename_i g1
      rw [if_neg g1]
      split at h
      · rename_i g2
        rw [if_pos g2]
        obtain ⟨e1, e2⟩ := lookGo_unit c o k ng hc' h1 h2 h
        exact ⟨e1, fun x hx => by
          rcases List.mem_cons.1 hx with rfl | hx
          · exact .inl g2
          · exact e2 x hx⟩
      · rename_i g2
        rw [if_neg g2]
        split at h
        · rename_i g3
          rw [if_pos g3]
          obtain ⟨e1, e2⟩ := lookGo_unit c l 3 _ hc' (fun e => absurd e hl) (fun e => by omega) h
          exact ⟨fun ho => absurd g3 ho, fun x hx => by
            rcases List.mem_cons.1 hx with rfl | hx
            · exact .inr (e1 hl).2.symm
            · exact e2 x hx⟩
        · rename_i g3
          rw [if_neg g3]
          split at h
          · rename_i g4
            rw [if_pos g4]
            obtain ⟨e1, e2⟩ := lookGo_unit c o k _ hc' h1 h2 h
            exact ⟨e1, fun x hx => by
              rcases List.mem_cons.1 hx with rfl | hx
              · exact .inr (g4.trans (e1 g3).2.symm)
              · exact e2 x hx⟩
          · rename_i g4
            obtain ⟨e1, _⟩ := lookGo_unit c o 0 _ hc' (fun e => absurd e g3) (fun _ => g3) h
            exact absurd (e1 g3).1 (by omega)

/-! ### what a look at all clauses tells -/
structure ScanIs (v : List Int) (cl : List (List Int)) (u p : Int) (r : Scan) : Prop where
  failed : r.failed = true → ∃ c ∈ cl, (look v c).1 = 2
  fine : r.failed = false → ∀ c ∈ cl, (look v c).1 ≠ 2
  noUnit : r.failed = false → r.unit = 0 → u = 0 ∧ ∀ c ∈ cl, (look v c).1 ≠ 3
  unit : r.unit = u ∨ ∃ c ∈ cl, (look v c).1 = 3 ∧ (look v c).2 = r.unit
  noPress : r.failed = false → r.press = 0 → p = 0 ∧ ∀ c ∈ cl, (look v c).1 ≠ 4
  press : r.press = p ∨ ∃ c ∈ cl, (look v c).1 = 4 ∧ (look v c).2 = r.press
theorem scanGo_is {v : List Int} {bud : Int} : ∀ (cl : List (List Int)) (st u p : Int), (∀ c ∈ cl, ∀ l ∈ c, l ≠ 0) → (scanGo v bud cl st u p).spent = false → ScanIs v cl u p (scanGo v bud cl st u p)
  | [], st, u, p, _, _ => by
    rw [scanGo]
    exact ⟨(fun e => nomatch e), (fun _ c hc => nomatch hc), (fun _ e => ⟨e, (fun c hc => nomatch hc)⟩), .inl rfl, (fun _ e => ⟨e, (fun c hc => nomatch hc)⟩), .inl rfl⟩
  | c :: cl, st, u, p, hc, hs => by
    have hl : ∀ l ∈ c, l ≠ 0 ∧ True := fun l hl => ⟨hc c List.mem_cons_self l hl, trivial⟩
    rw [scanGo] at hs ⊢
    split at hs
    · cases hs
    · rename_i g1
      rw [if_neg g1]
      split at hs
      · rename_i g2
        rw [if_pos g2]
        exact ⟨(fun _ => ⟨c, List.mem_cons_self, g2⟩), (fun e => nomatch e), (fun e => nomatch e), .inl rfl, (fun e => nomatch e), .inl rfl⟩
      · rename_i g2
        rw [if_neg g2]
        have ih := scanGo_is cl _ _ _ (fun x hx => hc x (List.mem_cons_of_mem _ hx)) hs
        generalize scanGo v bud cl (st + 1) _ _ = r at *
        have wk : ∀ {P : List Int → Prop}, (∃ x ∈ cl, P x) → ∃ x ∈ c :: cl, P x := fun ⟨x, hx, h⟩ => ⟨x, List.mem_cons_of_mem _ hx, h⟩
        refine ⟨fun e => wk (ih.failed e), fun e x hx => ?_, fun e1 e2 => ?_, ?_, fun e1 e2 => ?_, ?_⟩
        · rcases List.mem_cons.1 hx with rfl | hx
          · exact g2
          · exact ih.fine e x hx
        · obtain ⟨h1, h2⟩ := ih.noUnit e1 e2
          split at h1
          · rename_i g3
            split at h1
            · exact absurd h1 (look_open c hl (.inl g3)).1
            · rename_i g4; exact absurd h1 g4
          · rename_i g3
            refine ⟨h1, fun x hx => ?_⟩
            rcases List.mem_cons.1 hx with rfl | hx
            · exact g3
            · exact h2 x hx
        · rcases ih.unit with h1 | h1
          · split at h1
            · rename_i g3
              split at h1
              · exact .inr ⟨c, List.mem_cons_self, g3, h1.symm⟩
              · exact .inl h1
            · exact .inl h1
          · exact .inr (wk h1)
        · obtain ⟨h1, h2⟩ := ih.noPress e1 e2
          split at h1
          · rename_i g3
            split at h1
            · exact absurd h1 (look_open c hl (.inr g3)).1
            · rename_i g4; exact absurd h1 g4
          · rename_i g3
            refine ⟨h1, fun x hx => ?_⟩
            rcases List.mem_cons.1 hx with rfl | hx
            · exact g3
            · exact h2 x hx
        · rcases ih.press with h1 | h1
          · split at h1
            · rename_i g3
              split at h1
              · exact .inr ⟨c, List.mem_cons_self, g3, h1.symm⟩
              · exact .inl h1
            · exact .inl h1
          · exact .inr (wk h1)
theorem scan_is {n : Nat} {cl : List (List Int)} {pf : List Int} (h : Lits n cl pf) (bud : Int) (v : List Int) (st : Int) (hs : (scan cl bud v st).spent = false) : ScanIs v cl 0 0 (scan cl bud v st) :=
  scanGo_is cl st 0 0 (fun c hc l hl => (h.cl c hc l hl).1) hs

/-! ### no model where there is said to be none -/
theorem look_false_says {n : Nat} {v : List Int} {b : List Bool} (hf : Fits v b) (ht : Tri3 v) {c : List Int} (hc : ∀ l ∈ c, LitN n l) (h : (look v c).1 = 2) : c.any (saysL b) = false := by
  obtain ⟨_, h2⟩ := lookGo_false c 0 2 false (fun l hl => (hc l hl).1) (fun e => absurd rfl e) h
  rw [List.any_eq_false]
  intro l hl
  rw [hf.false_ ht (hc l hl).1 (h2 l hl)]
  simp
theorem look_unit_says {n : Nat} {v : List Int} {b : List Bool} (hf : Fits v b) (ht : Tri3 v) {c : List Int} (hc : ∀ l ∈ c, LitN n l) (h : (look v c).1 = 3) (hm : c.any (saysL b) = true) : saysL b (look v c).2 = true := by
  obtain ⟨_, h2⟩ := lookGo_unit c 0 2 false (fun l hl => (hc l hl).1) (fun _ => by omega) (fun e => by omega) h
  obtain ⟨l, hl, hs⟩ := List.any_eq_true.1 hm
  rcases h2 l hl with e | e
  · rw [hf.false_ ht (hc l hl).1 e] at hs; cases hs
  · have e' : l = (look v c).2 := e
    rw [← e']; exact hs

theorem go_unsat {n : Nat} {cl : List (List Int)} {pf : List Int} (hl : Lits n cl pf) (bud : Int) {b : List Bool} (hm : modelL cl b = true) : ∀ (f : Nat) (v : List Int) (st s : Int), v.length = n → Tri3 v → Fits v b → go cl pf bud f v st ≠ .unsat s
  | 0, v, st, s, _, _, _, h => by rw [go] at h; cases h
  | f + 1, v, st, s, hn, ht, hf, h => by
    have hmc : ∀ c ∈ cl, c.any (saysL b) = true := List.all_eq_true.1 hm
    have ho := scan_open hl bud v st
    have hd := decision_open hl ho.2
    rw [go_succ] at h
    split at h
    · cases h
    · rename_i g1
      have hsp : (scan cl bud v st).spent = false := by simpa using g1
      have hsc := scan_is hl bud v st hsp
      split at h
      · rename_i g2
        obtain ⟨c, hc, h2⟩ := hsc.failed g2
        have := look_false_says hf ht (hl.cl c hc) h2
        rw [hmc c hc] at this
        cases this
      · rename_i g2
        have hfl : (scan cl bud v st).failed = false := by simpa using g2
        split at h
        · rename_i g3
          rcases ho.1 with e | ⟨e1, e2⟩
          · exact g3 e
          · rcases hsc.unit with e | ⟨c, hc, h3, h4⟩
            · exact g3 e
            · have hs := look_unit_says hf ht (hl.cl c hc) h3 (hmc c hc)
              rw [h4] at hs
              exact go_unsat hl bud hm f _ _ s (by rw [setL_length, hn]) (ht.set hn e2) (hf.set hn e2 hs) h
        · split at h
          · cases h
          · rename_i g4
            rcases hd with e | ⟨e1, e2⟩
            · exact g4 e
            · by_cases hs : saysL b (decision pf v (scan cl bud v st).press) = true
              · split at h
                · rename_i s2 h2
                  exact go_unsat hl bud hm f _ _ s2 (by rw [setL_length, hn]) (ht.set hn e2) (hf.set hn e2 hs) h2
                · rename_i h2
                  exact h2 _ h
              · have hs' : saysL b (-decision pf v (scan cl bud v st).press) = true := by
                  rw [says_neg e2.1]
                  simpa using hs
                split at h
                · exact go_unsat hl bud hm f _ _ s (by rw [setL_length, hn]) (ht.set hn e2.neg) (hf.set hn e2.neg hs') h
                · rename_i h2
                  exact h2 _ h

/-! ### a model where one is told -/
theorem told_says {v : List Int} (ht : Tri3 v) {l : Int} (hl : l ≠ 0) (h : 0 < ofL v l ∨ (l < 0 ∧ ofL v l = 0)) : saysL (told v) l = true := by
  rw [says_var hl, told_get]
  rw [ofL_var hl] at h
  have := ht (var l)
  split
  · rename_i g
    rw [if_pos g] at h
    exact decide_eq_true (by omega)
  · rename_i g
    rw [if_neg g] at h
    rw [decide_eq_false (by omega)]
    rfl
theorem sat_model {n : Nat} {cl : List (List Int)} {pf : List Int} (hl : Lits n cl pf) {bud : Int} {v : List Int} {st : Int} (ht : Tri3 v) (h1 : (scan cl bud v st).spent = false) (h2 : (scan cl bud v st).failed = false) (h3 : (scan cl bud v st).unit = 0) (h4 : decision pf v (scan cl bud v st).press = 0) : modelL cl (told v) = true := by
  have hsc := scan_is hl bud v st h1
  have hp : (scan cl bud v st).press = 0 := by
    unfold decision at h4
    split at h4
    · rename_i l hf
      unfold firstOpen at hf
      exact absurd h4 (hl.pf l (List.mem_of_find?_eq_some hf)).1
    · exact h4
  refine List.all_eq_true.2 (fun c hc => ?_)
  have n2 := hsc.fine h2 c hc
  have n3 := (hsc.noUnit h2 h3).2 c hc
  have n4 := (hsc.noPress h2 hp).2 c hc
  have hlits := hl.cl c hc
  have key : (look v c).1 = 0 ∨ (look v c).1 = 1 ∨ (look v c).1 = 2 ∨ (look v c).1 = 3 ∨ (look v c).1 = 4 := by
    have go : ∀ (c : List Int) (o k : Int) (ng : Bool), k = 0 ∨ k = 2 ∨ k = 3 → (lookGo v c o k ng).1 = 0 ∨ (lookGo v c o k ng).1 = 1 ∨ (lookGo v c o k ng).1 = 2 ∨ (lookGo v c o k ng).1 = 3 ∨ (lookGo v c o k ng).1 = 4 := by
      intro c
      induction c with
      | nil =>
        intro o k ng hk
        rw [lookGo]
        by_cases h0 : k = 0
        · simp only [if_pos h0]
          split <;> omega
        · simp only [if_neg h0]
          omega
      | cons l c ih =>
        intro o k ng hk
        rw [lookGo]
        split
        · simp
        · split
          · exact ih _ _ _ hk
          · split
            · exact ih _ _ _ (by omega)
            · split
              · exact ih _ _ _ hk
              · exact ih _ _ _ (by omega)
    exact go c 0 2 false (by omega)
  rcases key with k | k | k | k | k
  · rcases lookGo_free c 0 2 false k with e | ⟨l, hm, h5, h6⟩
    · cases e
    · exact List.any_eq_true.2 ⟨l, hm, told_says ht (hlits l hm).1 (.inr ⟨h5, h6⟩)⟩
  · obtain ⟨l, hm, h5⟩ := lookGo_true c 0 2 false (by omega) k
    exact List.any_eq_true.2 ⟨l, hm, told_says ht (hlits l hm).1 (.inl h5)⟩
  · exact absurd k n2
  · exact absurd k n3
  · exact absurd k n4
/-- What is set stays set. -/
def Ext (v v' : List Int) : Prop := ∀ k, v.getD k 0 ≠ 0 → v'.getD k 0 = v.getD k 0
theorem Ext.set {n : Nat} {v : List Int} (hn : v.length = n) {l : Int} (hl : LitN n l) (h0 : ofL v l = 0) : Ext v (setL v l) := by
  intro k hk
  rw [setL_var hl.1, getD_set _ _ _ _ (by rw [hn]; exact hl.var), if_neg]
  rintro rfl
  exact hk ((ofL_zero hl.1 v).1 h0)
theorem Ext.trans {a b c : List Int} (h : Ext a b) (k : Ext b c) : Ext a c := fun i hi => by
  have := h i hi
  rw [k i (by rw [this]; exact hi), this]

theorem go_sat {n : Nat} {cl : List (List Int)} {pf : List Int} (hl : Lits n cl pf) (bud : Int) : ∀ (f : Nat) (v : List Int) (st : Int) (v' : List Int) (s : Int), v.length = n → Tri3 v → go cl pf bud f v st = .sat v' s → modelL cl (told v') = true ∧ Ext v v' ∧ Tri3 v'
  | 0, v, st, v', s, _, _, h => by rw [go] at h; cases h
  | f + 1, v, st, v', s, hn, ht, h => by
    have ho := scan_open hl bud v st
    have hd := decision_open hl ho.2
    rw [go_succ] at h
    split at h
    · cases h
    · rename_i g1
      split at h
      · cases h
      · rename_i g2
        split at h
        · rename_i g3
          rcases ho.1 with e | ⟨e1, e2⟩
          · exact absurd e g3
          · obtain ⟨a, b, c⟩ := go_sat hl bud f _ _ v' s (by rw [setL_length, hn]) (ht.set hn e2) h
            exact ⟨a, (Ext.set hn e2 e1).trans b, c⟩
        · rename_i g3
          split at h
          · rename_i g4
            cases h
            exact ⟨sat_model hl ht (by simpa using g1) (by simpa using g2) (by simpa using g3) g4, fun k _ => rfl, ht⟩
          · rename_i g4
            rcases hd with e | ⟨e1, e2⟩
            · exact absurd e g4
            · split at h
              · obtain ⟨a, b, c⟩ := go_sat hl bud f _ _ v' s (by rw [setL_length, hn]) (ht.set hn e2.neg) h
                exact ⟨a, (Ext.set hn e2.neg (by rw [ofL_neg e2.1, e1]; rfl)).trans b, c⟩
              · obtain ⟨a, b, c⟩ := go_sat hl bud f _ _ v' s (by rw [setL_length, hn]) (ht.set hn e2) h
                exact ⟨a, (Ext.set hn e2 e1).trans b, c⟩

/-! ### the budget -/
def Res.isSpent : Res → Bool
  | .spent _ => true
  | _ => false
theorem go_steps {n : Nat} {cl : List (List Int)} {pf : List Int} (hl : Lits n cl pf) (bud : Int) : ∀ (f : Nat) (v : List Int) (st : Int), v.length = n → openN v < f → st ≤ bud → st ≤ (go cl pf bud f v st).looks ∧ (go cl pf bud f v st).looks ≤ bud ∧ ((go cl pf bud f v st).isSpent = true → (go cl pf bud f v st).looks = bud)
  | 0, v, st, _, h, _ => by omega
  | f + 1, v, st, hn, hf, hb => by
    have ho := scan_open hl bud v st
    have hd := decision_open hl ho.2
    obtain ⟨s1, s2, s3, _⟩ := scanGo_steps (v := v) (bud := bud) cl st 0 0 hb
    have s1' : st ≤ (scan cl bud v st).steps := s1
    have s2' : (scan cl bud v st).steps ≤ bud := s2
    have s3' : (scan cl bud v st).spent = true → (scan cl bud v st).steps = bud := s3
    rw [go_succ]
    split
    · rename_i g1
      exact ⟨s1', s2', fun _ => s3' g1⟩
    · split
      · exact ⟨s1', s2', (fun e => nomatch e)⟩
      · split
        · rename_i g3
          rcases ho.1 with e | ⟨e1, e2⟩
          · exact absurd e g3
          · have := openN_setL hn e2 e1
            obtain ⟨a, b, c⟩ := go_steps hl bud f (setL v (scan cl bud v st).unit) (scan cl bud v st).steps (by rw [setL_length, hn]) (by omega) s2'
            exact ⟨by omega, b, c⟩
        · split
          · exact ⟨s1', s2', (fun e => nomatch e)⟩
          · rename_i g4
            rcases hd with e | ⟨e1, e2⟩
            · exact absurd e g4
            · have h5 := openN_setL hn e2 e1
              have h6 := openN_setL hn e2.neg (by rw [ofL_neg e2.1, e1]; rfl)
              obtain ⟨a, b, c⟩ := go_steps hl bud f (setL v (decision pf v (scan cl bud v st).press)) (scan cl bud v st).steps (by rw [setL_length, hn]) (by omega) s2'
              split
              · rename_i x hx
                rw [hx] at a b
                have a' : (scan cl bud v st).steps ≤ x := a
                have b' : x ≤ bud := b
                obtain ⟨a2, b2, c2⟩ := go_steps hl bud f (setL v (-decision pf v (scan cl bud v st).press)) x (by rw [setL_length, hn]) (by omega) b'
                exact ⟨by omega, b2, c2⟩
              · exact ⟨by omega, b, c⟩

/-- A look that did not use its budget up, with any budget that holds its looks. -/
theorem scanGo_more {v : List Int} {bud bud' : Int} : ∀ (cl : List (List Int)) (st u p : Int), (scanGo v bud cl st u p).spent = false → (scanGo v bud cl st u p).steps ≤ bud' → st ≤ bud → scanGo v bud' cl st u p = scanGo v bud cl st u p
  | [], st, u, p, _, _, _ => by rw [scanGo, scanGo]
  | c :: cl, st, u, p, h, hs, hb => by
    rw [scanGo] at h hs
    rw [scanGo, scanGo]
    split at h
    · cases h
    · rename_i g1
      rw [if_neg g1] at hs ⊢
      have hlt : st < bud' := by
        split at hs
        · have : st + 1 ≤ bud' := hs
          omega
        · have := (scanGo_steps (v := v) (bud := bud) cl (st + 1) (if (look v c).1 = 3 then (if u = 0 then (look v c).2 else u) else u) (if (look v c).1 = 4 then (if p = 0 then (look v c).2 else p) else p) (by omega)).1
          omega
      rw [if_neg (show ¬ st = bud' by omega)]
      split at h
      · rename_i g2
        rw [if_pos g2, if_pos g2]
      · rename_i g2
        rw [if_neg g2] at hs ⊢
        rw [if_neg g2]
        exact scanGo_more cl (st + 1) _ _ h hs (by omega)

theorem go_more {n : Nat} {cl : List (List Int)} {pf : List Int} (hl : Lits n cl pf) {bud bud' : Int} : ∀ (f : Nat) (v : List Int) (st : Int), v.length = n → openN v < f → st ≤ bud → (go cl pf bud f v st).isSpent = false → (go cl pf bud f v st).looks ≤ bud' → go cl pf bud' f v st = go cl pf bud f v st
  | 0, v, st, _, h, _, _, _ => by omega
  | f + 1, v, st, hn, hf, hb, hsp, hle => by
    have ho := scan_open hl bud v st
    have hd := decision_open hl ho.2
    obtain ⟨s1, s2, s3, _⟩ := scanGo_steps (v := v) (bud := bud) cl st 0 0 hb
    have s2' : (scan cl bud v st).steps ≤ bud := s2
    rw [go_succ] at hsp hle
    rw [go_succ, go_succ]
    split at hsp
    · cases hsp
    · rename_i g1
      rw [if_neg g1] at hle
      have hsame : (scan cl bud v st).steps ≤ bud' → scan cl bud' v st = scan cl bud v st := fun h => scanGo_more cl st 0 0 (by rw [Bool.not_eq_true] at g1; exact g1) h hb
      split at hsp
      · rename_i g2
        rw [if_pos g2] at hle
        rw [hsame hle, if_neg g1, if_pos g2, if_neg g1, if_pos g2]
      · rename_i g2
        rw [if_neg g2] at hle
        split at hsp
        · rename_i g3
          rw [if_pos g3] at hle
          rcases ho.1 with e | ⟨e1, e2⟩
          · exact absurd e g3
          · have h5 := openN_setL hn e2 e1
            have hst := (go_steps hl bud f (setL v (scan cl bud v st).unit) (scan cl bud v st).steps (by rw [setL_length, hn]) (by omega) s2').1
            rw [hsame (by omega), if_neg g1, if_neg g2, if_pos g3, if_neg g1, if_neg g2, if_pos g3]
            exact go_more hl f _ _ (by rw [setL_length, hn]) (by omega) s2' hsp hle
        · rename_i g3
          rw [if_neg g3] at hle
          split at hsp
          · rename_i g4
            rw [if_pos g4] at hle
            rw [hsame hle, if_neg g1, if_neg g2, if_neg g3, if_pos g4, if_neg g1, if_neg g2, if_neg g3, if_pos g4]
          · rename_i g4
            rw [if_neg g4] at hle
            rcases hd with e | ⟨e1, e2⟩
            · exact absurd e g4
            · have h5 := openN_setL hn e2 e1
              have h6 := openN_setL hn e2.neg (by rw [ofL_neg e2.1, e1]; rfl)
              obtain ⟨a, b, c⟩ := go_steps hl bud f (setL v (decision pf v (scan cl bud v st).press)) (scan cl bud v st).steps (by rw [setL_length, hn]) (by omega) s2'
              have ih := go_more hl (bud := bud) (bud' := bud') f (setL v (decision pf v (scan cl bud v st).press)) (scan cl bud v st).steps (by rw [setL_length, hn]) (by omega) s2'
              cases hgo : go cl pf bud f (setL v (decision pf v (scan cl bud v st).press)) (scan cl bud v st).steps with
              | unsat x =>
                rw [hgo] at hsp hle a b ih
                have a' : (scan cl bud v st).steps ≤ x := a
                have b' : x ≤ bud := b
                have hle' : (go cl pf bud f (setL v (-decision pf v (scan cl bud v st).press)) x).looks ≤ bud' := hle
                have hx := (go_steps hl bud f (setL v (-decision pf v (scan cl bud v st).press)) x (by rw [setL_length, hn]) (by omega) b').1
                rw [hsame (by omega), if_neg g1, if_neg g2, if_neg g3, if_neg g4, if_neg g1, if_neg g2, if_neg g3, if_neg g4, ih rfl (by show x ≤ bud'; omega)]
                exact go_more hl f _ _ (by rw [setL_length, hn]) (by omega) b' hsp hle'
              | spent x => rw [hgo] at hsp; cases hsp
              | sat v' x =>
                rw [hgo] at hle a ih
                have a' : (scan cl bud v st).steps ≤ x := a
                have hle' : x ≤ bud' := hle
                rw [hsame (by omega), if_neg g1, if_neg g2, if_neg g3, if_neg g4, if_neg g1, if_neg g2, if_neg g3, if_neg g4, ih rfl hle']

/-! ### enough -/
theorem scanGo_enough {v : List Int} {bud : Int} : ∀ (cl : List (List Int)) (st u p : Int), st + cl.length ≤ bud → (scanGo v bud cl st u p).spent = false ∧ (scanGo v bud cl st u p).steps ≤ st + cl.length
  | [], st, u, p, h => by rw [scanGo]; exact ⟨rfl, by simp⟩
  | c :: cl, st, u, p, h => by
    simp only [List.length_cons] at h ⊢
    rw [scanGo, if_neg (by omega)]
    split
    · exact ⟨rfl, by show st + 1 ≤ _; omega⟩
    · obtain ⟨a, b⟩ := scanGo_enough (v := v) (bud := bud) cl (st + 1) (if (look v c).1 = 3 then (if u = 0 then (look v c).2 else u) else u) (if (look v c).1 = 4 then (if p = 0 then (look v c).2 else p) else p) (by omega)
      exact ⟨a, by omega⟩

theorem go_enough {n : Nat} {cl : List (List Int)} {pf : List Int} (hl : Lits n cl pf) (bud : Int) : ∀ (f : Nat) (v : List Int) (st : Int), v.length = n → openN v < f → st + (cl.length * (2 ^ (openN v + 1) - 1) : Nat) ≤ bud →
    (go cl pf bud f v st).isSpent = false ∧ (go cl pf bud f v st).looks ≤ st + (cl.length * (2 ^ (openN v + 1) - 1) : Nat)
  | 0, v, st, _, h, _ => by omega
  | f + 1, v, st, hn, hf, hb => by
    have ho := scan_open hl bud v st
    have hd := decision_open hl ho.2
    have hpow : 1 ≤ 2 ^ openN v := Nat.one_le_two_pow
    have hT : cl.length * (2 ^ (openN v + 1) - 1) = cl.length + 2 * (cl.length * (2 ^ openN v - 1)) := by
      have h2 : 2 ^ (openN v + 1) - 1 = 1 + 2 * (2 ^ openN v - 1) := by rw [Nat.pow_succ]; omega
      rw [h2, Nat.mul_add, Nat.mul_one, Nat.mul_left_comm]
    rw [hT] at hb ⊢
    generalize hN : cl.length * (2 ^ openN v - 1) = N at *
    obtain ⟨e1, e2⟩ := scanGo_enough (v := v) (bud := bud) cl st 0 0 (by omega)
    have e1' : (scan cl bud v st).spent = false := e1
    have e2' : (scan cl bud v st).steps ≤ st + cl.length := e2
    rw [go_succ, if_neg (by rw [e1']; decide)]
    split
    · exact ⟨rfl, by show (scan cl bud v st).steps ≤ _; omega⟩
    · split
      · rename_i g3
        rcases ho.1 with e | ⟨o1, o2⟩
        · exact absurd e g3
        · have h5 := openN_setL hn o2 o1
          have hN' : cl.length * (2 ^ (openN (setL v (scan cl bud v st).unit) + 1) - 1) = N := by rw [h5, hN]
          obtain ⟨a, b⟩ := go_enough hl bud f (setL v (scan cl bud v st).unit) (scan cl bud v st).steps (by rw [setL_length, hn]) (by omega) (by rw [hN']; omega)
          rw [hN'] at b
          exact ⟨a, by omega⟩
      · split
        · exact ⟨rfl, by show (scan cl bud v st).steps ≤ _; omega⟩
        · rename_i g4
          rcases hd with e | ⟨o1, o2⟩
          · exact absurd e g4
          · have h5 := openN_setL hn o2 o1
            have h6 := openN_setL hn o2.neg (by rw [ofL_neg o2.1, o1]; rfl)
            have hN5 : cl.length * (2 ^ (openN (setL v (decision pf v (scan cl bud v st).press)) + 1) - 1) = N := by rw [h5, hN]
            have hN6 : cl.length * (2 ^ (openN (setL v (-decision pf v (scan cl bud v st).press)) + 1) - 1) = N := by rw [h6, hN]
            obtain ⟨a, b⟩ := go_enough hl bud f (setL v (decision pf v (scan cl bud v st).press)) (scan cl bud v st).steps (by rw [setL_length, hn]) (by omega) (by rw [hN5]; omega)
            rw [hN5] at b
            cases hgo : go cl pf bud f (setL v (decision pf v (scan cl bud v st).press)) (scan cl bud v st).steps with
            | unsat x =>
              rw [hgo] at b
              have b' : x ≤ (scan cl bud v st).steps + N := b
              obtain ⟨a2, b2⟩ := go_enough hl bud f (setL v (-decision pf v (scan cl bud v st).press)) x (by rw [setL_length, hn]) (by omega) (by rw [hN6]; omega)
              rw [hN6] at b2
              exact ⟨a2, by show (go cl pf bud f _ x).looks ≤ _; omega⟩
            | spent x => rw [hgo] at a; cases a
            | sat v' x =>
              rw [hgo] at b
              have b' : x ≤ (scan cl bud v st).steps + N := b
              exact ⟨rfl, by show x ≤ _; omega⟩

/-! ### liking -/
theorem Fits.ofL_pos {v : List Int} {b : List Bool} (h : Fits v b) (ht : Tri3 v) {l : Int} (hl : l ≠ 0) (h0 : ofL v l ≠ 0) (hs : saysL b l = true) : 0 < ofL v l := by
  by_cases hn : ofL v l < 0
  · have := h.false_ ht hl hn
    rw [hs] at this
    cases this
  · omega
theorem Ext.ofL {v v' : List Int} (h : Ext v v') {l : Int} (hl : l ≠ 0) (h0 : 0 < ofL v l) : 0 < Sv.ofL v' l := by
  rw [ofL_var hl] at h0 ⊢
  have := h (var l)
  split
  · rename_i g
    rw [if_pos g] at h0
    rw [this (by omega)]
    exact h0
  · rename_i g
    rw [if_neg g] at h0
    rw [this (by omega)]
    exact h0

theorem go_liking {n : Nat} {cl : List (List Int)} {pf : List Int} (hl : Lits n cl pf) (bud : Int) {b : List Bool} (hm : modelL cl b = true) (hp : ∀ p ∈ pf, saysL b p = true) : ∀ (f : Nat) (v : List Int) (st : Int) (v' : List Int) (s : Int), v.length = n → Tri3 v → Fits v b → go cl pf bud f v st = .sat v' s → ∀ p ∈ pf, 0 < ofL v' p
  | 0, v, st, v', s, _, _, _, h => by rw [go] at h; cases h
  | f + 1, v, st, v', s, hn, ht, hf, h => by
    have hmc : ∀ c ∈ cl, c.any (saysL b) = true := List.all_eq_true.1 hm
    have ho := scan_open hl bud v st
    have hd := decision_open hl ho.2
    have hsat := go_sat hl bud (f + 1) v st v' s hn ht h
    cases hfo : firstOpen v pf with
    | none =>
      intro p hpm
      have hne : ofL v p ≠ 0 := by
        unfold firstOpen at hfo
        have := List.find?_eq_none.1 hfo p hpm
        simpa using this
      exact hsat.2.1.ofL (hl.pf p hpm).1 (hf.ofL_pos ht (hl.pf p hpm).1 hne (hp p hpm))
    | some l =>
      have hlm : l ∈ pf := by unfold firstOpen at hfo; exact List.mem_of_find?_eq_some hfo
      have hdec : decision pf v (scan cl bud v st).press = l := by unfold decision; rw [hfo]
      rw [go_succ] at h
      split at h
      · cases h
      · rename_i g1
        have hsp : (scan cl bud v st).spent = false := by simpa using g1
        have hsc := scan_is hl bud v st hsp
        split at h
        · cases h
        · split at h
          · rename_i g3
            rcases ho.1 with e | ⟨e1, e2⟩
            · exact absurd e g3
            · rcases hsc.unit with e | ⟨c, hc, h3, h4⟩
              · exact absurd e g3
              · have hs := look_unit_says hf ht (hl.cl c hc) h3 (hmc c hc)
                rw [h4] at hs
                exact go_liking hl bud hm hp f _ _ v' s (by rw [setL_length, hn]) (ht.set hn e2) (hf.set hn e2 hs) h
          · split at h
            · rename_i g4
              rw [hdec] at g4
              exact absurd g4 (hl.pf l hlm).1
            · rw [hdec] at h
              have e2 := hl.pf l hlm
              have hs := hp l hlm
              split at h
              · rename_i s2 h2
                exact absurd h2 (go_unsat hl bud hm f _ _ s2 (by rw [setL_length, hn]) (ht.set hn e2) (hf.set hn e2 hs))
              · exact go_liking hl bud hm hp f _ _ v' s (by rw [setL_length, hn]) (ht.set hn e2) (hf.set hn e2 hs) h

/-! ### wanted -/
/-- The true ones, the last first. -/
def trues (b : List Bool) : Nat → List Int
  | 0 => []
  | i + 1 => if b.getD i false = true then ((i : Int) + 1) :: trues b i else trues b i
theorem mem_trues (b : List Bool) : ∀ (i : Nat) (l : Int), l ∈ trues b i ↔ ∃ k : Nat, k < i ∧ l = k + 1 ∧ b.getD k false = true
  | 0, l => by simp [trues]
  | i + 1, l => by
    rw [trues]
    have ih := mem_trues b i l
    split
    · rename_i g
      rw [List.mem_cons, ih]
      constructor
      · rintro (rfl | ⟨k, h1, h2, h3⟩)
        · exact ⟨i, by omega, rfl, g⟩
        · exact ⟨k, by omega, h2, h3⟩
      · rintro ⟨k, h1, h2, h3⟩
        by_cases e : k = i
        · subst e; exact .inl h2
        · exact .inr ⟨k, by omega, h2, h3⟩
    · rename_i g
      rw [ih]
      constructor
      · rintro ⟨k, h1, h2, h3⟩; exact ⟨k, by omega, h2, h3⟩
      · rintro ⟨k, h1, h2, h3⟩
        by_cases e : k = i
        · subst e; exact absurd h3 g
        · exact ⟨k, by omega, h2, h3⟩
theorem trues_says (b : List Bool) (i : Nat) : ∀ p ∈ trues b i, saysL b p = true := by
  intro p hp
  obtain ⟨k, h1, rfl, h3⟩ := (mem_trues b i p).1 hp
  rw [saysL, if_pos (by omega), show ((k : Int) + 1 - 1).toNat = k from by omega]
  exact h3

/-- A pressing clause: no literal is true, none that is open says no. -/
theorem lookGo_press {v : List Int} : ∀ (c : List Int) (o k : Int) (ng : Bool), k ≠ 4 → (lookGo v c o k ng).1 = 4 → ng = false ∧ ∀ x ∈ c, ofL v x < 0 ∨ (ofL v x = 0 ∧ 0 ≤ x)
  | [], o, k, ng, hk, h => by
    rw [lookGo] at h
    by_cases z : k = 0
    · simp only [if_pos z] at h
      split at h
      · simp at h
      · rename_i q
        exact ⟨by simpa using q, (fun x hx => nomatch hx)⟩
    · simp only [if_neg z] at h
      exact absurd h hk
  | y :: c, o, k, ng, hk, h => by
    rw [lookGo] at h
    split at h
    · simp at h
    · rename_i q1
      split at h
      · rename_i q2
        obtain ⟨h1, h2⟩ := lookGo_press c o k ng hk h
        refine ⟨h1, fun x hx => ?_⟩
        rcases List.mem_cons.1 hx with rfl | hx
        · exact .inl q2
        · exact h2 x hx
      · rename_i q2
        have fin : ((ng || decide (y < 0)) = false ∧ ∀ x ∈ c, ofL v x < 0 ∨ (ofL v x = 0 ∧ 0 ≤ x)) → ng = false ∧ ∀ x ∈ y :: c, ofL v x < 0 ∨ (ofL v x = 0 ∧ 0 ≤ x) := by
          rintro ⟨h1, h2⟩
          have h1' : ng = false ∧ decide (y < 0) = false := by simpa using h1
          refine ⟨h1'.1, fun x hx => ?_⟩
          rcases List.mem_cons.1 hx with rfl | hx
          · have := of_decide_eq_false h1'.2
            exact .inr ⟨by omega, by omega⟩
          · exact h2 x hx
        split at h
        · exact fin (lookGo_press c y 3 _ (by omega) h)
        · split at h
          · exact fin (lookGo_press c o k _ hk h)
          · exact fin (lookGo_press c o 0 _ (by omega) h)

/-- Whatever is found has no more than is wanted. -/
theorem go_wanted {n : Nat} {cl : List (List Int)} {b : List Bool} (hb : b.length = n) (hl : Lits n cl (trues b n)) (bud : Int) (hm : modelL cl b = true) : ∀ (f : Nat) (v : List Int) (st : Int) (v' : List Int) (s : Int), v.length = n → Tri3 v → Fits v b → go cl (trues b n) bud f v st = .sat v' s → Fits v' b ∧ v'.length = n
  | 0, v, st, v', s, _, _, _, h => by rw [go] at h; cases h
  | f + 1, v, st, v', s, hn, ht, hf, h => by
    have hmc : ∀ c ∈ cl, c.any (saysL b) = true := List.all_eq_true.1 hm
    have ho := scan_open hl bud v st
    have hd := decision_open hl ho.2
    rw [go_succ] at h
    split at h
    · cases h
    · rename_i g1
      have hsp : (scan cl bud v st).spent = false := by simpa using g1
      have hsc := scan_is hl bud v st hsp
      split at h
      · cases h
      · split at h
        · rename_i g3
          rcases ho.1 with e | ⟨e1, e2⟩
          · exact absurd e g3
          · rcases hsc.unit with e | ⟨c, hc, h3, h4⟩
            · exact absurd e g3
            · have hs := look_unit_says hf ht (hl.cl c hc) h3 (hmc c hc)
              rw [h4] at hs
              exact go_wanted hb hl bud hm f _ _ v' s (by rw [setL_length, hn]) (ht.set hn e2) (hf.set hn e2 hs) h
        · split at h
          · cases h
            exact ⟨hf, hn⟩
          · rename_i g4
            have key : saysL b (decision (trues b n) v (scan cl bud v st).press) = true := by
              cases hfo : firstOpen v (trues b n) with
              | some l =>
                have hlm : l ∈ trues b n := by unfold firstOpen at hfo; exact List.mem_of_find?_eq_some hfo
                have hdec : decision (trues b n) v (scan cl bud v st).press = l := by unfold decision; rw [hfo]
                rw [hdec]
                exact trues_says b n l hlm
              | none =>
                exfalso
                have hdec : decision (trues b n) v (scan cl bud v st).press = (scan cl bud v st).press := by unfold decision; rw [hfo]
                rw [hdec] at g4
                rcases hsc.press with e | ⟨c, hc, h3, h4⟩
                · exact g4 e
                · obtain ⟨l, hlc, hls⟩ := List.any_eq_true.1 (hmc c hc)
                  have hlit := hl.cl c hc l hlc
                  rcases (lookGo_press c 0 2 false (by omega) h3).2 l hlc with e | ⟨e, e'⟩
                  · rw [hf.false_ ht hlit.1 e] at hls; cases hls
                  · have hlt : l ∈ trues b n := by
                      refine (mem_trues b n l).2 ⟨(l - 1).toNat, ?_, ?_, ?_⟩
                      · have := hlit.2.2; have := hlit.1; omega
                      · have := hlit.1; omega
                      · rw [saysL, if_pos (by have := hlit.1; omega)] at hls
                        exact hls
                    unfold firstOpen at hfo
                    have := List.find?_eq_none.1 hfo l hlt
                    rw [e] at this
                    simp at this
            rcases hd with e | ⟨e1, e2⟩
            · exact absurd e g4
            · split at h
              · rename_i s2 h2
                exact absurd h2 (go_unsat hl bud hm f _ _ s2 (by rw [setL_length, hn]) (ht.set hn e2) (hf.set hn e2 key))
              · exact go_wanted hb hl bud hm f _ _ v' s (by rw [setL_length, hn]) (ht.set hn e2) (hf.set hn e2 key) h

/-- Where nothing that is wanted is open, the values are the wanted ones. -/
theorem go_sat_open {n : Nat} {cl : List (List Int)} {pf : List Int} (hl : Lits n cl pf) (bud : Int) : ∀ (f : Nat) (v : List Int) (st : Int) (v' : List Int) (s : Int), v.length = n → Tri3 v → go cl pf bud f v st = .sat v' s → ∀ p ∈ pf, ofL v' p ≠ 0
  | 0, v, st, v', s, _, _, h => by rw [go] at h; cases h
  | f + 1, v, st, v', s, hn, ht, h => by
    have ho := scan_open hl bud v st
    have hd := decision_open hl ho.2
    rw [go_succ] at h
    split at h
    · cases h
    · split at h
      · cases h
      · split at h
        · rename_i g3
          rcases ho.1 with e | ⟨e1, e2⟩
          · exact absurd e g3
          · exact go_sat_open hl bud f _ _ v' s (by rw [setL_length, hn]) (ht.set hn e2) h
        · split at h
          · rename_i g4
            cases h
            intro p hp
            cases hfo : firstOpen v pf with
            | some l =>
              have hdec : decision pf v (scan cl bud v st).press = l := by unfold decision; rw [hfo]
              rw [hdec] at g4
              unfold firstOpen at hfo
              exact absurd g4 (hl.pf l (List.mem_of_find?_eq_some hfo)).1
            | none =>
              unfold firstOpen at hfo
              have := List.find?_eq_none.1 hfo p hp
              simpa using this
          · rename_i g4
            rcases hd with e | ⟨e1, e2⟩
            · exact absurd e g4
            · split at h
              · exact go_sat_open hl bud f _ _ v' s (by rw [setL_length, hn]) (ht.set hn e2.neg) h
              · exact go_sat_open hl bud f _ _ v' s (by rw [setL_length, hn]) (ht.set hn e2) h

theorem told_wanted {n : Nat} {cl : List (List Int)} {b : List Bool} (hb : b.length = n) (_ : Lits n cl (trues b n)) {v : List Int} (hf : Fits v b) (hv : v.length = n) (ht : Tri3 v) (ho : ∀ p ∈ trues b n, ofL v p ≠ 0) : told v = b := by
  refine List.ext_getElem (by simp [told, hv, hb]) (fun i h1 h2 => ?_)
  have e1 : (told v).getD i false = (told v)[i] := by simp [List.getD, h1]
  have e2 : b.getD i false = b[i] := by simp [List.getD, h2]
  rw [← e1, ← e2, told_get]
  have hfi := hf i
  have hti := ht i
  cases hbi : b.getD i false with
  | false =>
    have : v.getD i 0 ≠ 1 := fun e => by
      have := hfi.1 e
      rw [hbi] at this
      cases this
    exact decide_eq_false (by omega)
  | true =>
    have hm : ((i : Int) + 1) ∈ trues b n := (mem_trues b n _).2 ⟨i, by omega, rfl, hbi⟩
    have h0 := ho _ hm
    rw [ofL, if_pos (by omega), show ((i : Int) + 1 - 1).toNat = i from by omega] at h0
    have : v.getD i 0 ≠ -1 := fun e => by
      have := hfi.2 e
      rw [hbi] at this
      cases this
    exact decide_eq_true (by omega)

end Go.Proofs.Ytfeablchjlkjiaa.Sv
