/-
  PLAIN: the document's own way to look at clauses, told by the search of layer 9. No program here.
-/
import Derived.Test.YtfeablchjlkjiaaSolvTop
namespace Go.Proofs.Ytfeablchjlkjiaa.Sv

/-- A value as the document writes it: 0 none, 1 true, 2 false. -/
def enc (x : Int) : Int := if x = -1 then 2 else x
def encs3 (v : List Int) : List Int := v.map enc
theorem encs3_length (v : List Int) : (encs3 v).length = v.length := by simp [encs3]
theorem encs3_get (v : List Int) (k : Nat) : (encs3 v).getD k 0 = enc (v.getD k 0) := by
  simp only [encs3, List.getD_eq_getElem?_getD, List.getElem?_map]
  cases v[k]? <;> simp [enc]
theorem enc_of {v : List Int} (ht : Tri3 v) (l : Int) : enc (ofL v l) = if 0 < l then enc (v.getD (l - 1).toNat 0) else if enc (v.getD (-l - 1).toNat 0) = 0 then 0 else 3 - enc (v.getD (-l - 1).toNat 0) := by
  unfold ofL
  split
  · rfl
  · have := ht (-l - 1).toNat
    unfold enc
    split <;> split <;> split <;> omega

def kindGo (v : List Int) : List Int → Int → Bool → Int × Int
  | [], o, s => if o = 0 then (2, 0) else if s = true then (4, 0) else (3, o)
  | l :: r, o, s => if 0 < ofL v l then (1, 0) else if ofL v l = 0 then kindGo v r l (s || (decide (o ≠ 0) && decide (o ≠ l))) else kindGo v r o s
def kindK (v : List Int) (c : List Int) : Int × Int := kindGo v c 0 false

/-- How the two looks tell the same. -/
structure Same (a b : Int × Int) : Prop where
  t : a.1 = 1 ↔ b.1 = 1
  f : a.1 = 2 ↔ b.1 = 2
  u : a.1 = 3 ↔ b.1 = 3
  lit : b.1 = 3 → a.2 = b.2
theorem kind_look {v : List Int} : ∀ (c : List Int) (o1 o2 k : Int) (s ng : Bool), (∀ l ∈ c, l ≠ 0) →
    ((o1 = 0 ∧ o2 = 0 ∧ k = 2 ∧ s = false) ∨ (o1 ≠ 0 ∧ o2 = o1 ∧ k = 3 ∧ s = false) ∨ (o1 ≠ 0 ∧ o2 ≠ 0 ∧ k = 0 ∧ s = true)) → Same (kindGo v c o1 s) (lookGo v c o2 k ng)
  | [], o1, o2, k, s, ng, _, h => by
    rw [kindGo, lookGo]
    rcases h with ⟨h1, h2, h3, h4⟩ | ⟨h1, h2, h3, h4⟩ | ⟨h1, h2, h3, h4⟩
    · subst h1 h2 h3 h4
      exact ⟨by simp, by simp, by simp, by simp⟩
    · subst h2 h3 h4
      rw [if_neg h1]
      exact ⟨by simp, by simp, by simp, by simp⟩
    · subst h3 h4
      rw [if_neg h1]
      refine ⟨?_, ?_, ?_, ?_⟩ <;> (simp; try (split <;> simp))
  | l :: c, o1, o2, k, s, ng, hc, h => by
    have hl := hc l List.mem_cons_self
    have hc' : ∀ x ∈ c, x ≠ 0 := fun x hx => hc x (List.mem_cons_of_mem _ hx)
    rw [kindGo, lookGo]
    by_cases g1 : 0 < ofL v l
    · rw [if_pos g1, if_pos g1]
      exact ⟨by simp, by simp, by simp, by simp⟩
    · rw [if_neg g1, if_neg g1]
      by_cases g2 : ofL v l < 0
      · rw [if_neg (by omega), if_pos g2]
        exact kind_look c o1 o2 k s ng hc' h
      · rw [if_pos (by omega), if_neg g2]
        rcases h with ⟨h1, h2, h3, h4⟩ | ⟨h1, h2, h3, h4⟩ | ⟨h1, h2, h3, h4⟩
        · subst h1 h2 h3 h4
          rw [if_pos rfl]
          exact kind_look c l l 3 _ _ hc' (.inr (.inl ⟨hl, rfl, rfl, by simp⟩))
        · subst h2 h3 h4
          rw [if_neg h1]
          by_cases g3 : l = o2
          · rw [if_pos g3]
            exact kind_look c l o2 3 _ _ hc' (.inr (.inl ⟨hl, g3.symm, rfl, by simp [g3]⟩))
          · rw [if_neg g3]
            exact kind_look c l o2 0 _ _ hc' (.inr (.inr ⟨hl, h1, rfl, by simp [h1]; exact fun e => g3 e.symm⟩))
        · subst h3 h4
          rw [if_neg h2]
          split
          · exact kind_look c l o2 0 _ _ hc' (.inr (.inr ⟨hl, h2, rfl, by simp⟩))
          · exact kind_look c l o2 0 _ _ hc' (.inr (.inr ⟨hl, h2, rfl, by simp⟩))
theorem kindK_look {v c : List Int} (hc : ∀ l ∈ c, l ≠ 0) : Same (kindK v c) (look v c) := kind_look c 0 0 2 false false hc (.inl ⟨rfl, rfl, rfl, rfl⟩)

/-- The document's look at the clauses. -/
structure RScan where
  fine : Bool
  unit : Int
  steps : Int
  out : Bool
def rscanGo (v : List Int) (bud : Int) : List (List Int) → Int → Int → RScan
  | [], st, u => ⟨true, u, st, false⟩
  | c :: r, st, u =>
    if st = bud then ⟨false, 0, st, true⟩
    else if (kindK v c).1 = 2 then ⟨false, 0, st + 1, false⟩
    else rscanGo v bud r (st + 1) (if (kindK v c).1 = 3 ∧ u = 0 then (kindK v c).2 else u)
theorem rscan_is {v : List Int} {bud : Int} : ∀ (cl : List (List Int)) (st u p : Int), (∀ c ∈ cl, ∀ l ∈ c, l ≠ 0) →
    (rscanGo v bud cl st u).steps = (scanGo v bud cl st u p).steps ∧ (rscanGo v bud cl st u).out = (scanGo v bud cl st u p).spent ∧ (rscanGo v bud cl st u).fine = (!(scanGo v bud cl st u p).spent && !(scanGo v bud cl st u p).failed) ∧
      ((rscanGo v bud cl st u).fine = true → (rscanGo v bud cl st u).unit = (scanGo v bud cl st u p).unit)
  | [], st, u, p, _ => by rw [rscanGo, scanGo]; simp
  | c :: cl, st, u, p, hc => by
    rw [rscanGo, scanGo]
    have hs := kindK_look (v := v) (hc c List.mem_cons_self)
    by_cases g1 : st = bud
    · rw [if_pos g1, if_pos g1]; simp
    · rw [if_neg g1, if_neg g1]
      by_cases g2 : (look v c).1 = 2
      · rw [if_pos (hs.f.2 g2), if_pos g2]; simp
      · rw [if_neg (fun e => g2 (hs.f.1 e)), if_neg g2]
        have hu : (if (kindK v c).1 = 3 ∧ u = 0 then (kindK v c).2 else u) = (if (look v c).1 = 3 then (if u = 0 then (look v c).2 else u) else u) := by
          by_cases g3 : (look v c).1 = 3
          · rw [if_pos g3]
            by_cases g4 : u = 0
            · rw [if_pos ⟨hs.u.2 g3, g4⟩, if_pos g4, hs.lit g3]
            · rw [if_neg (fun e => g4 e.2), if_neg g4]
          · rw [if_neg g3, if_neg (fun e => g3 (hs.u.1 e.1))]
        rw [hu]
        exact rscan_is cl _ _ _ (fun c' h => hc c' (List.mem_cons_of_mem _ h))

/-- The document's first open literal of a clause, and whether an open one says no. -/
def firstGo (v : List Int) : List Int → Int → Bool → Int × Bool
  | [], f, s => (f, s)
  | l :: r, f, s => if ofL v l = 0 then firstGo v r (if f = 0 then l else f) (s || decide (l < 0)) else firstGo v r f s
def pressGo (v : List Int) : List (List Int) → Int
  | [] => 0
  | c :: r => if (kindK v c).1 ≠ 1 ∧ (firstGo v c 0 false).2 = false ∧ (firstGo v c 0 false).1 ≠ 0 then (firstGo v c 0 false).1 else pressGo v r
theorem first_look {v : List Int} : ∀ (c : List Int) (o k : Int) (ng : Bool), (∀ l ∈ c, l ≠ 0) → ((o = 0 ∧ k = 2) ∨ (o ≠ 0 ∧ (k = 3 ∨ k = 0))) → (lookGo v c o k ng).1 ≠ 1 →
    (lookGo v c o k ng).2 = (firstGo v c o ng).1 ∧ ((lookGo v c o k ng).1 = 2 → (firstGo v c o ng).1 = 0) ∧ ((lookGo v c o k ng).1 = 0 ∨ (lookGo v c o k ng).1 = 4 → (firstGo v c o ng).1 ≠ 0 ∧ ((lookGo v c o k ng).1 = 4 ↔ (firstGo v c o ng).2 = false))
  | [], o, k, ng, _, h, _ => by
    rw [lookGo, firstGo]
    rcases h with ⟨h1, h2⟩ | ⟨h1, h2 | h2⟩
    · subst h1 h2; simp
    · subst h2; simp
    · subst h2
      refine ⟨by simp, ?_, ?_⟩
      · simp only [if_true]; split <;> simp
      · simp only [if_true]
        intro _
        refine ⟨h1, ?_⟩
        cases ng <;> simp
  | l :: c, o, k, ng, hc, h, hn => by
    have hl := hc l List.mem_cons_self
    have hc' : ∀ x ∈ c, x ≠ 0 := fun x hx => hc x (List.mem_cons_of_mem _ hx)
    rw [lookGo] at hn ⊢
    rw [firstGo]
    by_cases g1 : 0 < ofL v l
    · rw [if_pos g1] at hn; exact absurd rfl hn
    · rw [if_neg g1] at hn ⊢
      by_cases g2 : ofL v l < 0
      · rw [if_pos g2] at hn ⊢
        rw [if_neg (by omega : ¬ofL v l = 0)]
        exact first_look c o k ng hc' h hn
      · rw [if_neg g2] at hn ⊢
        rw [if_pos (by omega : ofL v l = 0)]
        by_cases g3 : o = 0
        · rw [if_pos g3] at hn ⊢
          rw [if_pos g3]
          exact first_look c l 3 _ hc' (.inr ⟨hl, .inl rfl⟩) hn
        · rw [if_neg g3] at hn ⊢
          rw [if_neg g3]
          by_cases g4 : l = o
          · rw [if_pos g4] at hn ⊢
            exact first_look c o k _ hc' (h.imp_left (fun e => absurd e.1 g3) |>.elim (fun e => .inl e) .inr) hn
          · rw [if_neg g4] at hn ⊢
            exact first_look c o 0 _ hc' (.inr ⟨g3, .inr rfl⟩) hn
theorem look_range {v : List Int} : ∀ (c : List Int) (o k : Int) (ng : Bool), (k = 0 ∨ k = 2 ∨ k = 3) → (lookGo v c o k ng).1 = 0 ∨ (lookGo v c o k ng).1 = 1 ∨ (lookGo v c o k ng).1 = 2 ∨ (lookGo v c o k ng).1 = 3 ∨ (lookGo v c o k ng).1 = 4
  | [], o, k, ng, h => by
    rw [lookGo]
    rcases h with rfl | rfl | rfl
    · simp only [if_true]; split <;> simp
    · simp
    · simp
  | l :: c, o, k, ng, h => by
    rw [lookGo]
    split
    · simp
    · split
      · exact look_range c o k ng h
      · split
        · exact look_range c l 3 _ (.inr (.inr rfl))
        · split
          · exact look_range c o k _ h
          · exact look_range c o 0 _ (.inl rfl)
theorem scan_press {v : List Int} {bud : Int} : ∀ (cl : List (List Int)) (st p : Int), (∀ c ∈ cl, ∀ l ∈ c, l ≠ 0) → (scanGo v bud cl st 0 p).spent = false → (scanGo v bud cl st 0 p).failed = false → (scanGo v bud cl st 0 p).unit = 0 →
    (scanGo v bud cl st 0 p).press = if p = 0 then pressGo v cl else p
  | [], st, p, _, _, _, _ => by
    rw [scanGo, pressGo]
    show p = _
    split
    · assumption
    · rfl
  | c :: cl, st, p, hc, h1, h2, h3 => by
    have hi := scanGo_is (c :: cl) st 0 p hc h1
    have hf := hi.fine h2 c List.mem_cons_self
    have hu := (hi.noUnit h2 h3).2 c List.mem_cons_self
    have hcl := hc c List.mem_cons_self
    rw [scanGo] at h1 h2 h3 ⊢
    by_cases g1 : st = bud
    · rw [if_pos g1] at h1; cases h1
    · rw [if_neg g1, if_neg hf, if_neg hu] at h1 h2 h3 ⊢
      rw [scan_press cl _ _ (fun c' h => hc c' (List.mem_cons_of_mem _ h)) h1 h2 h3, pressGo]
      have hk := kindK_look (v := v) hcl
      have hr := look_range (v := v) c 0 2 false (.inr (.inl rfl))
      have hfl := fun hn => first_look (v := v) c 0 2 false hcl (.inl ⟨rfl, rfl⟩) hn
      change ((look v c).1 = 0 ∨ _) at hr
      change ((look v c).1 ≠ 1 → (look v c).2 = _ ∧ ((look v c).1 = 2 → _) ∧ ((look v c).1 = 0 ∨ (look v c).1 = 4 → _ ∧ ((look v c).1 = 4 ↔ _))) at hfl
      by_cases g4 : (look v c).1 = 4
      · obtain ⟨e1, _, e3⟩ := hfl (by omega)
        obtain ⟨e4, e5⟩ := e3 (.inr g4)
        rw [if_pos g4]
        rw [if_pos (show (kindK v c).1 ≠ 1 ∧ _ ∧ _ from ⟨fun e => by have := hk.t.1 e; omega, e5.1 g4, e4⟩), e1]
        by_cases g5 : p = 0
        · rw [if_pos g5, if_neg e4]
        · rw [if_neg g5, if_neg g5]
      · rw [if_neg g4]
        have hnot : ¬((kindK v c).1 ≠ 1 ∧ (firstGo v c 0 false).2 = false ∧ (firstGo v c 0 false).1 ≠ 0) := by
          rintro ⟨q1, q2, q3⟩
          have q4 : (look v c).1 ≠ 1 := fun e => q1 (hk.t.2 e)
          obtain ⟨_, _, e3⟩ := hfl q4
          have q5 : (look v c).1 = 0 := by
            rcases hr with h | h | h | h | h <;> first | exact h | contradiction
          exact g4 ((e3 (.inl q5)).2.2 q2)
        rw [if_neg hnot]

/-- The document's decision. -/
def dcK (v : List Int) (cl : List (List Int)) (pf : List Int) : Int := match firstOpen v pf with | some l => l | none => pressGo v cl
theorem dcK_is {n : Nat} {cl : List (List Int)} {pf : List Int} (h : Lits n cl pf) (bud : Int) (v : List Int) (st : Int) (h1 : (scan cl bud v st).spent = false) (h2 : (scan cl bud v st).failed = false) (h3 : (scan cl bud v st).unit = 0) : dcK v cl pf = decision pf v (scan cl bud v st).press := by
  have := scan_press (v := v) (bud := bud) cl st 0 (fun c hc l hl => (h.cl c hc l hl).1) h1 h2 h3
  rw [if_pos rfl] at this
  unfold dcK decision scan
  rw [this]
  cases firstOpen v pf <;> rfl
end Go.Proofs.Ytfeablchjlkjiaa.Sv
