/-
  PLAIN: the core of clauses that have no model, as the program finds it and as the document does. No program here.
-/
import Derived.Test.YtfeablchjlkjiaaSolvTop
namespace Go.Proofs.Ytfeablchjlkjiaa.Sv

/-- The clauses with these numbers. -/
def pick (cl : List (List Int)) (l : List Int) : List (List Int) := l.map (fun i => cl.getD i.toNat [])
def uns (n : Int) (cl : List (List Int)) (bud : Int) (l : List Int) : Bool := decide ((solve n (pick cl l) [] bud).1.verdict = 2)
def passP (u : List Int → Bool) : List Int → List Int → List Int
  | kept, [] => kept
  | kept, x :: r => if u (kept ++ r) = true then passP u kept r else passP u (kept ++ [x]) r
def coreP (u : List Int → Bool) : Nat → List Int → List Int
  | 0, l => l
  | f + 1, l => if (passP u [] l).length = l.length then l else coreP u f (passP u [] l)
def iota (m : Nat) : List Int := (List.range m).map Int.ofNat
/-- What Core answers. -/
def core (n : Int) (cl : List (List Int)) (bud : Int) : List Int × Int × Int :=
  if (solve n cl [] bud).2 = 0 ∧ (solve n cl [] bud).1.verdict = 2 then (coreP (uns n cl bud) (cl.length + 1) (iota cl.length), 2, 0)
  else ([], (solve n cl [] bud).1.verdict, (solve n cl [] bud).2)

theorem iota_length (m : Nat) : (iota m).length = m := by simp [iota]
theorem iota_succ (m : Nat) : iota (m + 1) = iota m ++ [(m : Int)] := by simp [iota, List.range_succ]
theorem iota_mem {m : Nat} {x : Int} (h : x ∈ iota m) : 0 ≤ x ∧ x < m := by
  obtain ⟨i, hi, rfl⟩ := List.mem_map.1 h
  have := List.mem_range.1 hi
  exact ⟨Int.natCast_nonneg i, Int.ofNat_lt.2 this⟩
theorem iota_rise (m : Nat) : (iota m).Pairwise (· < ·) := by
  induction m with
  | zero => exact List.Pairwise.nil
  | succ m ih =>
    rw [iota_succ, List.pairwise_append]
    refine ⟨ih, by simp, fun a ha b hb => ?_⟩
    obtain rfl : b = m := by simpa using hb
    exact (iota_mem ha).2
theorem pick_all_go (cl : List (List Int)) : ∀ m, m ≤ cl.length → pick cl (iota m) = cl.take m
  | 0, _ => by simp [pick, iota]
  | m + 1, h => by
    have ih := pick_all_go cl m (by omega)
    rw [iota_succ, pick, List.map_append, ← pick, ih, List.take_succ_eq_append_getElem (by omega)]
    simp [List.getD, show m < cl.length by omega]
theorem pick_all (cl : List (List Int)) : pick cl (iota cl.length) = cl := by
  rw [pick_all_go cl _ (Nat.le_refl _), List.take_length]
theorem pick_length (cl : List (List Int)) (l : List Int) : (pick cl l).length = l.length := by simp [pick]
theorem pick_mem {cl : List (List Int)} {l : List Int} (hl : ∀ x ∈ l, 0 ≤ x ∧ x < cl.length) {c : List Int} (h : c ∈ pick cl l) : c ∈ cl := by
  obtain ⟨i, hi, rfl⟩ := List.mem_map.1 h
  have h2 := hl i hi
  have : i.toNat < cl.length := by omega
  simp [List.getD, this]

section
variable {u : List Int → Bool}
theorem passP_sub : ∀ (rest kept : List Int), (passP u kept rest).Sublist (kept ++ rest)
  | [], kept => by rw [passP, List.append_nil]; exact List.Sublist.refl _
  | x :: r, kept => by
    rw [passP]
    split
    · exact (passP_sub r kept).trans (List.Sublist.append (List.Sublist.refl _) (List.sublist_cons_self _ _))
    · have h := passP_sub r (kept ++ [x])
      rwa [List.append_assoc, List.singleton_append] at h
theorem passP_len (l : List Int) : (passP u [] l).length ≤ l.length := (passP_sub l []).length_le
theorem passP_same {l : List Int} (h : (passP u [] l).length = l.length) : passP u [] l = l := (passP_sub l []).eq_of_length h
theorem passP_u : ∀ (rest kept : List Int), u (kept ++ rest) = true → u (passP u kept rest) = true
  | [], kept, h => by rw [passP]; simpa using h
  | x :: r, kept, h => by
    rw [passP]
    split
    · rename_i g
      exact passP_u r kept g
    · exact passP_u r (kept ++ [x]) (by simpa using h)
theorem passP_fix : ∀ (rest kept : List Int), (passP u kept rest).length = kept.length + rest.length → ∀ i, i < rest.length → u (kept ++ rest.eraseIdx i) = false
  | [], kept, _, i, hi => by simp at hi
  | x :: r, kept, h, i, hi => by
    rw [passP] at h
    split at h
    · have := (passP_sub (u := u) r kept).length_le
      simp at this h
      omega
    · rename_i g
      cases i with
      | zero => simpa using g
      | succ i =>
        have := passP_fix r (kept ++ [x]) (by simp at h ⊢; omega) i (by simpa using hi)
        simpa using this
theorem coreP_fuel : ∀ (f g : Nat) (l : List Int), l.length < f → l.length < g → coreP u f l = coreP u g l
  | 0, _, _, h, _ => by omega
  | _ + 1, 0, _, _, h => by omega
  | f + 1, g + 1, l, h1, h2 => by
    rw [coreP, coreP]
    split
    · rfl
    · rename_i h
      have := passP_len (u := u) l
      exact coreP_fuel f g _ (by omega) (by omega)
/-- The core, from a list on. -/
def coreW (u : List Int → Bool) (l : List Int) : List Int := coreP u (l.length + 1) l
theorem coreW_same {l : List Int} (h : (passP u [] l).length = l.length) : coreW u l = l := by rw [coreW, coreP, if_pos h]
theorem coreW_step {l : List Int} (h : (passP u [] l).length ≠ l.length) : coreW u l = coreW u (passP u [] l) := by
  have := passP_len (u := u) l
  rw [coreW, coreP, if_neg h, coreW]
  exact coreP_fuel _ _ _ (by omega) (by omega)
structure IsCore (u : List Int → Bool) (l r : List Int) : Prop where
  sub : r.Sublist l
  is : u r = true
  fix : ∀ i, i < r.length → u (r.eraseIdx i) = false
theorem coreP_is : ∀ (f : Nat) (l : List Int), l.length < f → u l = true → IsCore u l (coreP u f l)
  | 0, _, h, _ => by omega
  | f + 1, l, h, hu => by
    rw [coreP]
    split
    · rename_i g
      refine ⟨List.Sublist.refl _, hu, fun i hi => ?_⟩
      have := passP_fix (u := u) l [] (by simpa using g) i hi
      simpa using this
    · rename_i g
      have h1 := passP_len (u := u) l
      have h2 := coreP_is f (passP u [] l) (by omega) (passP_u l [] (by simpa using hu))
      exact ⟨h2.sub.trans (passP_sub l []), h2.is, h2.fix⟩

theorem erase_take (l : List Int) (k : Nat) : l.eraseIdx k = l.take k ++ l.drop (k + 1) := List.eraseIdx_eq_take_drop_succ l k
theorem erase_parts {l : List Int} {k : Nat} (hk : k < l.length) : (l.eraseIdx k).take k = l.take k ∧ (l.eraseIdx k).drop k = l.drop (k + 1) := by
  have hl : (l.take k).length = k := by rw [List.length_take]; omega
  rw [erase_take]
  exact ⟨by rw [List.take_left' hl], by rw [List.drop_left' hl]⟩
theorem pass_in {l : List Int} {k : Nat} (hk : k < l.length) (h : u (l.eraseIdx k) = true) : passP u ((l.eraseIdx k).take k) ((l.eraseIdx k).drop k) = passP u (l.take k) (l.drop k) := by
  obtain ⟨h1, h2⟩ := erase_parts hk
  rw [h1, h2, List.drop_eq_getElem_cons hk, passP, if_pos (by rw [← erase_take]; exact h)]
theorem pass_on {l : List Int} {k : Nat} (hk : k < l.length) (h : u (l.eraseIdx k) = false) : passP u (l.take (k + 1)) (l.drop (k + 1)) = passP u (l.take k) (l.drop k) := by
  rw [List.drop_eq_getElem_cons hk, passP, if_neg (by rw [← erase_take, h]; decide), List.take_succ_eq_append_getElem hk]
/-! ### the document's -/
def lacks (l : List Int) (i : Int) : List Int := l.filter (fun x => decide (x ≠ i))
def dropR (u : List Int → Bool) (l : List Int) (i : Int) : List Int := if u (lacks l i) = true then lacks l i else l
def roundGo (u : List Int → Bool) : Nat → Int → List Int → List Int
  | 0, _, l => l
  | k + 1, i, l => roundGo u k (i + 1) (dropR u l i)
theorem lacks_id {l : List Int} {i : Int} (h : ∀ x ∈ l, x ≠ i) : lacks l i = l := by
  rw [lacks, List.filter_eq_self]
  intro x hx
  exact decide_eq_true (h x hx)
theorem dropR_id {l : List Int} {i : Int} (h : ∀ x ∈ l, x ≠ i) : dropR u l i = l := by rw [dropR, lacks_id h]; split <;> rfl
theorem roundGo_is : ∀ (k : Nat) (i : Int) (kept rest : List Int), (kept ++ rest).Pairwise (· < ·) → (∀ x ∈ kept, x < i) → (∀ x ∈ rest, i ≤ x ∧ x < i + k) → roundGo u k i (kept ++ rest) = passP u kept rest
  | 0, i, kept, rest, _, _, h2 => by
    cases rest with
    | nil => rw [roundGo, passP, List.append_nil]
    | cons x r => have := h2 x List.mem_cons_self; omega
  | k + 1, i, kept, rest, hp, h1, h2 => by
    rw [roundGo]
    cases rest with
    | nil =>
      rw [dropR_id (fun x hx => by have := h1 x (by simpa using hx); omega)]
      exact roundGo_is k (i + 1) kept [] hp (fun x hx => by have := h1 x hx; omega) (fun x hx => by simp at hx)
    | cons x r =>
      by_cases hx : x = i
      · subst hx
        have hkeep : ∀ y ∈ kept, y ≠ x := fun y hy => by have := h1 y hy; omega
        have hr : ∀ y ∈ r, x < y := fun y hy => by
          have := (List.pairwise_append.1 hp).2.1
          exact (List.pairwise_cons.1 this).1 y hy
        have hl : lacks (kept ++ x :: r) x = kept ++ r := by
          have e1 := lacks_id hkeep
          have e2 : lacks r x = r := lacks_id (fun y hy => by have := hr y hy; omega)
          rw [lacks] at e1 e2
          rw [lacks, List.filter_append, e1, List.filter_cons, e2]
          simp
        have hp2 : (kept ++ r).Pairwise (· < ·) := hp.sublist (List.Sublist.append (List.Sublist.refl _) (List.sublist_cons_self _ _))
        rw [dropR, hl, passP]
        split
        · exact roundGo_is k (x + 1) kept r hp2 (fun y hy => by have := h1 y hy; omega) (fun y hy => by have := hr y hy; have := h2 y (List.mem_cons_of_mem _ hy); omega)
        · have e : kept ++ x :: r = (kept ++ [x]) ++ r := by simp
          rw [e]
          refine roundGo_is k (x + 1) (kept ++ [x]) r (e ▸ hp) (fun y hy => ?_) (fun y hy => by have := hr y hy; have := h2 y (List.mem_cons_of_mem _ hy); omega)
          rcases List.mem_append.1 hy with hy | hy
          · have := h1 y hy; omega
          · obtain rfl : y = x := by simpa using hy
            omega
      · have hge := (h2 x List.mem_cons_self).1
        have hr : ∀ y ∈ x :: r, i < y := fun y hy => by
          rcases List.mem_cons.1 hy with rfl | hy
          · omega
          · have h3 := (List.pairwise_append.1 hp).2.1
            have := (List.pairwise_cons.1 h3).1 y hy
            omega
        rw [dropR_id (fun y hy => ?_)]
        · exact roundGo_is k (i + 1) kept (x :: r) hp (fun y hy => by have := h1 y hy; omega) (fun y hy => by have := hr y hy; have := h2 y hy; omega)
        · rcases List.mem_append.1 hy with hy | hy
          · have := h1 y hy; omega
          · have := hr y hy; omega
/-- A round of the document's. -/
theorem roundGo_pass {m : Nat} {l : List Int} (hl : l.Sublist (iota m)) : roundGo u m 0 l = passP u [] l := by
  have h := roundGo_is (u := u) m 0 [] l ((iota_rise m).sublist hl) (fun x hx => by simp at hx) (fun x hx => by have := iota_mem (hl.subset hx); omega)
  simpa using h
end

/-- The numbers at the places ahead of j but one. -/
def butL (l : List Int) (but : Int) : Nat → List Int
  | 0 => []
  | j + 1 => if (j : Int) = but then butL l but j else butL l but j ++ [l.getD j 0]
theorem butL_take (l : List Int) (but : Int) : ∀ j, j ≤ l.length → (but < 0 ∨ (j : Int) ≤ but) → butL l but j = l.take j
  | 0, _, _ => rfl
  | j + 1, h, hb => by
    rw [butL, if_neg (by omega), butL_take l but j (by omega) (by omega), List.take_succ_eq_append_getElem (by omega)]
    simp [List.getD, show j < l.length by omega]
theorem butL_none (l : List Int) : butL l (-1) l.length = l := by rw [butL_take l (-1) _ (Nat.le_refl _) (.inl (by decide)), List.take_length]
theorem butL_from (l : List Int) (i : Nat) (hi : i < l.length) : ∀ k, i + 1 + k ≤ l.length → butL l i (i + 1 + k) = l.take i ++ (l.drop (i + 1)).take k
  | 0, _ => by rw [Nat.add_zero, butL, if_pos rfl, butL_take l i i (by omega) (.inr (Int.le_refl _)), List.take_zero, List.append_nil]
  | k + 1, h => by
    rw [← Nat.add_assoc, butL, if_neg (by omega), butL_from l i hi k (by omega)]
    have h1 : k < (l.drop (i + 1)).length := by rw [List.length_drop]; omega
    rw [List.take_succ_eq_append_getElem h1, List.append_assoc, List.getElem_drop]
    simp [List.getD, show i + 1 + k < l.length by omega]
theorem butL_erase (l : List Int) (i : Nat) (hi : i < l.length) : butL l i l.length = l.eraseIdx i := by
  have h := butL_from l i hi (l.length - (i + 1)) (by omega)
  rw [show i + 1 + (l.length - (i + 1)) = l.length by omega] at h
  have h2 : (l.drop (i + 1)).take (l.length - (i + 1)) = l.drop (i + 1) := List.take_of_length_le (by rw [List.length_drop]; exact Nat.le_refl _)
  rw [h, erase_take, h2]
theorem butL_length (l : List Int) (but : Int) : ∀ j, (butL l but j).length ≤ j
  | 0 => Nat.le_refl _
  | j + 1 => by
    have := butL_length l but j
    rw [butL]
    split
    · omega
    · simp; omega
theorem lacks_take (l : List Int) (but : Int) (j : Nat) (hj : j < l.length) : lacks (l.take (j + 1)) but = if l.getD j 0 = but then lacks (l.take j) but else lacks (l.take j) but ++ [l.getD j 0] := by
  rw [List.take_succ_eq_append_getElem hj, lacks, List.filter_append, ← lacks]
  have e : l.getD j 0 = l[j] := by simp [List.getD, hj]
  rw [e]
  by_cases g : l[j] = but
  · rw [if_pos g]; simp [g]
  · rw [if_neg g]; simp [g]
theorem lacks_length (l : List Int) (but : Int) : (lacks l but).length ≤ l.length := List.length_filter_le _ _
/-- What Core answers a problem without a model. -/
structure Blames (n : Int) (cl : List (List Int)) (bud : Int) (l : List Int) : Prop where
  size : l.length ≤ cl.length
  inn : ∀ x ∈ l, 0 ≤ x ∧ x < cl.length
  rise : l.Pairwise (· < ·)
  is : uns n cl bud l = true
  fix : ∀ i, i < l.length → uns n cl bud (l.eraseIdx i) = false
theorem core_blames {n : Int} {cl : List (List Int)} {bud : Int} (h : (solve n cl [] bud).1.verdict = 2) : Blames n cl bud (coreP (uns n cl bud) (cl.length + 1) (iota cl.length)) := by
  have h0 : uns n cl bud (iota cl.length) = true := by rw [uns, pick_all]; exact decide_eq_true h
  have h1 := coreP_is (u := uns n cl bud) (cl.length + 1) (iota cl.length) (by rw [iota_length]; omega) h0
  exact ⟨by have := h1.sub.length_le; rwa [iota_length] at this, fun x hx => iota_mem (h1.sub.subset hx), (iota_rise _).sublist h1.sub, h1.is, h1.fix⟩
/-- Fewer clauses of a problem are a problem. -/
theorem check_pick {n : Int} {cl : List (List Int)} {bud : Int} {l : List Int} (h : check n cl [] bud = 0) (hl : ∀ x ∈ l, 0 ≤ x ∧ x < cl.length) : check n (pick cl l) [] bud = 0 := by
  unfold check at h ⊢
  split at h
  · cases h
  · rename_i g
    rw [if_neg g]
    unfold litsOK at h ⊢
    split at h
    · rename_i h0
      rw [if_pos]
      rw [List.all_eq_true] at h0 ⊢
      intro c hc
      rcases List.mem_append.1 hc with hc | hc
      · exact h0 c (List.mem_append_left _ (pick_mem hl hc))
      · exact h0 c (List.mem_append_right _ hc)
    · cases h
theorem solve_ok {n : Int} {cl : List (List Int)} {pf : List Int} {bud : Int} (h : check n cl pf bud = 0) : (solve n cl pf bud).2 = 0 := by rw [solve, if_pos h]
theorem solve_ok' {n : Int} {cl : List (List Int)} {pf : List Int} {bud : Int} (h : (solve n cl pf bud).2 = 0) : check n cl pf bud = 0 := by
  rw [solve] at h
  split at h
  · assumption
  · exact h
/-- No choice meets what is told to have no model. -/
theorem uns_model {n : Int} {cl : List (List Int)} {bud : Int} {l : List Int} (h : uns n cl bud l = true) (hc : check n cl [] bud = 0) (hl : ∀ x ∈ l, 0 ≤ x ∧ x < cl.length) (b : List Bool) : modelL (pick cl l) b = false := by
  have hp := check_pick hc hl
  obtain ⟨m, F, _, hR⟩ := solve_right (pf := []) (decide_eq_true hp : problemL n (pick cl l) [] bud = true)
  subst n
  have hv := of_decide_eq_true h
  rw [hR.is] at hv
  rcases hR.kinds with h1 | h1 | h1
  · rw [h1.1] at hv; cases hv
  · exact h1.2.2 b
  · rw [h1.1] at hv; cases hv
theorem Blames.some {n : Int} {cl : List (List Int)} {bud : Int} {l : List Int} (h : Blames n cl bud l) (hc : check n cl [] bud = 0) : 0 < l.length := by
  cases l with
  | nil =>
    have := uns_model h.is hc h.inn []
    simp [pick, modelL] at this
  | cons x r => simp
theorem core_unsat {n : Int} {cl : List (List Int)} {bud : Int} (h1 : (solve n cl [] bud).2 = 0) (h2 : (solve n cl [] bud).1.verdict = 2) : core n cl bud = (coreP (uns n cl bud) (cl.length + 1) (iota cl.length), 2, 0) := by rw [core, if_pos ⟨h1, h2⟩]
theorem core_not {n : Int} {cl : List (List Int)} {bud : Int} (h : ¬((solve n cl [] bud).2 = 0 ∧ (solve n cl [] bud).1.verdict = 2)) : core n cl bud = ([], (solve n cl [] bud).1.verdict, (solve n cl [] bud).2) := by rw [core, if_neg h]
end Go.Proofs.Ytfeablchjlkjiaa.Sv
