/-
  WHAT A PROBLEM's ANSWER MEANS: the plain laws of the solver, for 'solve' itself. No program here.
-/
import Derived.Test.YtfeablchjlkjiaaSolvLaw
import Derived.Test.YtfeablchjlkjiaaSlawD
namespace Go.Proofs.Ytfeablchjlkjiaa.Sv

theorem openN_start (m : Nat) : openN (List.replicate m (0 : Int)) = m := by simp [openN]

/-- What is a problem. -/
structure Prob (m : Nat) (cl : List (List Int)) (pf : List Int) (bud : Int) : Prop where
  lits : Lits m cl pf
  lo : 0 ≤ bud
  hi : bud ≤ 1152921504606846976
  small : m ≤ 131071
def start (m : Nat) (cl : List (List Int)) (pf : List Int) (bud : Int) : Res := go cl pf bud (m + 1) (List.replicate m 0) 0

theorem prob_of {n : Int} {cl : List (List Int)} {pf : List Int} {bud : Int} (h : problemL n cl pf bud = true) : ∃ m : Nat, n = m ∧ Prob m cl pf bud := by
  have h := of_decide_eq_true h
  unfold check at h
  split at h
  · cases h
  · rename_i g
    obtain ⟨m, rfl⟩ : ∃ m : Nat, n = m := ⟨n.toNat, by omega⟩
    exact ⟨m, rfl, lits_of h, by omega, by omega, by omega⟩
theorem Prob.litsOK {m : Nat} {cl : List (List Int)} {pf : List Int} {bud : Int} (h : Prob m cl pf bud) : Sv.litsOK m (cl ++ [pf]) = 0 := by
  rw [Sv.litsOK, if_pos]
  rw [List.all_eq_true]
  intro c hc
  rw [List.all_eq_true]
  intro l hl
  rw [rightL_iff]
  rcases List.mem_append.1 hc with hc | hc
  · exact h.lits.cl c hc l hl
  · obtain rfl : c = pf := by simpa using hc
    exact h.lits.pf l hl
theorem Prob.check {m : Nat} {cl : List (List Int)} {pf : List Int} {bud : Int} (h : Prob m cl pf bud) : Sv.check m cl pf bud = 0 := by
  have h1 := h.lo
  have h2 := h.hi
  have h3 := h.small
  rw [Sv.check, if_neg (by omega)]
  exact h.litsOK
theorem Prob.solve {m : Nat} {cl : List (List Int)} {pf : List Int} {bud : Int} (h : Prob m cl pf bud) : Sv.solve m cl pf bud = ((start m cl pf bud).found, 0) := by
  rw [Sv.solve, if_pos h.check]
  rfl
theorem Prob.with_ {m : Nat} {cl : List (List Int)} {pf : List Int} {bud bud' : Int} (h : Prob m cl pf bud) (h1 : 0 ≤ bud') (h2 : bud' ≤ 1152921504606846976) : Prob m cl pf bud' := ⟨h.lits, h1, h2, h.small⟩
theorem solve_not {n : Int} {cl : List (List Int)} {pf : List Int} {bud : Int} (h : problemL n cl pf bud = false) : ∃ e, Sv.solve n cl pf bud = (⟨0, [], 0⟩, e) ∧ e ≠ 0 := by
  have h := of_decide_eq_false h
  rw [Sv.solve, if_neg h]
  exact ⟨_, rfl, h⟩

section
variable {m : Nat} {cl : List (List Int)} {pf : List Int} {bud : Int}
theorem Prob.steps (h : Prob m cl pf bud) : 0 ≤ (start m cl pf bud).looks ∧ (start m cl pf bud).looks ≤ bud ∧ ((start m cl pf bud).isSpent = true → (start m cl pf bud).looks = bud) :=
  go_steps h.lits bud (m + 1) _ 0 (by simp) (by rw [openN_start]; omega) h.lo
theorem Prob.sat (h : Prob m cl pf bud) {v : List Int} {s : Int} (hr : start m cl pf bud = .sat v s) : modelL cl (told v) = true ∧ v.length = m :=
  ⟨(go_sat h.lits bud _ _ _ _ _ (by simp) (Tri3.start m) hr).1, go_sat_length cl pf bud _ _ _ v s (by simp) hr⟩
theorem Prob.unsat (h : Prob m cl pf bud) {s : Int} (hr : start m cl pf bud = .unsat s) (b : List Bool) : modelL cl b = false := by
  cases hm : modelL cl b with
  | false => rfl
  | true => exact absurd hr (go_unsat h.lits bud hm _ _ _ _ (by simp) (Tri3.start m) (Fits.start m b))
theorem Prob.more (h : Prob m cl pf bud) (hs : (start m cl pf bud).isSpent = false) {bud' : Int} (hb : (start m cl pf bud).looks ≤ bud') : start m cl pf bud' = start m cl pf bud :=
  go_more h.lits (m + 1) _ 0 (by simp) (by rw [openN_start]; omega) h.lo hs hb
theorem Prob.same (h : Prob m cl pf bud) : start m cl pf (start m cl pf bud).looks = start m cl pf bud := by
  cases hs : (start m cl pf bud).isSpent with
  | true => rw [h.steps.2.2 hs]
  | false => exact h.more hs (Int.le_refl _)
theorem Prob.enough (h : Prob m cl pf bud) (hb : (cl.length : Int) * 2 ^ (m + 1) ≤ bud) : (start m cl pf bud).isSpent = false := by
  refine (go_enough h.lits bud (m + 1) _ 0 (by simp) (by rw [openN_start]; omega) ?_).1
  rw [openN_start]
  have h1 : cl.length * (2 ^ (m + 1) - 1) ≤ cl.length * 2 ^ (m + 1) := Nat.mul_le_mul_left _ (Nat.sub_le _ _)
  have h2 : ((cl.length * 2 ^ (m + 1) : Nat) : Int) = (cl.length : Int) * 2 ^ (m + 1) := by simp
  have h3 : ((cl.length * (2 ^ (m + 1) - 1) : Nat) : Int) ≤ ((cl.length * 2 ^ (m + 1) : Nat) : Int) := by exact_mod_cast h1
  omega
theorem Prob.liking (h : Prob m cl pf bud) {b : List Bool} (hm : modelL cl b = true) (hp : ∀ p ∈ pf, saysL b p = true) : (∀ s, start m cl pf bud ≠ .unsat s) ∧ ∀ v s, start m cl pf bud = .sat v s → ∀ p ∈ pf, saysL (told v) p = true := by
  refine ⟨fun s e => ?_, fun v s e p hp' => ?_⟩
  · have := h.unsat e b
    rw [hm] at this
    cases this
  · have h1 := go_liking h.lits bud hm hp _ _ _ _ _ (by simp) (Tri3.start m) (Fits.start m b) e p hp'
    exact told_says (go_sat h.lits bud _ _ _ _ _ (by simp) (Tri3.start m) e).2.2 (h.lits.pf p hp').1 (.inl h1)
end
theorem Prob.wanted {b : List Bool} {cl : List (List Int)} {bud : Int} (h : Prob b.length cl (trues b b.length) bud) (hm : modelL cl b = true) : (∀ s, start b.length cl (trues b b.length) bud ≠ .unsat s) ∧ ∀ v s, start b.length cl (trues b b.length) bud = .sat v s → told v = b := by
  refine ⟨(h.liking hm (trues_says b _)).1, fun v s e => ?_⟩
  have h1 := go_wanted rfl h.lits bud hm _ _ _ _ _ (by simp) (Tri3.start _) (Fits.start _ b) e
  have h2 := go_sat h.lits bud _ _ _ _ _ (by simp) (Tri3.start _) e
  exact told_wanted rfl h.lits h1.1 h1.2 h2.2.2 (go_sat_open h.lits bud _ _ _ _ _ (by simp) (Tri3.start _) e)
theorem trues_length (b : List Bool) : ∀ k, (trues b k).length ≤ k
  | 0 => Nat.le_refl _
  | k + 1 => by
    have := trues_length b k
    rw [trues]
    split
    · simp; omega
    · omega
theorem found_values (R : Res) : R.found.values = match R with | .sat v _ => told v | _ => [] := by cases R <;> rfl

/-- RIGHT: what an answer of a problem is. -/
structure Right (m : Nat) (cl : List (List Int)) (pf : List Int) (bud : Int) (F : Found) : Prop where
  prob : Prob m cl pf bud
  is : solve m cl pf bud = (F, 0)
  lo : 0 ≤ F.steps
  hi : F.steps ≤ bud
  kinds : (F.verdict = 1 ∧ F.values.length = m ∧ modelL cl F.values = true) ∨ (F.verdict = 2 ∧ F.values = [] ∧ ∀ b, modelL cl b = false) ∨ (F.verdict = 3 ∧ F.values = [] ∧ F.steps = bud)
  same : solve m cl pf F.steps = (F, 0)
  more : ∀ bud', bud ≤ bud' → bud' ≤ 1152921504606846976 → ∃ G, solve m cl pf bud' = (G, 0) ∧ (F.verdict ≠ 3 → G = F)
theorem solve_right {n : Int} {cl : List (List Int)} {pf : List Int} {bud : Int} (h : problemL n cl pf bud = true) : ∃ (m : Nat) (F : Found), n = m ∧ Right m cl pf bud F := by
  obtain ⟨m, rfl, hp⟩ := prob_of h
  refine ⟨m, (start m cl pf bud).found, rfl, hp, hp.solve, ?_, ?_, ?_, ?_, ?_⟩
  · rw [found_steps]; exact hp.steps.1
  · rw [found_steps]; exact hp.steps.2.1
  · cases hR : start m cl pf bud with
    | spent s =>
      refine .inr (.inr ⟨rfl, rfl, ?_⟩)
      have := hp.steps.2.2
      rw [hR] at this
      exact this rfl
    | unsat s => exact .inr (.inl ⟨rfl, rfl, hp.unsat hR⟩)
    | sat v s =>
      have := hp.sat hR
      exact .inl ⟨rfl, by simp [Res.found, this.2], this.1⟩
  · rw [found_steps]
    have h1 := hp.steps
    have hp' := hp.with_ h1.1 (by have := hp.hi; omega)
    rw [hp'.solve, hp.same]
  · intro bud' h1 h2
    have hp' := hp.with_ (bud' := bud') (by have := hp.lo; omega) h2
    refine ⟨_, hp'.solve, fun hv => ?_⟩
    rw [hp.more]
    · cases hR : start m cl pf bud with
      | spent s => rw [hR] at hv; exact absurd rfl hv
      | unsat s => rfl
      | sat v s => rfl
    · have := hp.steps.2.1
      omega

/-- ENOUGH. -/
theorem solve_enough {m : Nat} {cl : List (List Int)} {pf : List Int} (h : problemL m cl pf 0 = true) (hb : (cl.length : Int) * 2 ^ (m + 1) ≤ 1152921504606846976) :
    ∃ vs s, Sv.solve m cl pf (cl.length * 2 ^ (m + 1)) = (⟨1, vs, s⟩, 0) ∨ Sv.solve m cl pf (cl.length * 2 ^ (m + 1)) = (⟨2, vs, s⟩, 0) := by
  obtain ⟨m', e, hp⟩ := prob_of h
  obtain rfl : m = m' := by omega
  have hp' := hp.with_ (bud' := (cl.length : Int) * 2 ^ (m + 1)) (Int.mul_nonneg (by omega) (Int.le_of_lt (Int.pow_pos (by decide)))) hb
  have hn := hp'.enough (Int.le_refl _)
  rw [hp'.solve]
  cases hR : start m cl pf (cl.length * 2 ^ (m + 1)) with
  | spent s => rw [hR] at hn; cases hn
  | unsat s => exact ⟨_, _, .inr rfl⟩
  | sat v s => exact ⟨_, _, .inl rfl⟩
end Go.Proofs.Ytfeablchjlkjiaa.Sv
