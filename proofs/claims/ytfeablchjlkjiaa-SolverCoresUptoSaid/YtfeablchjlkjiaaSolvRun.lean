/-
  PLAIN: the search that goes back along a trail answers what the search by definition answers. No program here.
-/
import Derived.Test.YtfeablchjlkjiaaSolvPlain
namespace Go.Proofs.Ytfeablchjlkjiaa.Sv

/-- The place of a literal's variable. -/
def var (x : Int) : Nat := (max x (-x) - 1).toNat
def LitN (n : Nat) (x : Int) : Prop := x ≠ 0 ∧ -(n : Int) ≤ x ∧ x ≤ n
theorem LitN.var {n : Nat} {x : Int} (h : LitN n x) : var x < n := by
  obtain ⟨h0, h1, h2⟩ := h
  unfold Sv.var
  omega
theorem LitN.neg {n : Nat} {x : Int} (h : LitN n x) : LitN n (-x) := by
  obtain ⟨h0, h1, h2⟩ := h
  unfold LitN
  omega

theorem ofL_var {x : Int} (_ : x ≠ 0) (v : List Int) : ofL v x = if 0 < x then v.getD (var x) 0 else -v.getD (var x) 0 := by
  unfold ofL Sv.var
  split
  · rw [show (max x (-x) - 1).toNat = (x - 1).toNat from by omega]
  · rw [show (max x (-x) - 1).toNat = (-x - 1).toNat from by omega]
theorem setL_var {x : Int} (_ : x ≠ 0) (v : List Int) : setL v x = v.set (var x) (if 0 < x then 1 else -1) := by
  unfold setL Sv.var
  split
  · rw [show (max x (-x) - 1).toNat = (x - 1).toNat from by omega]
  · rw [show (max x (-x) - 1).toNat = (-x - 1).toNat from by omega]
theorem ofL_zero {x : Int} (h : x ≠ 0) (v : List Int) : ofL v x = 0 ↔ v.getD (var x) 0 = 0 := by
  rw [ofL_var h]
  split <;> omega
theorem ofL_neg {x : Int} (h : x ≠ 0) (v : List Int) : ofL v (-x) = -ofL v x := by
  rw [ofL_var h, ofL_var (by omega)]
  have : var (-x) = var x := by unfold Sv.var; omega
  rw [this]
  split <;> split <;> omega
theorem var_neg (x : Int) : var (-x) = var x := by unfold Sv.var; omega

/-! ### what is open -/
def openN (v : List Int) : Nat := v.count 0
theorem openN_set : ∀ (v : List Int) (k : Nat) (y : Int), k < v.length → v.getD k 0 = 0 → y ≠ 0 → openN (v.set k y) + 1 = openN v
  | [], k, y, h, _, _ => by simp at h
  | a :: v, 0, y, _, h0, hy => by
    have : a = 0 := by simpa using h0
    subst this
    unfold openN
    rw [List.set_cons_zero, List.count_cons_self, List.count_cons_of_ne hy]
  | a :: v, k + 1, y, h, h0, hy => by
    have ih := openN_set v k y (by simpa using h) (by simpa using h0) hy
    unfold openN at *
    rw [List.set_cons_succ]
    by_cases ha : a = 0
    · subst ha
      rw [List.count_cons_self, List.count_cons_self]
      omega
    · rw [List.count_cons_of_ne ha, List.count_cons_of_ne ha]
      exact ih
theorem openN_setL {n : Nat} {v : List Int} {x : Int} (hn : v.length = n) (h : LitN n x) (h0 : ofL v x = 0) : openN (setL v x) + 1 = openN v := by
  rw [setL_var h.1]
  exact openN_set v _ _ (by rw [hn]; exact h.var) ((ofL_zero h.1 v).1 h0) (by split <;> omega)

/-! ### what a look tells is open -/
theorem lookGo_open {v : List Int} {P : Int → Prop} : ∀ (c : List Int) (o k : Int) (ng : Bool), (∀ l ∈ c, l ≠ 0 ∧ P l) → (o = 0 → k = 2) → (o ≠ 0 → (ofL v o = 0 ∧ P o) ∧ k ≠ 2) →
    (lookGo v c o k ng).1 = 3 ∨ (lookGo v c o k ng).1 = 4 → (lookGo v c o k ng).2 ≠ 0 ∧ ofL v (lookGo v c o k ng).2 = 0 ∧ P (lookGo v c o k ng).2
  | [], o, k, ng, _, h1, h2, h => by
    rw [lookGo] at h ⊢
    by_cases ho : o = 0
    · have := h1 ho
      subst this
      simp at h
    · exact ⟨ho, (h2 ho).1⟩
  | l :: c, o, k, ng, hc, h1, h2, h => by
    have hl := hc l List.mem_cons_self
    have hc' : ∀ l ∈ c, l ≠ 0 ∧ P l := fun x hx => hc x (List.mem_cons_of_mem _ hx)
    rw [lookGo] at h ⊢
    split at h
    · simp at h
    · rename_i g1
      rw [if_neg g1]
      split at h
      · rename_i g2
        rw [if_pos g2]
        exact lookGo_open c o k ng hc' h1 h2 h
      · rename_i g2
        rw [if_neg g2]
        have h0 : ofL v l = 0 := by omega
        split at h
        · rename_i g3
          rw [if_pos g3]
          exact lookGo_open c l 3 _ hc' (fun e => absurd e hl.1) (fun _ => ⟨⟨h0, hl.2⟩, by omega⟩) h
        · rename_i g3
          rw [if_neg g3]
          split at h
          · rename_i g4
            rw [if_pos g4]
            exact lookGo_open c o k _ hc' h1 h2 h
          · rename_i g4
            rw [if_neg g4]
            exact lookGo_open c o 0 _ hc' (fun e => absurd e g3) (fun _ => ⟨(h2 g3).1, by omega⟩) h
theorem look_open {v : List Int} {P : Int → Prop} (c : List Int) (hc : ∀ l ∈ c, l ≠ 0 ∧ P l) (h : (look v c).1 = 3 ∨ (look v c).1 = 4) : (look v c).2 ≠ 0 ∧ ofL v (look v c).2 = 0 ∧ P (look v c).2 :=
  lookGo_open c 0 2 false hc (fun _ => rfl) (fun e => absurd rfl e) h

/-- None, or an open literal of those that may be. -/
def OpenOr (v : List Int) (P : Int → Prop) (u : Int) : Prop := u = 0 ∨ (ofL v u = 0 ∧ P u)
theorem scanGo_open {v : List Int} {bud : Int} {P : Int → Prop} : ∀ (cl : List (List Int)) (st u p : Int), (∀ c ∈ cl, ∀ l ∈ c, l ≠ 0 ∧ P l) → OpenOr v P u → OpenOr v P p →
    OpenOr v P (scanGo v bud cl st u p).unit ∧ OpenOr v P (scanGo v bud cl st u p).press
  | [], st, u, p, _, hu, hp => by rw [scanGo]; exact ⟨hu, hp⟩
  | c :: cl, st, u, p, hc, hu, hp => by
    have hc' : ∀ c ∈ cl, ∀ l ∈ c, l ≠ 0 ∧ P l := fun x hx => hc x (List.mem_cons_of_mem _ hx)
    have hk := look_open (v := v) c (hc c List.mem_cons_self)
    rw [scanGo]
    split
    · exact ⟨.inl rfl, .inl rfl⟩
    · split
      · exact ⟨hu, hp⟩
      · refine scanGo_open cl _ _ _ hc' ?_ ?_
        · split
          · rename_i g
            split
            · exact .inr (hk (.inl g)).2
            · exact hu
          · exact hu
        · split
          · rename_i g
            split
            · exact .inr (hk (.inr g)).2
            · exact hp
          · exact hp
theorem scanGo_steps {v : List Int} {bud : Int} : ∀ (cl : List (List Int)) (st u p : Int), st ≤ bud → st ≤ (scanGo v bud cl st u p).steps ∧ (scanGo v bud cl st u p).steps ≤ bud ∧ ((scanGo v bud cl st u p).spent = true → (scanGo v bud cl st u p).steps = bud) ∧
    (cl ≠ [] → (scanGo v bud cl st u p).spent = false → st < (scanGo v bud cl st u p).steps)
  | [], st, u, p, h => by rw [scanGo]; exact ⟨Int.le_refl _, h, fun e => by simp at e, fun e => absurd rfl e⟩
  | c :: cl, st, u, p, h => by
    rw [scanGo]
    split
    · rename_i g
      exact ⟨Int.le_refl _, h, fun _ => g, fun _ e => by simp at e⟩
    · split
      · exact ⟨by show st ≤ st + 1; omega, by show st + 1 ≤ bud; omega, fun e => by simp at e, fun _ _ => by show st < st + 1; omega⟩
      · obtain ⟨h1, h2, h3, _⟩ := scanGo_steps (v := v) cl (st + 1) (if (look v c).1 = 3 then (if u = 0 then (look v c).2 else u) else u) (if (look v c).1 = 4 then (if p = 0 then (look v c).2 else p) else p) (by omega : st + 1 ≤ bud)
        exact ⟨by omega, h2, h3, fun _ _ => by omega⟩

/-! ### the problem -/
structure Lits (n : Nat) (cl : List (List Int)) (pf : List Int) : Prop where
  cl : ∀ c ∈ cl, ∀ l ∈ c, LitN n l
  pf : ∀ l ∈ pf, LitN n l

/-- The literal that is decided on. -/
def decision (pf : List Int) (v : List Int) (press : Int) : Int := match firstOpen v pf with | some l => l | none => press

theorem decision_open {n : Nat} {cl : List (List Int)} {pf : List Int} {v : List Int} {press : Int} (h : Lits n cl pf) (hp : OpenOr v (LitN n) press) : OpenOr v (LitN n) (decision pf v press) := by
  unfold decision
  cases hf : firstOpen v pf with
  | none => exact hp
  | some l =>
    unfold firstOpen at hf
    exact .inr ⟨by simpa using List.find?_some hf, h.pf l (List.mem_of_find?_eq_some hf)⟩

theorem scan_open {n : Nat} {cl : List (List Int)} {pf : List Int} (h : Lits n cl pf) (bud : Int) (v : List Int) (st : Int) : OpenOr v (LitN n) (scan cl bud v st).unit ∧ OpenOr v (LitN n) (scan cl bud v st).press :=
  scanGo_open cl st 0 0 (fun c hc l hl => ⟨(h.cl c hc l hl).1, h.cl c hc l hl⟩) (.inl rfl) (.inl rfl)

/-- One round of the definition, named. -/
theorem go_succ (cl : List (List Int)) (pf : List Int) (bud : Int) (f : Nat) (v : List Int) (st : Int) : go cl pf bud (f + 1) v st =
    if (scan cl bud v st).spent = true then .spent (scan cl bud v st).steps
    else if (scan cl bud v st).failed = true then .unsat (scan cl bud v st).steps
    else if (scan cl bud v st).unit ≠ 0 then go cl pf bud f (setL v (scan cl bud v st).unit) (scan cl bud v st).steps
    else if decision pf v (scan cl bud v st).press = 0 then .sat v (scan cl bud v st).steps
    else match go cl pf bud f (setL v (decision pf v (scan cl bud v st).press)) (scan cl bud v st).steps with
        | .unsat s2 => go cl pf bud f (setL v (-decision pf v (scan cl bud v st).press)) s2
        | r => r := by
  rw [go]
  split
  · rfl
  · split
    · rfl
    · split
      · rfl
      · show (match decision pf v (scan cl bud v st).press with | 0 => _ | l => _) = _
        generalize decision pf v (scan cl bud v st).press = d
        split
        · rw [if_pos rfl]
        · rename_i hd
          rw [if_neg hd]
          rfl

/-- Enough rounds are enough. -/
theorem go_fuel {n : Nat} {cl : List (List Int)} {pf : List Int} (h : Lits n cl pf) (bud : Int) : ∀ (f f' : Nat) (v : List Int) (st : Int), v.length = n → openN v < f → openN v < f' → go cl pf bud f v st = go cl pf bud f' v st
  | 0, _, _, _, _, h1, _ => by omega
  | _, 0, _, _, _, _, h1 => by omega
  | f + 1, f' + 1, v, st, hv, h1, h2 => by
    have ho := scan_open h bud v st
    have hd := decision_open h ho.2
    rw [go_succ, go_succ]
    split
    · rfl
    · split
      · rfl
      · split
        · rename_i hu
          rcases ho.1 with e | e
          · exact absurd e hu
          · have := openN_setL hv e.2 e.1
            exact go_fuel h bud f f' _ _ (by rw [setL_length, hv]) (by omega) (by omega)
        · split
          · rfl
          · rename_i hn
            rcases hd with e | e
            · exact absurd e hn
            · have h3 := openN_setL hv e.2 e.1
              have h4 := openN_setL hv e.2.neg (by rw [ofL_neg e.2.1, e.1]; rfl)
              rw [go_fuel h bud f f' _ (scan cl bud v st).steps (by rw [setL_length, hv]) (by omega) (by omega)]
              split
              · exact go_fuel h bud f f' _ _ (by rw [setL_length, hv]) (by omega) (by omega)
              · rfl

theorem go_sat_length {n : Nat} (cl : List (List Int)) (pf : List Int) (bud : Int) : ∀ (f : Nat) (v : List Int) (st : Int) (v' : List Int) (st' : Int), v.length = n → go cl pf bud f v st = .sat v' st' → v'.length = n
  | 0, _, _, _, _, _, h => by rw [go] at h; cases h
  | f + 1, v, st, v', st', hv, h => by
    rw [go_succ] at h
    split at h
    · cases h
    · split at h
      · cases h
      · split at h
        · exact go_sat_length cl pf bud f _ _ _ _ (by rw [setL_length, hv]) h
        · split at h
          · cases h
            exact hv
          · split at h
            · exact go_sat_length cl pf bud f _ _ _ _ (by rw [setL_length, hv]) h
            · exact go_sat_length cl pf bud f _ _ _ _ (by rw [setL_length, hv]) h

/-! ### the trail -/
def valsOf (n : Nat) (t : List Int) : List Int := t.foldl setL (List.replicate n 0)
theorem valsOf_snoc (n : Nat) (t : List Int) (x : Int) : valsOf n (t ++ [x]) = setL (valsOf n t) x := by
  unfold valsOf; rw [List.foldl_append]; rfl
inductive Tr (n : Nat) : List Int → Prop
  | nil : Tr n []
  | snoc {t : List Int} {x : Int} : Tr n t → LitN n x → ofL (valsOf n t) x = 0 → Tr n (t ++ [x])
theorem valsOf_length (n : Nat) (t : List Int) : (valsOf n t).length = n := by
  unfold valsOf
  have : ∀ v : List Int, (t.foldl setL v).length = v.length := by
    induction t with
    | nil => intro v; rfl
    | cons x t ih => intro v; rw [List.foldl_cons, ih, setL_length]
  rw [this, List.length_replicate]
theorem Tr.lit {n : Nat} {t : List Int} (h : Tr n t) : ∀ x ∈ t, LitN n x := by
  induction h with
  | nil => intro x hx; cases hx
  | snoc _ hl _ ih =>
    intro x hx
    rcases List.mem_append.1 hx with hx | hx
    · exact ih x hx
    · rw [List.mem_singleton.1 hx]; exact hl
theorem Tr.openN {n : Nat} {t : List Int} (h : Tr n t) : Sv.openN (valsOf n t) + t.length = n := by
  induction h with
  | nil => simp [valsOf, Sv.openN]
  | @snoc t x h hl ho ih =>
    have := openN_setL (valsOf_length n t) hl ho
    rw [valsOf_snoc, List.length_append, List.length_singleton]
    omega
theorem getD_set (v : List Int) (k i : Nat) (y : Int) (hk : k < v.length) : (v.set k y).getD i 0 = if i = k then y else v.getD i 0 := by
  rw [List.getD_eq_getElem?_getD, List.getD_eq_getElem?_getD, List.getElem?_set]
  by_cases h : k = i
  · subst h; simp [hk]
  · rw [if_neg h, if_neg (Ne.symm h)]
theorem Tr.tri {n : Nat} {t : List Int} (h : Tr n t) : ∀ k, -1 ≤ (valsOf n t).getD k 0 ∧ (valsOf n t).getD k 0 ≤ 1 := by
  induction h with
  | nil =>
    intro k
    have : (valsOf n []).getD k 0 = 0 := by
      simp only [valsOf, List.foldl_nil, List.getD_eq_getElem?_getD, List.getElem?_replicate]
      split <;> rfl
    rw [this]; omega
  | @snoc t x h hl ho ih =>
    intro k
    rw [valsOf_snoc, setL_var hl.1, getD_set _ _ _ _ (by rw [valsOf_length]; exact hl.var)]
    split
    · split <;> omega
    · exact ih k
theorem Tr.take {n : Nat} {t : List Int} (h : Tr n t) : ∀ k, Tr n (t.take k) := by
  induction h with
  | nil => intro k; rw [List.take_nil]; exact .nil
  | @snoc t x h hl ho ih =>
    intro k
    rcases Nat.lt_or_ge t.length k with hk | hk
    · rw [List.take_of_length_le (by simp; omega)]
      exact .snoc h hl ho
    · rw [List.take_append_of_le_length hk]
      exact ih k
/-- What a shorter trail says, place by place. -/
theorem Tr.get_take {n : Nat} {t : List Int} (h : Tr n t) : ∀ k i, (valsOf n (t.take k)).getD i 0 = if (∃ x ∈ t.drop k, var x = i) then 0 else (valsOf n t).getD i 0 := by
  induction h with
  | nil => intro k i; simp
  | @snoc t x h hl ho ih =>
    intro k i
    rcases Nat.lt_or_ge t.length k with hk | hk
    · rw [List.take_of_length_le (by simp; omega), List.drop_eq_nil_of_le (by simp; omega)]
      simp
    · rw [List.take_append_of_le_length hk, List.drop_append_of_le_length hk, ih k i, valsOf_snoc, setL_var hl.1, getD_set _ _ _ _ (by rw [valsOf_length]; exact hl.var)]
      have h0 := (ofL_zero hl.1 _).1 ho
      by_cases e : i = var x
      · subst e
        rw [if_pos (show ∃ y ∈ t.drop k ++ [x], var y = var x from ⟨x, by simp, rfl⟩), h0]
        split <;> rfl
      · have : (∃ y ∈ t.drop k ++ [x], var y = i) ↔ (∃ y ∈ t.drop k, var y = i) := by
          constructor
          · rintro ⟨y, hy, he⟩
            rcases List.mem_append.1 hy with hy | hy
            · exact ⟨y, hy, he⟩
            · rw [List.mem_singleton.1 hy] at he; exact absurd he.symm e
          · rintro ⟨y, hy, he⟩; exact ⟨y, List.mem_append_left _ hy, he⟩
        simp only [this, if_neg e]
theorem undo_get : ∀ (xs v : List Int) (i : Nat), (∀ x ∈ xs, var x < v.length) → (undo v xs).getD i 0 = if (∃ x ∈ xs, var x = i) then 0 else v.getD i 0
  | [], v, i, _ => by simp [undo]
  | x :: xs, v, i, h => by
    have hx := h x List.mem_cons_self
    have := undo_get xs (v.set (var x) 0) i (fun y hy => by rw [List.length_set]; exact h y (List.mem_cons_of_mem _ hy))
    show (undo (v.set (var x) 0) xs).getD i 0 = _
    rw [this, getD_set _ _ _ _ hx]
    by_cases e : i = var x
    · subst e
      rw [if_pos (show ∃ y ∈ x :: xs, var y = var x from ⟨x, List.mem_cons_self, rfl⟩)]
      simp
    · have : (∃ y ∈ x :: xs, var y = i) ↔ (∃ y ∈ xs, var y = i) := by
        constructor
        · rintro ⟨y, hy, he⟩
          rcases List.mem_cons.1 hy with rfl | hy
          · exact absurd he.symm e
          · exact ⟨y, hy, he⟩
        · rintro ⟨y, hy, he⟩; exact ⟨y, List.mem_cons_of_mem _ hy, he⟩
      simp only [this, if_neg e]
theorem ext_getD {a b : List Int} (hl : a.length = b.length) (h : ∀ i, a.getD i 0 = b.getD i 0) : a = b := by
  refine List.ext_getElem hl (fun i h1 h2 => ?_)
  have := h i
  rw [List.getD_eq_getElem?_getD, List.getD_eq_getElem?_getD, List.getElem?_eq_getElem h1, List.getElem?_eq_getElem h2] at this
  exact this
theorem Tr.undo {n : Nat} {t : List Int} (h : Tr n t) (k : Nat) : Sv.undo (valsOf n t) (t.drop k) = valsOf n (t.take k) := by
  refine ext_getD (by rw [undo_length, valsOf_length, valsOf_length]) (fun i => ?_)
  rw [h.get_take, undo_get _ _ _ (fun x hx => by rw [valsOf_length]; exact (h.lit x (List.mem_of_mem_drop hx)).var)]

/-! ### the stack of decisions -/
def stk (n : Nat) : List (Int × Bool) → List Int → List (List Int × Int × Bool)
  | [], _ => []
  | (a, sec) :: r, t => (valsOf n (t.take a.toNat), t.getD a.toNat 0, sec) :: stk n r (t.take a.toNat)
/-- The search goes on behind an answer, decision by decision. -/
def resume (F : List Int → Int → Res) : List (List Int × Int × Bool) → Res → Res
  | [], r => r
  | (v0, lit, sec) :: k, .unsat s => if sec = true then resume F k (.unsat s) else resume F k (F (setL v0 (-lit)) s)
  | _ :: _, r => r
theorem resume_spent (F : List Int → Int → Res) (k : List (List Int × Int × Bool)) (s : Int) : resume F k (.spent s) = .spent s := by cases k <;> rfl
theorem resume_sat (F : List Int → Int → Res) (k : List (List Int × Int × Bool)) (v : List Int) (s : Int) : resume F k (.sat v s) = .sat v s := by cases k <;> rfl

theorem stk_take {n : Nat} : ∀ (r : List (Int × Bool)) (t : List Int) (m : Nat), ChOK r m → m ≤ t.length → stk n r (t.take m) = stk n r t
  | [], _, _, _, _ => rfl
  | (a, sec) :: r, t, m, ⟨h0, h1, h2⟩, hm => by
    have hma : a.toNat ≤ m := by omega
    rw [stk, stk, List.take_take, Nat.min_eq_left hma]
    congr 2
    rw [List.getD_eq_getElem?_getD, List.getD_eq_getElem?_getD, List.getElem?_take, if_pos (by omega)]
theorem stk_append {n : Nat} (r : List (Int × Bool)) (t : List Int) (x : List Int) (h : ChOK r t.length) : stk n r (t ++ x) = stk n r t := by
  rw [← stk_take r (t ++ x) t.length h (by simp), List.take_left]

theorem ChOK_mono : ∀ (r : List (Int × Bool)) (m m' : Int), ChOK r m → m ≤ m' → ChOK r m'
  | [], _, _, _, _ => trivial
  | (a, s) :: r, m, m', ⟨h0, h1, h2⟩, h => ⟨h0, by omega, h2⟩

/-- Going back is going on behind 'none'. -/
theorem back_resume {n : Nat} {F : List Int → Int → Res} (s : Int) : ∀ (ch : List (Int × Bool)) (t : List Int), Tr n t → ChOK ch t.length →
    match back ch (valsOf n t) t with
    | none => resume F (stk n ch t) (.unsat s) = .unsat s
    | some (ch', v', t') => v' = valsOf n t' ∧ Tr n t' ∧ ChOK ch' t'.length ∧ resume F (stk n ch' t') (F v' s) = resume F (stk n ch t) (.unsat s)
  | [], t, ht, _ => by rw [back]; rfl
  | (a, sec) :: r, t, ht, ⟨h0, h1, h2⟩ => by
    have hu := ht.undo a.toNat
    have hta := ht.take a.toNat
    have hlen : (t.take a.toNat).length = a.toNat := by rw [List.length_take]; omega
    have hca : ChOK r ((t.take a.toNat).length : Int) := by rw [hlen]; exact ChOK_mono r _ _ h2 (by omega)
    rw [back]
    cases sec with
    | true =>
      rw [if_pos rfl, hu]
      have ih := back_resume (F := F) s r (t.take a.toNat) hta hca
      rw [stk, resume, if_pos rfl]
      exact ih
    | false =>
      rw [if_neg (by decide), hu]
      have hget : t.getD a.toNat 0 ∈ t := by rw [List.getD_eq_getElem?_getD, List.getElem?_eq_getElem (by omega : a.toNat < t.length)]; exact List.getElem_mem _
      have hlit := ht.lit _ hget
      have hop : ofL (valsOf n (t.take a.toNat)) (t.getD a.toNat 0) = 0 := by
        have hm : t.getD a.toNat 0 ∈ t.drop a.toNat := by
          rw [List.drop_eq_getElem_cons (by omega : a.toNat < t.length), List.getD_eq_getElem?_getD, List.getElem?_eq_getElem (by omega : a.toNat < t.length)]
          exact List.mem_cons_self
        rw [ofL_zero hlit.1, ht.get_take, if_pos ⟨_, hm, rfl⟩]
      refine ⟨(valsOf_snoc _ _ _).symm, .snoc hta hlit.neg (by rw [ofL_neg hlit.1, hop]; rfl), ⟨h0, by rw [List.length_append, hlen, List.length_singleton]; omega, h2⟩, ?_⟩
      have e1 : (t.take a.toNat ++ [-t.getD a.toNat 0]).take a.toNat = t.take a.toNat := by
        rw [List.take_append_of_le_length (by omega), List.take_take, Nat.min_self]
      rw [stk, e1, stk]
      show resume F ((_, _, true) :: _) (F (setL (valsOf n (t.take a.toNat)) (-t.getD a.toNat 0)) s) = resume F (stk n r (t.take a.toNat)) (F (setL (valsOf n (t.take a.toNat)) (-t.getD a.toNat 0)) s)
      cases hF : F (setL (valsOf n (t.take a.toNat)) (-t.getD a.toNat 0)) s with
      | spent x => rw [resume_spent, resume_spent]
      | sat v x => rw [resume_sat, resume_sat]
      | unsat x => rw [resume, if_pos rfl]

/-! ### the run -/
/-- The state of a search whose answer is R. -/
structure RunAt (n : Nat) (cl : List (List Int)) (pf : List Int) (bud : Int) (R : Res) (vals t : List Int) (ch : List (Int × Bool)) (st : Int) : Prop where
  tr : Tr n t
  valsq : vals = valsOf n t
  chk : ChOK ch t.length
  lo : 0 ≤ st
  hi : st ≤ bud
  res : resume (go cl pf bud (n + 1)) (stk n ch t) (go cl pf bud (n + 1) vals st) = R

theorem RunAt.start (n : Nat) (cl : List (List Int)) (pf : List Int) (bud : Int) (h : 0 ≤ bud) : RunAt n cl pf bud (go cl pf bud (n + 1) (List.replicate n 0) 0) (List.replicate n 0) [] [] 0 :=
  ⟨.nil, rfl, trivial, Int.le_refl _, h, rfl⟩

section
variable {n : Nat} {cl : List (List Int)} {pf : List Int} {bud : Int} {R : Res} {vals t : List Int} {ch : List (Int × Bool)} {st : Int}
theorem RunAt.open_lt (h : RunAt n cl pf bud R vals t ch st) : openN vals < n + 1 := by
  have := h.tr.openN
  rw [h.valsq]
  omega
theorem RunAt.tr_le (h : RunAt n cl pf bud R vals t ch st) : t.length ≤ n := by
  have := h.tr.openN
  omega
theorem RunAt.ch_le (h : RunAt n cl pf bud R vals t ch st) : ch.length ≤ n := by
  have := h.tr_le
  rcases ChOK_length _ _ h.chk with e | e
  · rw [e]; simp
  · omega
theorem RunAt.spent (h : RunAt n cl pf bud R vals t ch st) (hs : (scan cl bud vals st).spent = true) : R = .spent (scan cl bud vals st).steps := by
  have := h.res
  rw [go_succ, if_pos hs, resume_spent] at this
  exact this.symm
theorem RunAt.failed (h : RunAt n cl pf bud R vals t ch st) (hs : (scan cl bud vals st).spent = false) (hf : (scan cl bud vals st).failed = true) :
    match back ch vals t with
    | none => R = .unsat (scan cl bud vals st).steps
    | some (ch', v', t') => RunAt n cl pf bud R v' t' ch' (scan cl bud vals st).steps := by
  have hb := back_resume (F := go cl pf bud (n + 1)) (scan cl bud vals st).steps ch t h.tr h.chk
  have hres := h.res
  rw [go_succ, if_neg (by rw [hs]; decide), if_pos hf] at hres
  obtain ⟨h1, h2, _⟩ := scanGo_steps (v := vals) (bud := bud) cl st 0 0 h.hi
  have hlo := h.lo
  rw [← h.valsq] at hb
  cases hbk : back ch vals t with
  | none => rw [hbk] at hb; exact hres.symm.trans hb
  | some x =>
    obtain ⟨ch', v', t'⟩ := x
    rw [hbk] at hb
    obtain ⟨a, b, c, d⟩ := hb
    exact ⟨b, a, c, Int.le_trans hlo h1, h2, d.trans hres⟩
theorem RunAt.unit (h : RunAt n cl pf bud R vals t ch st) (hl : Lits n cl pf) (hs : (scan cl bud vals st).spent = false) (hf : (scan cl bud vals st).failed = false) (hu : (scan cl bud vals st).unit ≠ 0) :
    LitN n (scan cl bud vals st).unit ∧ ofL vals (scan cl bud vals st).unit = 0 ∧ RunAt n cl pf bud R (setL vals (scan cl bud vals st).unit) (t ++ [(scan cl bud vals st).unit]) ch (scan cl bud vals st).steps := by
  have ho := (scan_open hl bud vals st).1
  rcases ho with e | ⟨h0, h1⟩
  · exact absurd e hu
  · obtain ⟨h2, h3, _⟩ := scanGo_steps (v := vals) (bud := bud) cl st 0 0 h.hi
    have hres := h.res
    rw [go_succ, if_neg (by rw [hs]; decide), if_neg (by rw [hf]; decide), if_pos hu] at hres
    have hlen : vals.length = n := by rw [h.valsq, valsOf_length]
    have hop := openN_setL hlen h1 h0
    have hlt := h.open_lt
    have hlo := h.lo
    refine ⟨h1, h0, .snoc h.tr h1 (by rw [← h.valsq]; exact h0), by rw [valsOf_snoc, h.valsq], ChOK_mono _ _ _ h.chk (by rw [List.length_append, List.length_singleton]; omega), Int.le_trans hlo h2, h3, ?_⟩
    rw [stk_append _ _ _ h.chk, ← hres, go_fuel hl bud (n + 1) n _ _ (by rw [setL_length, hlen]) (by omega) (by omega)]
theorem RunAt.sat (h : RunAt n cl pf bud R vals t ch st) (hs : (scan cl bud vals st).spent = false) (hf : (scan cl bud vals st).failed = false) (hu : (scan cl bud vals st).unit = 0) (hd : decision pf vals (scan cl bud vals st).press = 0) :
    R = .sat vals (scan cl bud vals st).steps := by
  have := h.res
  rw [go_succ, if_neg (by rw [hs]; decide), if_neg (by rw [hf]; decide), if_neg (by rw [hu]; decide), if_pos hd, resume_sat] at this
  exact this.symm
theorem RunAt.decide_ (h : RunAt n cl pf bud R vals t ch st) (hl : Lits n cl pf) (hs : (scan cl bud vals st).spent = false) (hf : (scan cl bud vals st).failed = false) (hu : (scan cl bud vals st).unit = 0) (hd : decision pf vals (scan cl bud vals st).press ≠ 0) :
    LitN n (decision pf vals (scan cl bud vals st).press) ∧ ofL vals (decision pf vals (scan cl bud vals st).press) = 0 ∧
      RunAt n cl pf bud R (setL vals (decision pf vals (scan cl bud vals st).press)) (t ++ [decision pf vals (scan cl bud vals st).press]) (((t.length : Int), false) :: ch) (scan cl bud vals st).steps := by
  have ho := decision_open hl (scan_open hl bud vals st).2
  rcases ho with e | ⟨h0, h1⟩
  · exact absurd e hd
  · obtain ⟨h2, h3, _⟩ := scanGo_steps (v := vals) (bud := bud) cl st 0 0 h.hi
    have hres := h.res
    rw [go_succ, if_neg (by rw [hs]; decide), if_neg (by rw [hf]; decide), if_neg (by rw [hu]; decide), if_neg hd] at hres
    have hlen : vals.length = n := by rw [h.valsq, valsOf_length]
    have hop := openN_setL hlen h1 h0
    have hop2 := openN_setL hlen h1.neg (by rw [ofL_neg h1.1, h0]; rfl)
    have hlt := h.open_lt
    have hlo := h.lo
    generalize decision pf vals (scan cl bud vals st).press = d at *
    refine ⟨h1, h0, .snoc h.tr h1 (by rw [← h.valsq]; exact h0), by rw [valsOf_snoc, h.valsq], ⟨by omega, by rw [List.length_append, List.length_singleton]; omega, h.chk⟩, Int.le_trans hlo h2, h3, ?_⟩
    have e1 : (t ++ [d]).take t.length = t := List.take_left
    have e2 : (t ++ [d]).getD t.length 0 = d := by simp
    rw [stk, Int.toNat_natCast, e1, e2, ← hres, ← h.valsq, go_fuel hl bud (n + 1) n (setL vals d) _ (by rw [setL_length, hlen]) (by omega) (by omega)]
    cases hgo : go cl pf bud n (setL vals d) (scan cl bud vals st).steps with
    | spent x => rw [resume_spent, resume_spent]
    | sat v x => rw [resume_sat, resume_sat]
    | unsat x =>
      rw [resume, if_neg (by decide)]
      exact congrArg _ (go_fuel hl bud (n + 1) n _ _ (by rw [setL_length, hlen]) (by omega) (by omega))

/-- What every round lowers: the looks that are left; where there are no clauses, what is open. -/
def left (n : Nat) (bud st : Int) (v : List Int) : Nat := (bud - st).toNat * (n + 2) + openN v
theorem left_lt {v' : List Int} {st' : Int} (h : st < st') (hb : st' ≤ bud) (h0 : openN v' ≤ n) : left n bud st' v' < left n bud st vals := by
  unfold left
  have h1 : (bud - st').toNat + 1 ≤ (bud - st).toNat := by omega
  have h2 : ((bud - st').toNat + 1) * (n + 2) ≤ (bud - st).toNat * (n + 2) := Nat.mul_le_mul_right _ h1
  rw [Nat.add_mul] at h2
  omega
theorem left_lt' {v' : List Int} {st' : Int} (h : st ≤ st') (h0 : openN v' < openN vals) : left n bud st' v' < left n bud st vals := by
  unfold left
  have h1 : (bud - st').toNat ≤ (bud - st).toNat := by omega
  have h2 := Nat.mul_le_mul_right (n + 2) h1
  omega
theorem RunAt.left_set (h : RunAt n cl pf bud R vals t ch st) {d : Int} (hd : LitN n d) (h0 : ofL vals d = 0) : left n bud (scan cl bud vals st).steps (setL vals d) < left n bud st vals := by
  have h1 := (scanGo_steps (v := vals) (bud := bud) cl st 0 0 h.hi).1
  have h2 := openN_setL (by rw [h.valsq, valsOf_length]) hd h0
  exact left_lt' h1 (by omega)
theorem RunAt.left_back (h : RunAt n cl pf bud R vals t ch st) {v' t' : List Int} {ch' : List (Int × Bool)} (h' : RunAt n cl pf bud R v' t' ch' (scan cl bud vals st).steps) (hs : (scan cl bud vals st).spent = false) (hf : (scan cl bud vals st).failed = true) :
    left n bud (scan cl bud vals st).steps v' < left n bud st vals := by
  have hne : cl ≠ [] := by
    rintro rfl
    simp [scan, scanGo] at hf
  have h1 := (scanGo_steps (v := vals) (bud := bud) cl st 0 0 h.hi).2.2.2 hne hs
  exact left_lt h1 h'.hi (by have := h'.open_lt; omega)
end

end Go.Proofs.Ytfeablchjlkjiaa.Sv
