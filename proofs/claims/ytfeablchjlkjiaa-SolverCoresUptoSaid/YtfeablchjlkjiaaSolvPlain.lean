/-
  PLAIN: the search of layer 9 on lists and numbers. No program here.
-/
namespace Go.Proofs.Ytfeablchjlkjiaa.Sv

/-- What a literal is by the values: 1 true, -1 false, 0 open. -/
def ofL (v : List Int) (lit : Int) : Int := if 0 < lit then v.getD (lit - 1).toNat 0 else -v.getD (-lit - 1).toNat 0
/-- The values, and a literal made true. -/
def setL (v : List Int) (lit : Int) : List Int := if 0 < lit then v.set (lit - 1).toNat 1 else v.set (-lit - 1).toNat (-1)

/-- What a clause is: 0 free, 1 true, 2 false, 3 unit, 4 pressing; and its first open literal. -/
def lookGo (v : List Int) : List Int → Int → Int → Bool → Int × Int
  | [], o, k, neg => (if k = 0 then (if neg = true then 0 else 4) else k, o)
  | lit :: r, o, k, neg =>
    if 0 < ofL v lit then (1, 0)
    else if ofL v lit < 0 then lookGo v r o k neg
    else if o = 0 then lookGo v r lit 3 (neg || decide (lit < 0))
    else if lit = o then lookGo v r o k (neg || decide (lit < 0))
    else lookGo v r o 0 (neg || decide (lit < 0))
def look (v : List Int) (c : List Int) : Int × Int := lookGo v c 0 2 false

/-- A look at the clauses. -/
structure Scan where
  failed : Bool
  spent : Bool
  unit : Int
  press : Int
  steps : Int
def scanGo (v : List Int) (bud : Int) : List (List Int) → Int → Int → Int → Scan
  | [], st, u, p => ⟨false, false, u, p, st⟩
  | c :: r, st, u, p =>
    if st = bud then ⟨false, true, 0, 0, st⟩
    else if (look v c).1 = 2 then ⟨true, false, u, p, st + 1⟩
    else scanGo v bud r (st + 1) (if (look v c).1 = 3 then (if u = 0 then (look v c).2 else u) else u) (if (look v c).1 = 4 then (if p = 0 then (look v c).2 else p) else p)
def scan (cl : List (List Int)) (bud : Int) (v : List Int) (st : Int) : Scan := scanGo v bud cl st 0 0

/-- All from a place of the trail on is open again. -/
def undo (v : List Int) (xs : List Int) : List Int := xs.foldl (fun v x => v.set (max x (-x) - 1).toNat 0) v

/-- Back to a decision whose second way is to be gone; the decisions' last one is first here. -/
def back : List (Int × Bool) → List Int → List Int → Option (List (Int × Bool) × List Int × List Int)
  | [], _, _ => none
  | (a, sec) :: r, v, t =>
    if sec = true then back r (undo v (t.drop a.toNat)) (t.take a.toNat)
    else some ((a, true) :: r, setL (undo v (t.drop a.toNat)) (-(t.getD a.toNat 0)), t.take a.toNat ++ [-(t.getD a.toNat 0)])

/-- The decisions' places on a trail of m literals: the last one is first here. -/
def ChOK : List (Int × Bool) → Int → Prop
  | [], _ => True
  | (a, _) :: r, m => 0 ≤ a ∧ a < m ∧ ChOK r a

theorem ChOK_length : ∀ (r : List (Int × Bool)) (m : Int), ChOK r m → r = [] ∨ (r.length : Int) ≤ m
  | [], _, _ => .inl rfl
  | (a, s) :: r, m, ⟨h0, h1, h2⟩ => by
    right
    rcases ChOK_length r a h2 with rfl | h
    · simp; omega
    · simp only [List.length_cons]; omega
theorem undo_length (xs : List Int) : ∀ v : List Int, (undo v xs).length = v.length := by
  induction xs with
  | nil => intro v; rfl
  | cons x xs ih => intro v; rw [undo, List.foldl_cons]; exact (ih _).trans (List.length_set)
theorem setL_length (v : List Int) (l : Int) : (setL v l).length = v.length := by
  unfold setL; split <;> simp
theorem undo_snoc (v xs : List Int) (x : Int) : undo v (xs ++ [x]) = (undo v xs).set (max x (-x) - 1).toNat 0 := by
  rw [undo, List.foldl_append]; rfl

/-- The first of some literals that is open. -/
def firstOpen (v : List Int) (pf : List Int) : Option Int := pf.find? (fun l => decide (ofL v l = 0))

inductive Res where
  | spent (steps : Int)
  | unsat (steps : Int)
  | sat (v : List Int) (steps : Int)

/-- The search, by definition. -/
def go (cl : List (List Int)) (pf : List Int) (bud : Int) : Nat → List Int → Int → Res
  | 0, _, st => .spent st
  | f + 1, v, st =>
    let s := scan cl bud v st
    if s.spent = true then .spent s.steps
    else if s.failed = true then .unsat s.steps
    else if s.unit ≠ 0 then go cl pf bud f (setL v s.unit) s.steps
    else match (match firstOpen v pf with | some l => l | none => s.press) with
      | 0 => .sat v s.steps
      | l => match go cl pf bud f (setL v l) s.steps with
        | .unsat s2 => go cl pf bud f (setL v (-l)) s2
        | r => r

/-- Is the literal one of n variables? -/
def rightL (n lit : Int) : Bool := decide (lit ≠ 0 ∧ -n ≤ lit ∧ lit ≤ n)
/-- What the look at all literals tells. -/
def litsOK (n : Int) (all : List (List Int)) : Int := if all.all (fun c => c.all (rightL n)) = true then 0 else 90
def check (n : Int) (cl : List (List Int)) (pf : List Int) (bud : Int) : Int :=
  if n < 0 ∨ 131071 < n ∨ bud < 0 ∨ 1152921504606846976 < bud then 1
  else litsOK n (cl ++ [pf])

/-- An answer: verdict, values, steps. -/
structure Found where
  verdict : Int
  values : List Bool
  steps : Int

def Res.looks : Res → Int
  | .spent s => s
  | .unsat s => s
  | .sat _ s => s
def Res.found : Res → Found
  | .spent s => ⟨3, [], s⟩
  | .unsat s => ⟨2, [], s⟩
  | .sat v s => ⟨1, v.map (fun x => decide (0 < x)), s⟩

def solve (n : Int) (cl : List (List Int)) (pf : List Int) (bud : Int) : Found × Int :=
  if check n cl pf bud = 0 then ((go cl pf bud (n.toNat + 1) (List.replicate n.toNat 0) 0).found, 0)
  else (⟨0, [], 0⟩, check n cl pf bud)

end Go.Proofs.Ytfeablchjlkjiaa.Sv

namespace Go.Proofs.Ytfeablchjlkjiaa
/-- Is a literal true by the values? -/
def saysL (vals : List Bool) (lit : Int) : Bool := if 0 < lit then vals.getD (lit - 1).toNat false else !vals.getD (-lit - 1).toNat false
/-- Are all clauses true by the values? -/
def modelL (cl : List (List Int)) (vals : List Bool) : Bool := cl.all (fun c => c.any (saysL vals))
/-- The values of n variables out of any list. -/
def paddedL (cand : List Bool) (n : Nat) : List Bool := (List.range n).map (fun i => cand.getD i false)
theorem paddedL_length (cand : List Bool) (n : Nat) : (paddedL cand n).length = n := by simp [paddedL]
theorem paddedL_snoc (cand : List Bool) (n : Nat) : paddedL cand (n + 1) = paddedL cand n ++ [cand.getD n false] := by simp [paddedL, List.range_succ]

end Go.Proofs.Ytfeablchjlkjiaa
